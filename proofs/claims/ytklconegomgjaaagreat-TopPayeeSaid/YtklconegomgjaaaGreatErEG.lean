/- What is proved here: the contract of spelling of the reference of layer 1: its error is 0 only where nothing is wrong. Condition: the alphabets lie in memory. -/
import Derived.Test.YtklconegomgjaaaGreatErAG
import Derived.Test.YtklconegomgjaaaGreatInfoG
import Derived.Test.YtklconegomgjaaaGreatPnBaseG
set_option linter.all false
set_option maxRecDepth 100000
set_option maxHeartbeats 16000000
namespace Go.Proofs.YtklconegomgjaaaGreat
section
open Go Go.RowKit Go.Shelf
def Zpn (b:EaB) (s:EaS):Prop:=0≤s.alpha∧s.alpha<b.alphas.length∧1≤s.text.size∧s.text.size≤5∧∀j (hj:j<s.text.size),0≤idxL (Zcy b s) (Zf8 s.text[j])
theorem Zq7 (a1 a2:Option Addr) (k1 k2:Nat) (b:EaB) (s:EaS) (w:World) (hm:BookC w a1 a2 k1 k2 b) (hs:s.text.size≤9223372036854775807):
  Calls Tryz.prog 65 #[(.agg #[.int .i64 b.sounds,.slice a1 b.alphas.length k1,.slice a2 b.spells.length k2]),.agg #[.int .i64 s.alpha,.string s.text]] w fun e w'=>∃r:Int,e=.returned (.int .i64 r)∧Hid (r=0→Zpn b s)∧Below w.heap.size w w':=by
 have l1:=hm.oka.len
 have la:=hm.oka.1
 have hal:∀A:Nat,s.alpha=(A:Int)→∀hA:A<b.alphas.length,Zcy b s=(b.alphas[A]'hA).letters:=fun A hAe hA=>by unfold Zcy;rw[hAe,Int.toNat_natCast,List.getElem?_eq_getElem hA];rfl
 have C0:=fun W=>Zd1 s.alpha 0 ((b.alphas.length:Int)-1) W
 have h0:=@Zbx s.alpha 0 ((b.alphas.length:Int)-1)
 generalize inB s.alpha 0 ((b.alphas.length:Int)-1)=c0 at C0 h0
 have C1:=fun W=>Zd1 (s.text.size:Int) 1 5 W
 have h1:=@Zbx (s.text.size:Int) 1 5
 generalize inB (s.text.size:Int) 1 5=c1 at C1 h1
 replace C0:=LH C0
 replace C1:=LH C1
 have HAL:=LH hal
 clear hal
 obtain⟨Y,hY⟩:∃Y:World,Y=(w.alloc (.cells #[.int .i64 b.sounds,.slice a1 b.alphas.length k1,.slice a2 b.spells.length k2] 25)).alloc (.cells #[.int .i64 s.alpha,.string s.text] 134):=⟨_,rfl⟩
 have hbY:Below w.heap.size w Y:=by rw[hY];exact((Below.refl _ _).alloc (Nat.le_refl _) _).alloc (by simp) _
 have hB1:Y.heap[w.heap.size]?=some (.cells #[.int .i64 b.sounds,.slice a1 b.alphas.length k1,.slice a2 b.spells.length k2] 25 (0,0)):=by rw[hY];exact(heap_alloc_old _ _ (by simp)).trans (Zac _ _ rfl)
 have hB2:Y.heap[w.heap.size+1]?=some (.cells #[.int .i64 s.alpha,.string s.text] 134 (0,0)):=by rw[hY];exact Zac _ _ (by simp)
 have HY:=LH hY
 clear hY
 have HA:=LH (hm.mono hbY).alphas
 have HBY:=LH hbY
 clear hm hbY
 obtain⟨alpha,text⟩:=s
 simp only at *
 have KE:Hid (∀V,Below Y.heap.size Y V→(V.cell? ⟨w.heap.size,1,none⟩=some (.slice a1 b.alphas.length k1)∧V.cell? ⟨w.heap.size+1,0,none⟩=some (.int .i64 alpha)∧V.cell? ⟨w.heap.size+1,1,none⟩=some (.string text)∧w.heap.size<V.heap.size∧w.heap.size+1<V.heap.size)):=LH (fun V h=>by
  have q1:=(h.block _ (lt_of_block hB1)).trans hB1
  have q2:=(h.block _ (lt_of_block hB2)).trans hB2
  exact⟨Zaa 1 q1 rfl,Zaa 0 q2 rfl,Zaa 1 q2 rfl,lt_of_block q1,lt_of_block q2⟩)
 clear hB1 hB2
 have hq:=KE.out _ (Below.refl _ Y)
 go_enter Tryz.func65,Tryz.ntmps65
 go_upto_region 1 with(fail)
 rw[←HY.out]
 have INA:=Zd1
 clear INA
 cases c0
 ·clear h0 h1
  go_wp2_with (go_at_call 19;go_must ((with_reducible refine(C0.out _).mono ?_);rintro e w' ⟨rfl,hw9⟩;obtain rfl:=hw9.symm;dsimp only))
  go_ret
  exact⟨4,rfl,LH (fun h=>by cases h),HBY.out⟩
 have H0:=LH (h0.1 rfl)
 clear h0
 cases c1
 ·clear h1
  go_wp2_with (first
   |(go_at_call 19;(with_reducible refine(C1.out _).mono ?_);rintro e w' ⟨rfl,hw9⟩;obtain rfl:=hw9.symm;dsimp only)
   |(go_at_call 19;(with_reducible refine(C0.out _).mono ?_);rintro e w' ⟨rfl,hw9⟩;obtain rfl:=hw9.symm;dsimp only))
  go_ret
  exact⟨3,rfl,LH (fun h=>by cases h),HBY.out⟩
 have H1:=LH (h1.1 rfl)
 clear h1
 go_upto_region 6 with(first
   |(go_at_call 19;(with_reducible refine(C1.out _).mono ?_);rintro e w' ⟨rfl,hw9⟩;obtain rfl:=hw9.symm;dsimp only)
   |(go_at_call 19;(with_reducible refine(C0.out _).mono ?_);rintro e w' ⟨rfl,hw9⟩;obtain rfl:=hw9.symm;dsimp only))
 obtain⟨A,rfl⟩:∃A:Nat,alpha=(A:Int):=⟨alpha.toNat,by have:=H0.out;omega⟩
 have hA:A<b.alphas.length:=by have:=H0.out;omega
 have HL:=LH (HAL.out A rfl hA)
 clear HAL hq
 have hA1:(A:Int)<(b.alphas.length:Int):=by omega
 go_loopw [5] (fun i V=>∃n:Nat,n≤text.size∧i=.int .i64 n∧Hid (∀j (h:j<text.size),j<n→0≤idxL (Zcy b ⟨(A:Int),text⟩) (Zf8 text[j]))∧Below Y.heap.size Y V) (fun i _=>text.size-(intOf i).toNat)
 case atStart=>exact⟨0,Nat.zero_le _,rfl,LH (fun i h g=>absurd g (Nat.not_lt_zero i)),Below.refl _ _⟩
 case round=>
  rename World=>V
  obtain⟨n,hn,rfl,HN,hbV⟩:=hrel
  obtain⟨xb,x0,x1,xbz,xz⟩:=KE.out _ hbV
  by_cases hlt:n<text.size
  ·obtain⟨b',off,rfl,hb',d0,al,cl,d1,d2,d3⟩:=(HA.out.mono hbV) A hA
   have hll:=d2.len
   have IX:=(fun(W:World) (h:Below V.heap.size V W)=>Znt (b.alphas[A]).name al (b.alphas[A]).letters cl (Zf8 text[n]) W hll (d3.mono h))
   have HN2:=LH (fun(h:0≤idxL (b.alphas[A]).letters (Zf8 text[n]))=>show ∀j (h:j<text.size),j<n+1→0≤idxL (Zcy b ⟨(A:Int),text⟩) (Zf8 text[j]) from fun i hi hij=>if hjk:i<n then HN.out i hi hjk else (by have e:i=n:=(by omega);subst e;rw[HL.out];exact h))
   generalize (b.alphas[A]).letters=ls at HN2 IX d1 hll
   generalize (b.alphas[A]).name=nm at IX d0
   generalize idxL ls (Zf8 text[n])=ix at HN2 IX
   unfold Zf8 at IX
   have IX:=LH IX
   clear d2 d3
   have SR:Hid (∀U,Below V.heap.size V U→(fun U=>Below V.heap.size V U∧U.cell? ⟨w.heap.size,1,none⟩=some (.slice (some ⟨b',off,none⟩) b.alphas.length k1)∧U.cell? ⟨w.heap.size+1,0,none⟩=some (.int .i64 (A:Int))∧U.cell? ⟨w.heap.size+1,1,none⟩=some (.string text)∧U.cell? ⟨b',off+A*2,none⟩=some (.string nm)∧U.cell? ⟨b',off+A*2+1,none⟩=some (.slice al ls.length cl)∧w.heap.size<U.heap.size∧w.heap.size+1<U.heap.size∧b'<U.heap.size) U):=LH (fun U h=>by
    obtain⟨q1,q2,q3,q4,q5⟩:=KE.out _ (hbV.trans (h.mono hbV.size))
    exact⟨h,q1,q2,q3,Zab h d0,Zab h d1,q4,q5,Nat.lt_of_lt_of_le hb' h.size⟩)
   go_upto_region 8 with(fail)
   have hg0:Below V.heap.size V V.drew:=Zah (Below.refl _ _)
   have hs0:=hg0.size
   clear xb x0 x1 xbz xz d0 d1 hb'
   by_cases hix:ix<0
   ·clear HN2
    go_region_held3 (fun U=>Below V.heap.size V U∧U.cell? ⟨w.heap.size,1,none⟩=some (.slice (some ⟨b',off,none⟩) b.alphas.length k1)∧U.cell? ⟨w.heap.size+1,0,none⟩=some (.int .i64 (A:Int))∧U.cell? ⟨w.heap.size+1,1,none⟩=some (.string text)∧U.cell? ⟨b',off+A*2,none⟩=some (.string nm)∧U.cell? ⟨b',off+A*2+1,none⟩=some (.slice al ls.length cl)∧w.heap.size<U.heap.size∧w.heap.size+1<U.heap.size∧b'<U.heap.size) (first|exact SR.out _ hg0|exact SR.out _ hg1) (first
     |(go_at_call 117;(with_reducible refine(IX.out _ hg0).mono ?_);rintro e w5 ⟨rfl,hgs⟩;have hg1:=hg0.trans (hgs.mono hs0);dsimp only))
    go_wp2
    go_ret
    exact⟨6,rfl,LH (fun h=>by cases h),HBY.out.trans ((hbV.trans (hg1.mono hbV.size)).mono HBY.out.size)⟩
   ·replace HN2:=LH (HN2.out (by omega))
    go_region_held3 (fun U=>Below V.heap.size V U∧U.cell? ⟨w.heap.size,1,none⟩=some (.slice (some ⟨b',off,none⟩) b.alphas.length k1)∧U.cell? ⟨w.heap.size+1,0,none⟩=some (.int .i64 (A:Int))∧U.cell? ⟨w.heap.size+1,1,none⟩=some (.string text)∧U.cell? ⟨b',off+A*2,none⟩=some (.string nm)∧U.cell? ⟨b',off+A*2+1,none⟩=some (.slice al ls.length cl)∧w.heap.size<U.heap.size∧w.heap.size+1<U.heap.size∧b'<U.heap.size) (first|exact SR.out _ hg0|exact SR.out _ hg1) (first
     |(go_at_call 117;(with_reducible refine(IX.out _ hg0).mono ?_);rintro e w5 ⟨rfl,hgs⟩;have hg1:=hg0.trans (hgs.mono hs0);dsimp only))
    go_wp2
    go_roundw
    case rel=>exact⟨n+1,by omega,by go_num,HN2,hbV.trans (hg1.mono hbV.size)⟩
    case measure=>simp[intOf];omega
  ·obtain rfl:n=text.size:=by omega
   have HR:Hid (Zpn b ⟨(A:Int),text⟩):=LH ⟨Int.natCast_nonneg A,by have:=H0.out;simp;omega,by have:=H1.out;simp;omega,by have:=H1.out;simp;omega,fun j hj=>HN.out j hj hj⟩
   go_wp2
   go_ret
   exact⟨0,rfl,LH (fun _=>HR.out),HBY.out.trans (hbV.mono HBY.out.size)⟩
end
section
open Go Go.RowKit Go.Shelf
theorem Zyp {s:ByteArray} {l:List ByteArray} (h:Zgr s l=0):Zhg s=true∧∀j (hj:j<l.length),l[j]≠s:=by
 unfold Zgr at h
 cases hn:Zhg s with
 |false=>rw[hn] at h;cases h
 |true=>
  rw[hn] at h
  simp only[if_true] at h
  cases hh:hasS l s with
  |true=>rw[hh] at h;cases h
  |false=>
   refine⟨rfl,fun j hj e=>?_⟩
   unfold hasS at hh
   rw[List.any_eq_false] at hh
   have:=hh _ (List.getElem_mem hj)
   simp[e] at this
def Zxl (b:EaB) (i:Nat) (hi:i<b.alphas.length):Prop:=Zhg b.alphas[i].name=true∧(∀j (hj:j<i),b.alphas[j].name≠b.alphas[i].name)∧Z7t b.sounds.toNat b.alphas[i].letters
theorem Zx2 {b:EaB} (h1:1≤b.sounds∧b.sounds≤4) (h2:1≤b.alphas.length∧b.alphas.length≤3) (h3:∀i (h:i<b.alphas.length),Zxl b i h) (h4:b.spells.length≤5) (h5:∀i (h:i<b.spells.length),Zpn b b.spells[i]):EaValid b:=
 ⟨h1,h2,fun i h=>⟨(h3 i h).1,(h3 i h).2.1⟩,fun i h=>(h3 i h).2.2.1,fun i h k hk=>(h3 i h).2.2.2 k hk,h4,fun i h=>h5 i h⟩
def Zqy (P:Prop) (w:World) (e:Ending) (w':World):Prop:=∃x y r:Int,e=.returned (.tuple #[.int .i64 x,.int .i64 y,.int .i64 r])∧Hid (r=0→P)∧Below w.heap.size w w'
theorem Zsd (a1 a2:Option Addr) (k1 k2:Nat) (b:EaB) (w:World) (hm:BookC w a1 a2 k1 k2 b) (hlb:∀x∈b.alphas,∀i (h:i<x.letters.length),0≤x.letters[i].letter∧x.letters[i].letter≤255):
  Calls Tryz.prog 18 #[(.agg #[.int .i64 b.sounds,.slice a1 b.alphas.length k1,.slice a2 b.spells.length k2])] w (Zqy (EaValid b) w):=by
 have l1:=hm.oka.len
 have l2:=hm.oks.len
 have la:=hm.oka.1
 have ls:=hm.oks.1
 have C0:=fun W=>Zd1 b.sounds 1 4 W
 have h0:=@Zbx b.sounds 1 4
 generalize inB b.sounds 1 4=c0 at C0 h0
 have C1:=fun W=>Zd1 (b.alphas.length:Int) 1 3 W
 have h1:=@Zbx (b.alphas.length:Int) 1 3
 generalize inB (b.alphas.length:Int) 1 3=c1 at C1 h1
 replace C0:=LH C0
 replace C1:=LH C1
 obtain⟨Y,hY⟩:∃Y:World,Y=(w.alloc (.cells #[.int .i64 b.sounds,.slice a1 b.alphas.length k1,.slice a2 b.spells.length k2] 25)):=⟨_,rfl⟩
 have hbY:Below w.heap.size w Y:=by rw[hY];exact(Below.refl _ _).alloc (Nat.le_refl _) _
 have hB1:Y.heap[w.heap.size]?=some (.cells #[.int .i64 b.sounds,.slice a1 b.alphas.length k1,.slice a2 b.spells.length k2] 25 (0,0)):=by rw[hY];exact Zac _ _ rfl
 have HY:=LH hY
 clear hY
 have hmY:=hm.mono hbY
 have HM:=LH hmY
 have HBY:=LH hbY
 have HLB:=LH hlb
 clear hm hmY hbY hlb
 have KE:Hid (∀V,Below Y.heap.size Y V→(V.cell? ⟨w.heap.size,0,none⟩=some (.int .i64 b.sounds)∧V.cell? ⟨w.heap.size,1,none⟩=some (.slice a1 b.alphas.length k1)∧V.cell? ⟨w.heap.size,2,none⟩=some (.slice a2 b.spells.length k2)∧w.heap.size<V.heap.size)):=LH (fun V h=>by
  have q1:=(h.block _ (lt_of_block hB1)).trans hB1
  exact⟨Zaa 0 q1 rfl,Zaa 1 q1 rfl,Zaa 2 q1 rfl,lt_of_block q1⟩)
 clear hB1
 have hq:=KE.out _ (Below.refl _ Y)
 go_enter Tryz.func18,Tryz.ntmps18
 go_upto_region 1 with(fail)
 rw[←HY.out]
 cases c0
 ·clear h0 h1
  go_wp2_with (go_at_call 19;go_must ((with_reducible refine(C0.out _).mono ?_);rintro e w' ⟨rfl,hw9⟩;obtain rfl:=hw9.symm;dsimp only))
  go_ret3
  exact⟨1,0,7,rfl,LH (fun h=>by cases h),HBY.out⟩
 have H0:=LH (h0.1 rfl)
 clear h0
 cases c1
 ·clear h1
  go_wp2_with (first
   |(go_at_call 19;(with_reducible refine(C1.out _).mono ?_);rintro e w' ⟨rfl,hw9⟩;obtain rfl:=hw9.symm;dsimp only)
   |(go_at_call 19;(with_reducible refine(C0.out _).mono ?_);rintro e w' ⟨rfl,hw9⟩;obtain rfl:=hw9.symm;dsimp only))
  go_ret3
  exact⟨2,0,3,rfl,LH (fun h=>by cases h),HBY.out⟩
 have H1:=LH (h1.1 rfl)
 clear h1
 go_upto_region 7 with(first
   |(go_at_call 19;(with_reducible refine(C1.out _).mono ?_);rintro e w' ⟨rfl,hw9⟩;obtain rfl:=hw9.symm;dsimp only)
   |(go_at_call 19;(with_reducible refine(C0.out _).mono ?_);rintro e w' ⟨rfl,hw9⟩;obtain rfl:=hw9.symm;dsimp only))
 clear hq
 obtain⟨S,hS⟩:∃S:Nat,b.sounds=(S:Int):=⟨b.sounds.toNat,by have:=H0.out;omega⟩
 have hS4:S≤4:=by have:=H0.out;omega
 have HS:=LH hS
 clear hS
 go_loopw [5,6] (fun o i V=>∃n:Nat,n≤b.alphas.length∧i=.int .i64 n∧V.ownsRow Y.heap.size 9 1 o n (((b.alphas.take n).map (·.name)).map Value.string)∧Hid (∀i (h:i<b.alphas.length),i<n→Zxl b i h)∧Below Y.heap.size Y V) (fun _ i _=>b.alphas.length-(intOf i).toNat)
 case atStart=>exact⟨0,Nat.zero_le _,rfl,World.ownsRow_nil _ _ _ _,LH (fun i h g=>absurd g (Nat.not_lt_zero i)),Below.refl _ _⟩
 case round=>
  rename World=>V
  obtain⟨n,hn,rfl,hown,HN,hbV⟩:=hrel
  by_cases hlt:n<b.alphas.length
  ·obtain⟨b',off,hae,hb',d0,al,cl,d1,d2,d3⟩:=HM.out.alphas n hlt
   have hlx:=HLB.out _ (List.getElem_mem hlt)
   have hsz:=HM.out.nsize _ (List.getElem_mem hlt)
   have hnm:Hid (((b.alphas.take (n+1)).map (·.name))=((b.alphas.take n).map (·.name))++[b.alphas[n].name]):=LH (by rw[List.take_succ_eq_append_getElem hlt,List.map_append];rfl)
   obtain⟨-,a3,c3,rfl,hs3,hi3⟩:=Z4w hown
   have hll:((b.alphas.take n).map (·.name)).length=n:=by simp;omega
   have F:=fun W hi=>Z13 b.alphas[n].name a3 ((b.alphas.take n).map (·.name)) c3 W hsz (by omega) hi
   have HF:Hid (Zgr b.alphas[n].name ((b.alphas.take n).map (·.name))=0→Z7t S b.alphas[n].letters→∀i (h:i<b.alphas.length),i<n+1→Zxl b i h):=LH (fun q1 q2 i h hi=>if g:i<n then HN.out i h g else (by
    have e:i=n:=(by omega)
    subst e
    have q3:=Zyp q1
    refine⟨q3.1,fun j hj e=>q3.2 j (by rw[hll];exact hj) ?_,?_⟩
    ·rw[List.getElem_map,List.getElem_take]
     exact e
    ·rw[show b.sounds.toNat=S from by rw[HS.out];rfl]
     exact q2))
   rw[hll] at hown F ⊢
   have HOW:=LH hown
   generalize ((b.alphas.take n).map (·.name))=nms at HF hnm HOW hi3 F
   have RL:=fun(W:World) (h:Below Y.heap.size Y W)=>Zs8 S hS4 a1 a2 b.alphas.length b.spells.length k1 k2 al b.alphas[n].letters cl W d2 (d3.mono h) hlx
   generalize b.alphas[n].letters=lts at RL HF d1 d2
   generalize b.alphas[n].name=nm at F HF hnm d0 hsz
   rw[←HS.out] at RL
   generalize Zgr nm nms=fe at HF F
   have F:=LH (F V hi3)
   have RL:=LH RL
   clear hown hi3 hs3 hll hlx d3
   subst hae
   have hbz:=hbV.size
   have HAP:=LH (fun(U:World) (hg:(V.alloc (.cells #[.string nm] 9)).grownBy U (Value.ownBlock (.slice a3 n c3)))=>Zdw (B:=Y.heap.size) hbV (Nat.le_refl _) (Nat.le_refl _) HOW.out hg)
   have hn3:n≤3:=by have:=H1.out;omega
   have HD:Hid (∀U,Below Y.heap.size Y U→(U.cell? ⟨b',off+n*2,none⟩=some (.string nm)∧U.cell? ⟨b',off+n*2+1,none⟩=some (.slice al lts.length cl)∧b'<U.heap.size)):=LH (fun U h=>⟨Zab h d0,Zab h d1,Nat.lt_of_lt_of_le hb' h.size⟩)
   clear d0 d1 hb'
   obtain⟨d0,d1,hb'⟩:=HD.out _ hbV
   obtain⟨x0,x1,x2,xz⟩:=KE.out _ hbV
   go_upto_region 11 with(first
    |(at_builtin;go_must (refine Zbs (.tmp 34) (.tmp 41) Z99 rfl rfl rfl rfl Y.heap.size n 1 (nms.map Value.string) [.string nm] (HOW.out.alloc _) (Za2.one _ _ _ rfl) (by omega) (by decide) (by simp at hbz ⊢;omega) ?_;intro v3 w3 ho3 hg3 _;simp only[frT]))
    |(go_at_call 63;go_must ((with_reducible refine F.out.mono ?_);rintro e w2 ⟨rfl,hw9⟩;obtain rfl:=hw9.symm;dsimp only)))
   have hB3:=HAP.out _ hg3
   clear hg3 HAP HOW x0 x1 x2 xz d0 d1 hb'
   obtain⟨x0,x1,x2,xz⟩:=KE.out _ hB3
   by_cases hfe:fe=0
   ·have e1:=Zdv hfe
    replace HF:=LH (HF.out hfe)
    clear hfe
    go_upto_region 12 with(fail)
    have SR:Hid (∀U,Below Y.heap.size Y U→(fun U=>Below Y.heap.size Y U∧U.cell? ⟨w.heap.size,0,none⟩=some (.int .i64 b.sounds)∧U.cell? ⟨w.heap.size,1,none⟩=some (.slice (some ⟨b',off,none⟩) b.alphas.length k1)∧U.cell? ⟨w.heap.size,2,none⟩=some (.slice a2 b.spells.length k2)∧U.cell? ⟨b',off+n*2+1,none⟩=some (.slice al lts.length cl)∧w.heap.size<U.heap.size∧b'<U.heap.size) U):=LH (fun U h=>by
     obtain⟨q1,q2,q3,q4⟩:=KE.out _ h
     obtain⟨q5,q6,q7⟩:=HD.out _ h
     exact⟨h,q1,q2,q3,q6,q4,q7⟩)
    have hg0:Below Y.heap.size Y w3.drew:=Zah hB3
    have hn9:=LH (Zah (Below.refl w3.heap.size w3))
    clear x0 x1 x2 xz
    go_region_held3 (fun U=>Below Y.heap.size Y U∧U.cell? ⟨w.heap.size,0,none⟩=some (.int .i64 b.sounds)∧U.cell? ⟨w.heap.size,1,none⟩=some (.slice (some ⟨b',off,none⟩) b.alphas.length k1)∧U.cell? ⟨w.heap.size,2,none⟩=some (.slice a2 b.spells.length k2)∧U.cell? ⟨b',off+n*2+1,none⟩=some (.slice al lts.length cl)∧w.heap.size<U.heap.size∧b'<U.heap.size) (first|exact SR.out _ hg0|exact SR.out _ hg1) (first
     |(go_at_call 64;(with_reducible refine(RL.out _ hg0).mono ?_);rintro e w5 ⟨r,rfl,hr,hgs⟩;have hg1:=hg0.trans (hgs.mono hg0.size);have hg4:=hn9.out.trans (hgs.mono hn9.out.size);dsimp only))
    clear hg0
    by_cases hr0:r=0
    ·have e2:=Zdf hr0
     replace HF:=LH (HF.out (hr.out hr0))
     clear hr0 hr
     go_wp2
     go_roundw
     case rel=>exact⟨n+1,by omega,by go_num,by rw[hnm.out,List.map_append];exact Zc6 ho3 hg4,HF,hg1⟩
     case measure=>simp[intOf];omega
    ·have e2:=Zcp hr0
     have HR0:=LH hr0
     clear hr0 hr
     go_wp2
     go_ret3
     exact⟨2,(n:Int),r,rfl,LH (fun h=>absurd h HR0.out),HBY.out.trans (hg1.mono HBY.out.size)⟩
   ·have e1:=Zc4 hfe
    have e2:=Zcp hfe
    have HR0:=LH hfe
    clear hfe
    go_wp2
    go_ret3
    exact⟨2,(n:Int),fe,rfl,LH (fun h=>absurd h HR0.out),HBY.out.trans (hB3.mono HBY.out.size)⟩
  ·have HNA:Hid (∀i (h:i<b.alphas.length),Zxl b i h):=LH (fun i h=>HN.out i h (by omega))
   clear HN hown
   obtain⟨x0,x1,x2,xz⟩:=KE.out _ hbV
   by_cases g2:5<b.spells.length
   ·clear HNA
    have g3:(5:Int)<(b.spells.length:Int):=by omega
    go_wp2
    go_ret3
    exact⟨3,0,3,rfl,LH (fun h=>by cases h),HBY.out.trans (hbV.mono HBY.out.size)⟩
   have g3:¬(5:Int)<(b.spells.length:Int):=by omega
   have hl5:b.spells.length≤5:=by omega
   clear g2
   go_upto_region 18 with(fail)
   clear x0 x1 x2 xz
   go_loopw [8] (fun i U=>∃m:Nat,m≤b.spells.length∧i=.int .i64 m∧Hid (∀i (h:i<b.spells.length),i<m→Zpn b b.spells[i])∧Below Y.heap.size Y U) (fun i _=>b.spells.length-(intOf i).toNat)
   case atStart=>exact⟨0,Nat.zero_le _,rfl,LH (fun i h g=>absurd g (Nat.not_lt_zero i)),hbV⟩
   case round=>
    rename World=>U
    obtain⟨m,hm,rfl,HP,hbU⟩:=hrel
    obtain⟨x0,x1,x2,xz⟩:=KE.out _ hbU
    by_cases hlm:m<b.spells.length
    ·obtain⟨b',off,hae,hb',d0,d1⟩:=HM.out.spells m hlm
     have hsz:=HM.out.tsize _ (List.getElem_mem hlm)
     have RS:=fun(W:World) (h:Below Y.heap.size Y W)=>Zq7 a1 a2 k1 k2 b b.spells[m] W (HM.out.mono h) hsz
     have HP2:=LH (fun(h:Zpn b b.spells[m])=>show ∀i (h:i<b.spells.length),i<m+1→Zpn b b.spells[i] from fun i hi hij=>if hjk:i<m then HP.out i hi hjk else (by have e:i=m:=(by omega);subst e;exact h))
     generalize b.spells[m]=x at HP2 RS d0 d1
     obtain⟨xa,xt⟩:=x
     simp only at HP2 RS d0 d1
     replace RS:=LH RS
     subst hae
     clear hsz
     have SR:Hid (∀U,Below Y.heap.size Y U→(fun U=>Below Y.heap.size Y U∧U.cell? ⟨w.heap.size,0,none⟩=some (.int .i64 b.sounds)∧U.cell? ⟨w.heap.size,1,none⟩=some (.slice a1 b.alphas.length k1)∧U.cell? ⟨w.heap.size,2,none⟩=some (.slice (some ⟨b',off,none⟩) b.spells.length k2)∧U.cell? ⟨b',off+m*2,none⟩=some (.int .i64 xa)∧U.cell? ⟨b',off+m*2+1,none⟩=some (.string xt)∧w.heap.size<U.heap.size∧b'<U.heap.size) U):=LH (fun U h=>by
      obtain⟨q1,q2,q3,q4⟩:=KE.out _ h
      exact⟨h,q1,q2,q3,Zab h d0,Zab h d1,q4,Nat.lt_of_lt_of_le hb' h.size⟩)
     go_upto_region 20 with(fail)
     have hg0:Below Y.heap.size Y U.drew:=Zah hbU
     clear x0 x1 x2 xz d0 d1 hb'
     go_region_held3 (fun U=>Below Y.heap.size Y U∧U.cell? ⟨w.heap.size,0,none⟩=some (.int .i64 b.sounds)∧U.cell? ⟨w.heap.size,1,none⟩=some (.slice a1 b.alphas.length k1)∧U.cell? ⟨w.heap.size,2,none⟩=some (.slice (some ⟨b',off,none⟩) b.spells.length k2)∧U.cell? ⟨b',off+m*2,none⟩=some (.int .i64 xa)∧U.cell? ⟨b',off+m*2+1,none⟩=some (.string xt)∧w.heap.size<U.heap.size∧b'<U.heap.size) (first|exact SR.out _ hg0|exact SR.out _ hg1) (first
      |(go_at_call 65;(with_reducible refine(RS.out _ hg0).mono ?_);rintro e w5 ⟨r,rfl,hr,hgs⟩;have hg1:=hg0.trans (hgs.mono hg0.size);dsimp only))
     clear hg0
     by_cases hr0:r=0
     ·have e2:=Zdf hr0
      replace HP2:=LH (HP2.out (hr.out hr0))
      clear hr0 hr
      go_wp2
      go_roundw
      case rel=>exact⟨m+1,by omega,by go_num,HP2,hg1⟩
      case measure=>simp[intOf];omega
     ·have e2:=Zcp hr0
      have HR0:=LH hr0
      clear hr0 hr
      go_wp2
      go_ret3
      exact⟨3,(m:Int),r,rfl,LH (fun h=>absurd h HR0.out),HBY.out.trans (hg1.mono HBY.out.size)⟩
    ·obtain rfl:m=b.spells.length:=by omega
     have HV:Hid (EaValid b):=LH (Zx2 H0.out (by have:=H1.out;omega) HNA.out hl5 (fun i h=>HP.out i h h))
     clear HNA HP
     go_wp2
     go_ret3
     exact⟨0,0,0,rfl,LH (fun _=>HV.out),HBY.out.trans (hbU.mono HBY.out.size)⟩
end
section
open Go Go.RowKit Go.Shelf
def Zu1 (lo hi:Int):Int:=if (inB lo 0 199&&inB hi 0 199)=true then (if lo≤hi then 0 else 2) else 7
theorem Zye (lo hi:Int) (w:World):Calls Tryz.prog 66 #[.agg #[.int .i64 lo,.int .i64 hi],.int .i64 0,.int .i64 199] w fun e w'=>e=.returned (.int .i64 (Zu1 lo hi))∧Below w.heap.size w w':=by
 have HE:Hid (Zu1 lo hi=if (inB lo 0 199&&inB hi 0 199)=true then (if lo≤hi then 0 else 2) else 7):=LH rfl
 generalize Zu1 lo hi=r at HE ⊢
 have C1:=fun W=>Zd1 lo 0 199 W
 have C2:=fun W=>Zd1 hi 0 199 W
 generalize inB lo 0 199=c1 at C1 HE
 generalize inB hi 0 199=c2 at C2 HE
 replace C1:=LH C1
 replace C2:=LH C2
 go_enter Tryz.func66,Tryz.ntmps66
 cases c1
 ·go_wp2_with (go_at_call 19;go_must ((with_reducible refine(C1.out _).mono ?_);rintro e w' ⟨rfl,rfl⟩;dsimp only))
  go_ret
  exact⟨Za7 (by rw[HE.out];simp),by go_grown⟩
 cases c2
 ·go_wp2_with (first|(go_at_call 19;(with_reducible refine(C2.out _).mono ?_);rintro e w' ⟨rfl,rfl⟩;dsimp only)|(go_at_call 19;(with_reducible refine(C1.out _).mono ?_);rintro e w' ⟨rfl,rfl⟩;dsimp only))
  go_ret
  exact⟨Za7 (by rw[HE.out];simp),by go_grown⟩
 by_cases hlt:hi<lo
 ·go_wp2_with (first|(go_at_call 19;(with_reducible refine(C2.out _).mono ?_);rintro e w' ⟨rfl,rfl⟩;dsimp only)|(go_at_call 19;(with_reducible refine(C1.out _).mono ?_);rintro e w' ⟨rfl,rfl⟩;dsimp only))
  go_ret
  exact⟨Za7 (by rw[HE.out,if_pos (by rfl),if_neg (by omega)]),by go_grown⟩
 ·go_wp2_with (first|(go_at_call 19;(with_reducible refine(C2.out _).mono ?_);rintro e w' ⟨rfl,rfl⟩;dsimp only)|(go_at_call 19;(with_reducible refine(C1.out _).mono ?_);rintro e w' ⟨rfl,rfl⟩;dsimp only))
  go_ret
  exact⟨Za7 (by rw[HE.out,if_pos (by rfl),if_pos (by omega)]),by go_grown⟩
theorem Zr0 (t:PeW) (at_:Int) (x:PeM):Zbc t at_ x=if (inB x.spell 0 ((t.ear.spells.length:Int)-1)&&inB x.vill (-1) (t.vills-1)&&inB x.par (-1) ((t.ments.length:Int)-1))=true then (if Zu1 x.lo x.hi=0∧x.par=at_ then 2 else Zu1 x.lo x.hi) else 4:=by
 unfold Zbc Zu1
 split
 ·split
  ·by_cases h1:x.lo≤x.hi<;>by_cases h2:x.par=at_<;>simp[h1,h2]
  ·simp
 ·rfl
theorem Zsk (a1 a2 a3 a4:Option Addr) (k1 k2 k3 k4:Nat) (t:PeW) (x:PeM) (at_:Int) (w:World) (hv1:1≤t.vills) (hv4:t.vills≤4) (hl1:t.ear.spells.length≤9223372036854775807) (hl2:t.ments.length≤9223372036854775807):
  Calls Tryz.prog 20 #[(.agg #[.int .i64 t.ear.sounds,.slice a1 t.ear.alphas.length k1,.slice a2 t.ear.spells.length k2,.int .i64 t.vills,.slice a3 t.ments.length k3,.slice a4 t.ties.length k4]),.agg #[.int .i64 x.spell,.int .i64 x.vill,.int .i64 x.lo,.int .i64 x.hi,.int .i64 x.par],.int .i64 at_] w fun e w'=>e=.returned (.int .i64 (Zbc t at_ x))∧Below w.heap.size w w':=by
 have HE:=LH (Zr0 t at_ x)
 obtain⟨xs,xv,xl,xh,xp⟩:=x
 simp only at HE ⊢
 generalize Zbc t at_ ⟨xs,xv,xl,xh,xp⟩=r at HE ⊢
 have C1:=fun W=>Zd1 xs 0 ((t.ear.spells.length:Int)-1) W
 have C2:=fun W=>Zd1 xv (-1) (t.vills-1) W
 have C3:=fun W=>Zd1 xp (-1) ((t.ments.length:Int)-1) W
 have EN:=fun W=>Zye xl xh W
 generalize inB xs 0 ((t.ear.spells.length:Int)-1)=c1 at C1 HE
 generalize inB xv (-1) (t.vills-1)=c2 at C2 HE
 generalize inB xp (-1) ((t.ments.length:Int)-1)=c3 at C3 HE
 generalize Zu1 xl xh=er at EN HE
 replace C1:=LH C1
 replace C2:=LH C2
 replace C3:=LH C3
 replace EN:=LH EN
 have HEq:=HE
 obtain⟨Y,hY⟩:∃Y:World,Y=(w.alloc (.cells #[.int .i64 t.ear.sounds,.slice a1 t.ear.alphas.length k1,.slice a2 t.ear.spells.length k2,.int .i64 t.vills,.slice a3 t.ments.length k3,.slice a4 t.ties.length k4] 29)).alloc (.cells #[.int .i64 xs,.int .i64 xv,.int .i64 xl,.int .i64 xh,.int .i64 xp] 38):=⟨_,rfl⟩
 have hbY:Below w.heap.size w Y:=by rw[hY];exact((Below.refl _ _).alloc (Nat.le_refl _) _).alloc (by simp) _
 have hB1:Y.heap[w.heap.size]?=some (.cells #[.int .i64 t.ear.sounds,.slice a1 t.ear.alphas.length k1,.slice a2 t.ear.spells.length k2,.int .i64 t.vills,.slice a3 t.ments.length k3,.slice a4 t.ties.length k4] 29 (0,0)):=by rw[hY];exact(heap_alloc_old _ _ (by simp)).trans (Zac _ _ rfl)
 have hB2:Y.heap[w.heap.size+1]?=some (.cells #[.int .i64 xs,.int .i64 xv,.int .i64 xl,.int .i64 xh,.int .i64 xp] 38 (0,0)):=by rw[hY];exact Zac _ _ (by simp)
 have HY:=LH hY
 have HBY:=LH hbY
 have HB2:=LH hB2
 clear hY hbY
 have t2:=Zaa 2 hB1 rfl
 have t3:=Zaa 3 hB1 rfl
 have t4:=Zaa 4 hB1 rfl
 have tz:=lt_of_block hB1
 have m0:=Zaa 0 hB2 rfl
 have m1:=Zaa 1 hB2 rfl
 have m2:=Zaa 2 hB2 rfl
 have m3:=Zaa 3 hB2 rfl
 have m4:=Zaa 4 hB2 rfl
 have mz:=lt_of_block hB2
 simp only[List.getElem_toArray,List.getElem_cons_zero,List.getElem_cons_succ] at t2 t3 t4 m0 m1 m2 m3 m4
 clear hB1 hB2
 go_enter Tryz.func20,Tryz.ntmps20
 go_upto_region 1 with(fail)
 rw[←HY.out]
 by_cases hc:c1=true∧c2=true∧c3=true
 ·obtain⟨rfl,rfl,rfl⟩:=hc
  go_upto_region 4 with(first
   |(go_at_call 66;(with_reducible refine(EN.out _).mono ?_);rintro e wE ⟨rfl,hbE⟩;dsimp only)
   |(go_at_call 19;(with_reducible refine(C1.out _).mono ?_);rintro e w' ⟨rfl,hw9⟩;obtain rfl:=hw9.symm;dsimp only)
   |(go_at_call 19;(with_reducible refine(C2.out _).mono ?_);rintro e w' ⟨rfl,hw9⟩;obtain rfl:=hw9.symm;dsimp only)
   |(go_at_call 19;(with_reducible refine(C3.out _).mono ?_);rintro e w' ⟨rfl,hw9⟩;obtain rfl:=hw9.symm;dsimp only))
  have h9:=(hbE.block _ (lt_of_block HB2.out)).trans HB2.out
  have n4:=Zaa 4 h9 rfl
  have nz:=lt_of_block h9
  simp only[List.getElem_toArray,List.getElem_cons_zero,List.getElem_cons_succ] at n4
  have HR:=LH (HBY.out.trans (hbE.mono HBY.out.size))
  clear h9 hbE t2 t3 t4 tz m0 m1 m2 m3 m4 mz
  by_cases h0:er=0
  all_goals (first|have e1:=Zdv h0|have e1:=Zc4 h0)
  all_goals (by_cases hp:xp=at_)
  all_goals (first|have e2:=Zdv hp|have e2:=Zc4 hp)
  all_goals
   have H0:=LH h0
   have HP:=LH hp
   clear h0 hp
   go_wp2
   go_ret
   exact⟨Za7 (by rw[HEq.out];have a1:=H0.out;have a2:=HP.out;simp[a1,a2]),HR.out⟩
 ·have hr:Hid (r=4):=LH (by
   rw[HEq.out,if_neg]
   intro h
   rw[Bool.and_eq_true,Bool.and_eq_true] at h
   exact hc ⟨h.1.1,h.1.2,h.2⟩)
  have HNC:=LH hc
  clear HE HEq hc
  cases c1
  ·go_wp2_with (go_at_call 19;(with_reducible refine(C1.out _).mono ?_);rintro e w' ⟨rfl,hw9⟩;obtain rfl:=hw9.symm;dsimp only)
   go_ret
   exact⟨Za7 hr.out.symm,HBY.out⟩
  cases c2
  ·go_wp2_with (first
    |(go_at_call 19;(with_reducible refine(C1.out _).mono ?_);rintro e w' ⟨rfl,hw9⟩;obtain rfl:=hw9.symm;dsimp only)
    |(go_at_call 19;(with_reducible refine(C2.out _).mono ?_);rintro e w' ⟨rfl,hw9⟩;obtain rfl:=hw9.symm;dsimp only))
   go_ret
   exact⟨Za7 hr.out.symm,HBY.out⟩
  cases c3
  ·go_wp2_with (first
    |(go_at_call 19;(with_reducible refine(C1.out _).mono ?_);rintro e w' ⟨rfl,hw9⟩;obtain rfl:=hw9.symm;dsimp only)
    |(go_at_call 19;(with_reducible refine(C2.out _).mono ?_);rintro e w' ⟨rfl,hw9⟩;obtain rfl:=hw9.symm;dsimp only)
    |(go_at_call 19;(with_reducible refine(C3.out _).mono ?_);rintro e w' ⟨rfl,hw9⟩;obtain rfl:=hw9.symm;dsimp only))
   go_ret
   exact⟨Za7 hr.out.symm,HBY.out⟩
  ·exact absurd ⟨rfl,rfl,rfl⟩ HNC.out
end
section
open Go Go.RowKit Go.Shelf
def TieX (t:PeW) (x:PeT):Prop:=0≤x.a∧x.a<t.ments.length∧0≤x.b∧x.b<t.ments.length∧x.a≠x.b
theorem Zls (a1 a2 a3 a4:Option Addr) (k1 k2 k3 k4:Nat) (t:PeW) (w:World) (hm:TownC w a1 a2 a3 a4 k1 k2 k3 k4 t) (hlb:∀x∈t.ear.alphas,∀i (h:i<x.letters.length),0≤x.letters[i].letter∧x.letters[i].letter≤255):
  Calls Tryz.prog 5 #[(.agg #[.int .i64 t.ear.sounds,.slice a1 t.ear.alphas.length k1,.slice a2 t.ear.spells.length k2,.int .i64 t.vills,.slice a3 t.ments.length k3,.slice a4 t.ties.length k4])] w (Zqy (PeValid t) w):=by
 have l1:=hm.book.oka.len
 have l2:=hm.book.oks.len
 have l3:=hm.okm.len
 have l4:=hm.okt.len
 have q3:=hm.okm.1
 have q4:=hm.okt.1
 have C0:=fun W=>Zd1 t.vills 1 4 W
 have h0:=@Zbx t.vills 1 4
 generalize inB t.vills 1 4=c0 at C0 h0
 replace C0:=LH C0
 obtain⟨Y,hY⟩:∃Y:World,Y=(w.alloc (.cells #[.int .i64 t.ear.sounds,.slice a1 t.ear.alphas.length k1,.slice a2 t.ear.spells.length k2,.int .i64 t.vills,.slice a3 t.ments.length k3,.slice a4 t.ties.length k4] 29)):=⟨_,rfl⟩
 have hbY:Below w.heap.size w Y:=by rw[hY];exact(Below.refl _ _).alloc (Nat.le_refl _) _
 have hB1:Y.heap[w.heap.size]?=some (.cells #[.int .i64 t.ear.sounds,.slice a1 t.ear.alphas.length k1,.slice a2 t.ear.spells.length k2,.int .i64 t.vills,.slice a3 t.ments.length k3,.slice a4 t.ties.length k4] 29 (0,0)):=by rw[hY];exact Zac _ _ rfl
 have HY:=LH hY
 clear hY
 have hmY:=hm.mono hbY
 have HM:=LH hmY
 have HBY:=LH hbY
 have CB:=LH (Zsd a1 a2 k1 k2 t.ear Y hmY.book hlb)
 clear hm hmY hbY hlb
 have KE:Hid (∀V,Below Y.heap.size Y V→(V.cell? ⟨w.heap.size,0,none⟩=some (.int .i64 t.ear.sounds)∧V.cell? ⟨w.heap.size,1,none⟩=some (.slice a1 t.ear.alphas.length k1)∧V.cell? ⟨w.heap.size,2,none⟩=some (.slice a2 t.ear.spells.length k2)∧V.cell? ⟨w.heap.size,3,none⟩=some (.int .i64 t.vills)∧V.cell? ⟨w.heap.size,4,none⟩=some (.slice a3 t.ments.length k3)∧V.cell? ⟨w.heap.size,5,none⟩=some (.slice a4 t.ties.length k4)∧w.heap.size<V.heap.size)):=LH (fun V h=>by
  have q1:=(h.block _ (lt_of_block hB1)).trans hB1
  exact⟨Zaa 0 q1 rfl,Zaa 1 q1 rfl,Zaa 2 q1 rfl,Zaa 3 q1 rfl,Zaa 4 q1 rfl,Zaa 5 q1 rfl,lt_of_block q1⟩)
 clear hB1
 have hq:=KE.out _ (Below.refl _ Y)
 go_enter Tryz.func5,Tryz.ntmps5
 go_upto_region 1 with(fail)
 rw[←HY.out]
 go_upto_region 2 with(go_at_call 18;go_must ((with_reducible refine CB.out.mono ?_);rintro e w1 ⟨cx,cy,cr,rfl,hcr,hb1⟩;dsimp only))
 clear hq
 have hq:=KE.out _ hb1
 by_cases hc0:¬cr=0
 ·have e1:=Zcp hc0
  have HR0:=LH hc0
  clear hc0 hcr
  go_wp2
  go_ret3
  exact⟨1,0,cr,rfl,LH (fun h=>absurd h HR0.out),HBY.out.trans (hb1.mono HBY.out.size)⟩
 replace hc0:cr=0:=Classical.not_not.1 hc0
 have HEV:=LH (hcr.out hc0)
 have e1:=Zdf hc0
 clear hc0 hcr
 cases c0
 ·clear h0
  go_wp2_with (go_at_call 19;go_must ((with_reducible refine(C0.out _).mono ?_);rintro e w' ⟨rfl,hw9⟩;obtain rfl:=hw9.symm;dsimp only))
  go_ret3
  exact⟨2,0,7,rfl,LH (fun h=>by cases h),HBY.out.trans (hb1.mono HBY.out.size)⟩
 have H0:=LH (h0.1 rfl)
 clear h0
 by_cases g2:5<t.ments.length
 ·have g3:(5:Int)<(t.ments.length:Int):=by omega
  go_wp2_with (go_at_call 19;go_must ((with_reducible refine(C0.out _).mono ?_);rintro e w' ⟨rfl,hw9⟩;obtain rfl:=hw9.symm;dsimp only))
  go_ret3
  exact⟨3,0,3,rfl,LH (fun h=>by cases h),HBY.out.trans (hb1.mono HBY.out.size)⟩
 have g3:¬(5:Int)<(t.ments.length:Int):=by omega
 have hl5:t.ments.length≤5:=by omega
 clear g2
 go_upto_region 9 with(go_at_call 19;go_must ((with_reducible refine(C0.out _).mono ?_);rintro e w' ⟨rfl,hw9⟩;obtain rfl:=hw9.symm;dsimp only))
 clear hq g3
 go_loopw [8] (fun i V=>∃n:Nat,n≤t.ments.length∧i=.int .i64 n∧Hid (∀i (h:i<t.ments.length),i<n→Zbc t i t.ments[i]=0)∧Below Y.heap.size Y V) (fun i _=>t.ments.length-(intOf i).toNat)
 case atStart=>exact⟨0,Nat.zero_le _,rfl,LH (fun i h g=>absurd g (Nat.not_lt_zero i)),hb1⟩
 case round=>
  rename World=>V
  obtain⟨n,hn,rfl,HN,hbV⟩:=hrel
  obtain⟨x0,x1,x2,x3,x4,x5,xz⟩:=KE.out _ hbV
  by_cases hlt:n<t.ments.length
  ·obtain⟨b',off,hae,hb',d0,d1,d2,d3,d4⟩:=HM.out.ments n hlt
   have RM:=fun(W:World)=>Zsk a1 a2 a3 a4 k1 k2 k3 k4 t t.ments[n] (n:Int) W H0.out.1 H0.out.2 l2 l3
   have HN2:=LH (fun(h:Zbc t n t.ments[n]=0)=>show ∀i (h:i<t.ments.length),i<n+1→Zbc t i t.ments[i]=0 from fun i hi hij=>if hjk:i<n then HN.out i hi hjk else (by have e:i=n:=(by omega);subst e;exact h))
   generalize Zbc t n t.ments[n]=r at RM HN2
   generalize t.ments[n]=x at RM d0 d1 d2 d3 d4
   obtain⟨xs,xv,xl,xh,xp⟩:=x
   simp only at RM d0 d1 d2 d3 d4
   replace RM:=LH RM
   subst hae
   have SR:Hid (∀U,Below Y.heap.size Y U→(fun U=>Below Y.heap.size Y U∧U.cell? ⟨w.heap.size,0,none⟩=some (.int .i64 t.ear.sounds)∧U.cell? ⟨w.heap.size,1,none⟩=some (.slice a1 t.ear.alphas.length k1)∧U.cell? ⟨w.heap.size,2,none⟩=some (.slice a2 t.ear.spells.length k2)∧U.cell? ⟨w.heap.size,3,none⟩=some (.int .i64 t.vills)∧U.cell? ⟨w.heap.size,4,none⟩=some (.slice (some ⟨b',off,none⟩) t.ments.length k3)∧U.cell? ⟨w.heap.size,5,none⟩=some (.slice a4 t.ties.length k4)∧U.cell? ⟨b',off+n*5,none⟩=some (.int .i64 xs)∧U.cell? ⟨b',off+n*5+1,none⟩=some (.int .i64 xv)∧U.cell? ⟨b',off+n*5+2,none⟩=some (.int .i64 xl)∧U.cell? ⟨b',off+n*5+3,none⟩=some (.int .i64 xh)∧U.cell? ⟨b',off+n*5+4,none⟩=some (.int .i64 xp)∧w.heap.size<U.heap.size∧b'<U.heap.size) U):=LH (fun U h=>by
    obtain⟨q0,q1,q2,q3,q4,q5,q6⟩:=KE.out _ h
    exact⟨h,q0,q1,q2,q3,q4,q5,Zab h d0,Zab h d1,Zab h d2,Zab h d3,Zab h d4,q6,Nat.lt_of_lt_of_le hb' h.size⟩)
   go_upto_region 11 with(fail)
   have hg0:Below Y.heap.size Y V.drew:=Zah hbV
   clear x0 x1 x2 x3 x4 x5 xz d0 d1 d2 d3 d4 hb'
   go_region_held3 (fun U=>Below Y.heap.size Y U∧U.cell? ⟨w.heap.size,0,none⟩=some (.int .i64 t.ear.sounds)∧U.cell? ⟨w.heap.size,1,none⟩=some (.slice a1 t.ear.alphas.length k1)∧U.cell? ⟨w.heap.size,2,none⟩=some (.slice a2 t.ear.spells.length k2)∧U.cell? ⟨w.heap.size,3,none⟩=some (.int .i64 t.vills)∧U.cell? ⟨w.heap.size,4,none⟩=some (.slice (some ⟨b',off,none⟩) t.ments.length k3)∧U.cell? ⟨w.heap.size,5,none⟩=some (.slice a4 t.ties.length k4)∧U.cell? ⟨b',off+n*5,none⟩=some (.int .i64 xs)∧U.cell? ⟨b',off+n*5+1,none⟩=some (.int .i64 xv)∧U.cell? ⟨b',off+n*5+2,none⟩=some (.int .i64 xl)∧U.cell? ⟨b',off+n*5+3,none⟩=some (.int .i64 xh)∧U.cell? ⟨b',off+n*5+4,none⟩=some (.int .i64 xp)∧w.heap.size<U.heap.size∧b'<U.heap.size) (first|exact SR.out _ hg0|exact SR.out _ hg1) (first
    |(go_at_call 20;(with_reducible refine(RM.out _).mono ?_);rintro e w5 ⟨rfl,hgs⟩;have hg1:=hg0.trans (hgs.mono hg0.size);dsimp only))
   clear hg0
   by_cases hr0:r=0
   ·have e2:=Zdf hr0
    replace HN2:=LH (HN2.out hr0)
    clear hr0
    go_wp2
    go_roundw
    case rel=>exact⟨n+1,by omega,by go_num,HN2,hg1⟩
    case measure=>simp[intOf];omega
   ·have e2:=Zcp hr0
    have HR0:=LH hr0
    clear hr0
    go_wp2
    go_ret3
    exact⟨3,(n:Int),r,rfl,LH (fun h=>absurd h HR0.out),HBY.out.trans (hg1.mono HBY.out.size)⟩
  ·have HNA:Hid (∀i (h:i<t.ments.length),Zbc t i t.ments[i]=0):=LH (fun i h=>HN.out i h (by omega))
   clear HN
   by_cases g2:4<t.ties.length
   ·clear HNA
    have g3:(4:Int)<(t.ties.length:Int):=by omega
    go_wp2
    go_ret3
    exact⟨4,0,3,rfl,LH (fun h=>by cases h),HBY.out.trans (hbV.mono HBY.out.size)⟩
   have g3:¬(4:Int)<(t.ties.length:Int):=by omega
   have hl4:t.ties.length≤4:=by omega
   clear g2
   go_upto_region 17 with(fail)
   clear x0 x1 x2 x3 x4 x5 xz g3
   go_loopw [9] (fun i U=>∃m:Nat,m≤t.ties.length∧i=.int .i64 m∧Hid (∀i (h:i<t.ties.length),i<m→TieX t t.ties[i])∧Below Y.heap.size Y U) (fun i _=>t.ties.length-(intOf i).toNat)
   case atStart=>exact⟨0,Nat.zero_le _,rfl,LH (fun i h g=>absurd g (Nat.not_lt_zero i)),hbV⟩
   case round=>
    rename World=>U
    obtain⟨m,hm,rfl,HP,hbU⟩:=hrel
    obtain⟨x0,x1,x2,x3,x4,x5,xz⟩:=KE.out _ hbU
    by_cases hlm:m<t.ties.length
    ·obtain⟨b',off,hae,hb',d0,d1,d2⟩:=(HM.out.mono hbU).ties m hlm
     have HP2:=LH (fun(h:TieX t t.ties[m])=>show ∀i (h:i<t.ties.length),i<m+1→TieX t t.ties[i] from fun i hi hij=>if hjk:i<m then HP.out i hi hjk else (by have e:i=m:=(by omega);subst e;exact h))
     generalize t.ties[m]=x at HP2 d0 d1 d2
     obtain⟨xa,xb,xs⟩:=x
     simp only at HP2 d0 d1 d2
     have C1:=fun W=>Zd1 xa 0 ((t.ments.length:Int)-1) W
     have h1:=@Zbx xa 0 ((t.ments.length:Int)-1)
     generalize inB xa 0 ((t.ments.length:Int)-1)=c1 at C1 h1
     have C2:=fun W=>Zd1 xb 0 ((t.ments.length:Int)-1) W
     have h2:=@Zbx xb 0 ((t.ments.length:Int)-1)
     generalize inB xb 0 ((t.ments.length:Int)-1)=c2 at C2 h2
     replace C1:=LH C1
     replace C2:=LH C2
     subst hae
     go_upto_region 20 with(fail)
     obtain⟨Z,hZ⟩:∃Z:World,Z=U.alloc (.cells #[.int .i64 xa,.int .i64 xb,.bool xs] 44):=⟨_,rfl⟩
     rw[←hZ]
     have hbZ:Below Y.heap.size Y Z:=by rw[hZ];exact hbU.alloc hbU.size _
     have hT:Z.heap[U.heap.size]?=some (.cells #[.int .i64 xa,.int .i64 xb,.bool xs] 44 (0,0)):=by rw[hZ];exact Zac _ _ rfl
     clear hZ x0 x1 x2 x3 x4 x5 xz d0 d1 d2 hb'
     obtain⟨x0,x1,x2,x3,x4,x5,xz⟩:=KE.out _ hbZ
     have y0:=Zaa 0 hT rfl
     have y1:=Zaa 1 hT rfl
     have yz:=lt_of_block hT
     simp only[List.getElem_toArray,List.getElem_cons_zero,List.getElem_cons_succ] at y0 y1
     clear hT
     cases c1
     ·clear h1 h2 HP2
      go_wp2_with (go_at_call 19;(with_reducible refine(C1.out _).mono ?_);rintro e w' ⟨rfl,hw9⟩;obtain rfl:=hw9.symm;dsimp only)
      go_ret3
      exact⟨4,(m:Int),4,rfl,LH (fun h=>by cases h),HBY.out.trans (hbZ.mono HBY.out.size)⟩
     cases c2
     ·clear h1 h2 HP2
      go_wp2_with (first
       |(go_at_call 19;(with_reducible refine(C1.out _).mono ?_);rintro e w' ⟨rfl,hw9⟩;obtain rfl:=hw9.symm;dsimp only)
       |(go_at_call 19;(with_reducible refine(C2.out _).mono ?_);rintro e w' ⟨rfl,hw9⟩;obtain rfl:=hw9.symm;dsimp only))
      go_ret3
      exact⟨4,(m:Int),4,rfl,LH (fun h=>by cases h),HBY.out.trans (hbZ.mono HBY.out.size)⟩
     have H1:=LH (h1.1 rfl)
     have H2:=LH (h2.1 rfl)
     clear h1 h2
     by_cases hab:xa=xb
     ·clear HP2
      have e2:=Zdv hab
      clear hab
      go_wp2_with (first
       |(go_at_call 19;(with_reducible refine(C1.out _).mono ?_);rintro e w' ⟨rfl,hw9⟩;obtain rfl:=hw9.symm;dsimp only)
       |(go_at_call 19;(with_reducible refine(C2.out _).mono ?_);rintro e w' ⟨rfl,hw9⟩;obtain rfl:=hw9.symm;dsimp only))
      go_ret3
      exact⟨4,(m:Int),2,rfl,LH (fun h=>by cases h),HBY.out.trans (hbZ.mono HBY.out.size)⟩
     ·replace HP2:=LH (HP2.out ⟨H1.out.1,by have:=H1.out;simp;omega,H2.out.1,by have:=H2.out;simp;omega,hab⟩)
      have e2:=Zc4 hab
      clear hab
      go_wp2_with (first
       |(go_at_call 19;(with_reducible refine(C1.out _).mono ?_);rintro e w' ⟨rfl,hw9⟩;obtain rfl:=hw9.symm;dsimp only)
       |(go_at_call 19;(with_reducible refine(C2.out _).mono ?_);rintro e w' ⟨rfl,hw9⟩;obtain rfl:=hw9.symm;dsimp only))
      go_roundw
      case rel=>exact⟨m+1,by omega,by go_num,HP2,hbZ⟩
      case measure=>simp[intOf];omega
    ·obtain rfl:m=t.ties.length:=by omega
     have HV:Hid (PeValid t):=LH ⟨HEV.out,H0.out,hl5,HNA.out,hl4,fun i h=>HP.out i h h⟩
     clear HNA HP
     go_wp2
     go_ret3
     exact⟨0,0,0,rfl,LH (fun _=>HV.out),HBY.out.trans (hbU.mono HBY.out.size)⟩
end
end Go.Proofs.YtklconegomgjaaaGreat
