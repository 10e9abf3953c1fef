/- What is proved here: the contract of Check of layer 1, at a valid book. Conditions: the book lies in memory. -/
import Derived.Test.YtklconegomgjaaaGreatEaChkG
import Derived.Test.YtklconegomgjaaaGreatMidG
set_option linter.all false
set_option maxRecDepth 100000
set_option maxHeartbeats 16000000
namespace Go.Proofs.YtklconegomgjaaaGreat
section
open Go Go.RowKit Go.Shelf
theorem Zph {b:EaB} (hv:EaValid b):∃S:Nat,b.sounds=(S:Int)∧1≤S∧S≤4:=by
 have:=hv.sounds
 exact⟨b.sounds.toNat,by omega,by omega,by omega⟩
theorem Z9s {b:EaB} (hv:EaValid b) {S i:Nat} (hS:b.sounds=(S:Int)) (hi:i<b.alphas.length) {k:Nat} (hk:k<b.alphas[i].letters.length):LetOk S b.alphas[i].letters k:=by
 obtain⟨h1,h2,h3,h4,h5,h6⟩:=hv.letter i hi k hk
 rw[hS,Int.toNat_natCast] at h5
 exact⟨hk,⟨h1,h2⟩,h3,⟨h4,h5⟩,h6⟩
theorem Z23 (a1 a2:Option Addr) (k1 k2:Nat) (b:EaB) (i B:Nat) (al:Option Addr) (cl:Nat) (w:World) (hm:BookC w a1 a2 k1 k2 b) (hv:EaValid b) (hi:i<b.alphas.length) (ho:SlOk al b.alphas[i].letters.length cl) (hL:Za1 w al b.alphas[i].letters)
  (c0:w.cell? ⟨B,0,none⟩=some (.int .i64 b.sounds)) (c1:w.cell? ⟨B,1,none⟩=some (.slice a1 b.alphas.length k1)):
  Calls Tryz.prog 127 #[.int .i64 i,.agg #[.string b.alphas[i].name,.slice al b.alphas[i].letters.length cl],.pointer (some ⟨B,0,none⟩)] w fun e w'=>e=.returned (.int .i64 0)∧Below w.heap.size w w':=by
 obtain⟨S,hS,hS1,hS4⟩:=Zph hv
 rw[hS] at c0
 have l1:=hm.oka.len
 have hso:=hm.oka.1
 obtain⟨hn1,hn2⟩:=hv.name i hi
 have hnl:=hv.nl i hi
 have hsz:=hm.nsize _ (List.getElem_mem hi)
 have N:=Zg6 b.alphas[i].name w hsz
 rw[hn1] at N
 replace N:=fun(W:World)=>Zg6 b.alphas[i].name W hsz
 rw[hn1] at N
 have HLO:=LH (fun k hk=>Z9s hv hS hi (k:=k) hk)
 obtain⟨b',off,hab,hb,_⟩:=hm.alphas i hi
 have hti:(b.alphas.take i).length=i:=by rw[List.length_take];omega
 have K:=fun(W:World) (h:Below w.heap.size w W) (p:Nat) (hp:W.cell? ⟨p,0,none⟩=some (.string b.alphas[i].name))=>(show Calls Tryz.prog 128 #[.slice (some ⟨b',off,none⟩) i k1,.func (.func 129) #[] #[.pointer (some ⟨p,0,none⟩)]] W fun e w'=>e=.returned (.bool false)∧Below W.heap.size W w' from by
  have:=Zz0 a1 (b.alphas.take i) k1 b.alphas[i].name p W (by omega) ((hm.mono h).alphas.take i) hp (fun j hj=>by
   rw[List.length_take] at hj
   rw[List.getElem_take]
   exact hn2 j (by omega))
  rw[hti,hab] at this
  exact this)
 clear hn1 hn2 hti
 subst hab
 have hik:(i:Int)≤(k1:Int):=by omega
 have hi0:(0:Int)≤(i:Int):=by omega
 generalize b.alphas[i]=x at *
 obtain⟨name,letters⟩:=x
 simp only at *
 have N:=LH N
 have K:=LH K
 have HL:=LH hL
 have n6:(letters.length:Int)≤6∧1≤(letters.length:Int):=by omega
 have B1:=LH (fun(a:Nat) (W:World) h=>Znx (letters.length:Int) 1 6 ⟨n6.2,n6.1⟩ a W h)
 have HO:=LH ho
 have FL:=LH (fun(W:World) (hb:Below w.heap.size w W) (A:Nat) (cA:W.cell? ⟨A,1,none⟩=some (.slice al letters.length cl))=>Zzg al letters cl 131 #[.pointer (some ⟨B,0,none⟩),.pointer (some ⟨A,0,none⟩)] W HO.out.len (HL.out.mono hb) (enters_of Tryz.func131 (by kernel_rfl) rfl) (fun k hk V hV=>by
  have hbV:=hb.trans (hV.mono hb.size)
  have:=Zzj al letters cl k B A S letters[k] V HO.out (HL.out.mono hbV) (HLO.out k hk) hS4 (Zab hbV c0) (Zab hV cA)
  exact this))
 clear hL ho hm hv
 have hQ0:=Below.refl (w.heap.size+1) (w.alloc (.cells #[.string name,.slice al letters.length cl] 130))
 have KE:Hid (∀V,Below (w.heap.size+1) (w.alloc (.cells #[.string name,.slice al letters.length cl] 130)) V→(V.cell? ⟨w.heap.size,0,none⟩=some (.string name)∧V.cell? ⟨w.heap.size,1,none⟩=some (.slice al letters.length cl)∧w.heap.size<V.heap.size∧V.cell? ⟨B,1,none⟩=some (.slice (some ⟨b',off,none⟩) b.alphas.length k1)∧B<V.heap.size)):=LH (fun V hV=>⟨Zaj hV 0 _ rfl,Zaj hV 1 _ rfl,Zai hV,Zab (Zaf hV) c1,Nat.lt_of_lt_of_le (Zag c1) (Zaf hV).size⟩)
 go_enter Tryz.func127,Tryz.ntmps127
 go_wp2_with (first
  |(go_at_call 130;go_must ((with_reducible refine(FL.out _ (Zaf hQ4) _ x1).mono ?_);rintro e w5 ⟨rfl,hb5⟩;have hQ5:=hQ4.trans (hb5.mono (Zai hQ4));dsimp only))
  |(go_at_call 76;go_must ((with_reducible refine(B1.out _ _ ?_).mono ?_);(simp);rintro e w4 ⟨rfl,hb4⟩;have hQ4:=(hQ3.alloc (Zai hQ3) (.cells #[.int .i64 (letters.length:Int)] 3)).trans (hb4.mono (by have:=Zai hQ3;simp;omega));obtain⟨x0,x1,xz,xb,xbz⟩:=KE.out _ hQ4;dsimp only))
  |(go_at_call 128;go_must ((with_reducible refine(K.out _ (Zaf hQ2) _ x0).mono ?_);rintro e w3 ⟨rfl,hb3⟩;have hQ3:=hQ2.trans (hb3.mono (Zai hQ2));obtain⟨x0,x1,xz,xb,xbz⟩:=KE.out _ hQ3;dsimp only))
  |(go_at_call 29;go_must ((with_reducible refine(N.out _).mono ?_);rintro e w2 ⟨rfl,hb2⟩;have hQ2:=hQ0.trans (hb2.mono (by simp));obtain⟨x0,x1,xz,xb,xbz⟩:=KE.out _ hQ2;dsimp only)))
 go_ret
 exact⟨rfl,Zaf hQ5⟩
theorem Zzr (a:Option Addr) (l:List EaA) (c F:Nat) (caps:Array Value) (w:World) (hl:l.length≤9223372036854775807) (hi:Zcf w a l)
  (hCF:∀(xs:Array Value) (W:World),(callFunc F xs).run Tryz.prog W=.ok (.enter F xs) W)
  (hK:∀(k:Nat) (h:k<l.length) (al:Option Addr) (cl:Nat) (W:World),Below w.heap.size w W→SlOk al l[k].letters.length cl→Za1 W al l[k].letters→Calls Tryz.prog F (#[.int .i64 (k:Int),.agg #[.string l[k].name,.slice al l[k].letters.length cl]]++caps) W fun e W'=>e=.returned (.int .i64 0)∧Below W.heap.size W W'):
  Calls Tryz.prog 126 #[.slice a l.length c,.func (.func F) #[] caps] w fun e w'=>e=.returned (.tuple #[.int .i64 0,.int .i64 0])∧Below w.heap.size w w':=by
 replace hK:=LH hK
 go_enter Tryz.func126,Tryz.ntmps126
 go_wp2
 go_loopw [11] (fun i wr=>∃k:Nat,k≤l.length∧i=.int .i64 k∧Below w.heap.size w wr) (fun i _=>l.length-(intOf i).toNat)
 case atStart=>exact⟨0,Nat.zero_le _,rfl,Below.refl _ _⟩
 case round=>
  obtain⟨k,hk,rfl,hbw⟩:=hrel
  by_cases hlt:k<l.length
  ·have K:=LH (fun(al:Option Addr) (cl:Nat) (W:World) (h:Below w.heap.size w W)=>hK.out k hlt al cl W h)
   obtain⟨b,off,rfl,hb,h1,al,cl,h2,h3,h4⟩:=(hi.mono hbw) k hlt
   generalize l[k]=x at K h1 h2 h3 h4
   obtain⟨xn,xl⟩:=x
   simp only at K h1 h2 h3 h4
   have K2:=LH (fun W (h:Below wr.heap.size wr W)=>K.out al cl W (hbw.trans (h.mono hbw.size)) h3 (h4.mono h))
   clear K
   generalize xl.length=n at *
   go_wp2_with ((with_reducible refine(K2.out _ ((Below.refl _ _).alloc (Nat.le_refl _) _)).mono ?_);rintro e w2 ⟨rfl,hb2⟩;have hbn:=(hbw.alloc hbw.size (.cells #[.string xn,.slice al n cl] 130)).trans (hb2.mono (by have:=hbw.size;simp;omega));dsimp only)
   go_roundw
   case rel=>exact⟨k+1,by omega,by go_num,hbn⟩
   case measure=>simp[intOf];omega
  ·obtain rfl:k=l.length:=by omega
   go_wp2
   go_ret2
   exact⟨rfl,hbw⟩
theorem Z0z (a:Option Addr) (l:List EaS) (c F:Nat) (caps:Array Value) (w:World) (hl:l.length≤9223372036854775807) (hi:Zd2 w a l)
  (hCF:∀(xs:Array Value) (W:World),(callFunc F xs).run Tryz.prog W=.ok (.enter F xs) W)
  (hK:∀(k:Nat) (h:k<l.length) (W:World),Below w.heap.size w W→Calls Tryz.prog F (#[.int .i64 (k:Int),.agg #[.int .i64 l[k].alpha,.string l[k].text]]++caps) W fun e W'=>e=.returned (.int .i64 0)∧Below W.heap.size W W'):
  Calls Tryz.prog 133 #[.slice a l.length c,.func (.func F) #[] caps] w fun e w'=>e=.returned (.tuple #[.int .i64 0,.int .i64 0])∧Below w.heap.size w w':=by
 replace hK:=LH hK
 go_enter Tryz.func133,Tryz.ntmps133
 go_wp2
 go_loopw [11] (fun i wr=>∃k:Nat,k≤l.length∧i=.int .i64 k∧Below w.heap.size w wr) (fun i _=>l.length-(intOf i).toNat)
 case atStart=>exact⟨0,Nat.zero_le _,rfl,Below.refl _ _⟩
 case round=>
  obtain⟨k,hk,rfl,hbw⟩:=hrel
  by_cases hlt:k<l.length
  ·have K:=LH (fun(W:World) (h:Below w.heap.size w W)=>hK.out k hlt W h)
   obtain⟨b,off,rfl,hb,h1,h2⟩:=(hi.mono hbw) k hlt
   generalize l[k]=x at K h1 h2
   obtain⟨xa,xt⟩:=x
   simp only at K h1 h2
   go_wp2_with ((with_reducible refine(K.out _ (hbw.alloc hbw.size _)).mono ?_);rintro e w2 ⟨rfl,hb2⟩;have hbn:=(hbw.alloc hbw.size (.cells #[.int .i64 xa,.string xt] 134)).trans (hb2.mono (by have:=hbw.size;simp;omega));dsimp only)
   go_roundw
   case rel=>exact⟨k+1,by omega,by go_num,hbn⟩
   case measure=>simp[intOf];omega
  ·obtain rfl:k=l.length:=by omega
   go_wp2
   go_ret2
   exact⟨rfl,hbw⟩
theorem Z24 (a1 a2:Option Addr) (k1 k2:Nat) (b:EaB) (i B:Nat) (w:World) (hm:BookC w a1 a2 k1 k2 b) (hv:EaValid b) (hi:i<b.spells.length)
  (c1:w.cell? ⟨B,1,none⟩=some (.slice a1 b.alphas.length k1)):
  Calls Tryz.prog 134 #[.int .i64 i,.agg #[.int .i64 b.spells[i].alpha,.string b.spells[i].text],.pointer (some ⟨B,0,none⟩)] w fun e w'=>e=.returned (.int .i64 0)∧Below w.heap.size w w':=by
 have l1:=hm.oka.len
 have la:=hm.oka.1
 obtain⟨g1,g2,g3,g4,g5⟩:=hv.spell i hi
 have hna:=hv.na
 have HA:=LH (fun(V:World) (h:Below w.heap.size w V)=>(hm.mono h).alphas)
 obtain⟨A,hAe⟩:∃A:Nat,b.spells[i].alpha=(A:Int):=⟨b.spells[i].alpha.toNat,by omega⟩
 have hA:A<b.alphas.length:=by omega
 have hal:Zcy b b.spells[i]=(b.alphas[A]'hA).letters:=by unfold Zcy;rw[hAe,Int.toNat_natCast,List.getElem?_eq_getElem hA];rfl
 rw[hal] at g5
 clear hal hv hm
 generalize b.spells[i]=x at *
 obtain⟨alpha,text⟩:=x
 simp only at *
 subst hAe
 have G5:=LH g5
 clear g5
 have hA1:(A:Int)<(b.alphas.length:Int):=by omega
 have B0:=LH (fun(a:Nat) (W:World) h=>Znx (A:Int) 0 ((b.alphas.length:Int)-1) (by omega) a W h)
 have B1:=LH (fun(a:Nat) (W:World) h=>Znx (text.size:Int) 1 5 (by omega) a W h)
 have hQ0:=Below.refl (w.heap.size+1) (w.alloc (.cells #[.int .i64 (A:Int),.string text] 134))
 have KE:Hid (∀V,Below (w.heap.size+1) (w.alloc (.cells #[.int .i64 (A:Int),.string text] 134)) V→(V.cell? ⟨w.heap.size,0,none⟩=some (.int .i64 (A:Int))∧V.cell? ⟨w.heap.size,1,none⟩=some (.string text)∧w.heap.size<V.heap.size∧V.cell? ⟨B,1,none⟩=some (.slice a1 b.alphas.length k1)∧B<V.heap.size)):=LH (fun V hV=>⟨Zaj hV 0 _ rfl,Zaj hV 1 _ rfl,Zai hV,Zab (Zaf hV) c1,Nat.lt_of_lt_of_le (Zag c1) (Zaf hV).size⟩)
 have zB:=Zag c1
 go_enter Tryz.func134,Tryz.ntmps134
 go_upto_region 6 with(first
  |(go_at_call 76;((with_reducible refine(B1.out _ _ ?_).mono ?_);(simp);rintro e w4 ⟨rfl,hb4⟩;have hQ4:=(hQ3.alloc (Zai hQ3) (.cells #[.int .i64 (text.size:Int)] 3)).trans (hb4.mono (by have:=Zai hQ3;simp;omega));obtain⟨x0,x1,xz,xb,xbz⟩:=KE.out _ hQ4;dsimp only))
  |(go_at_call 76;go_must ((with_reducible refine(B0.out _ _ ?_).mono ?_);(simp);rintro e w3 ⟨rfl,hb3⟩;have hQ3:=(hQ0.alloc (by simp) (.cells #[.int .i64 (A:Int)] 3)).trans (hb3.mono (by simp));obtain⟨x0,x1,xz,xb,xbz⟩:=KE.out _ hQ3;dsimp only)))
 clear hb3 hb4 hQ3 hQ0 c1 zB x0 x1 xz xb xbz
 go_loopw [25] (fun i wr=>∃k:Nat,k≤text.size∧i=.int .i64 k∧Below w4.heap.size w4 wr) (fun i _=>text.size-(intOf i).toNat)
 case atStart=>exact⟨0,Nat.zero_le _,rfl,Below.refl _ _⟩
 case round=>
  obtain⟨k,hk,rfl,hbw⟩:=hrel
  have hQr:=hQ4.trans (hbw.mono (Zai hQ4))
  obtain⟨x0,x1,xz,xb,xbz⟩:=KE.out _ hQr
  by_cases hlt:k<text.size
  ·obtain⟨b',off,rfl,hb',_,al,cl,d1,d2,d3⟩:=HA.out wr (Zaf hQr) A hA
   have h5:=G5.out k hlt
   have hll:=d2.len
   have IX:=(fun(W:World) (h:Below wr.heap.size wr W)=>Zle al (b.alphas[A]).letters cl (Zf8 text[k]) W hll (d3.mono h))
   generalize (b.alphas[A]).letters=ls at h5 IX d1 hll
   generalize idxL ls (Zf8 text[k])=ix at h5 IX
   unfold Zf8 at IX
   have IX:=LH IX
   have hix:¬ix<0:=by omega
   clear h5 d2 d3
   have SR:Hid (∀V,Below wr.heap.size wr V→(Below wr.heap.size wr V∧V.cell? ⟨w.heap.size,0,none⟩=some (.int .i64 (A:Int))∧V.cell? ⟨w.heap.size,1,none⟩=some (.string text)∧V.cell? ⟨B,1,none⟩=some (.slice (some ⟨b',off,none⟩) b.alphas.length k1)∧V.cell? ⟨b',off+A*2+1,none⟩=some (.slice al ls.length cl)∧w.heap.size<V.heap.size∧B<V.heap.size∧b'<V.heap.size)):=LH (fun V h=>⟨h,Zab h x0,Zab h x1,Zab h xb,Zab h d1,Nat.lt_of_lt_of_le xz h.size,Nat.lt_of_lt_of_le xbz h.size,Nat.lt_of_lt_of_le hb' h.size⟩)
   go_upto_region 8 with(fail)
   have hg0:Below wr.heap.size wr wr.drew:=Zah (Below.refl _ _)
   have hs0:=hg0.size
   go_region_held3 (fun V=>Below wr.heap.size wr V∧V.cell? ⟨w.heap.size,0,none⟩=some (.int .i64 (A:Int))∧V.cell? ⟨w.heap.size,1,none⟩=some (.string text)∧V.cell? ⟨B,1,none⟩=some (.slice (some ⟨b',off,none⟩) b.alphas.length k1)∧V.cell? ⟨b',off+A*2+1,none⟩=some (.slice al ls.length cl)∧w.heap.size<V.heap.size∧B<V.heap.size∧b'<V.heap.size) (first|exact SR.out _ hg0|exact SR.out _ hg1) (first
    |(go_at_call 121;refine(IX.out _ hg0).mono ?_;rintro e w5 ⟨rfl,hgs⟩;have hg1:=hg0.trans (hgs.mono hs0);dsimp only))
   go_wp2
   go_roundw
   case rel=>exact⟨k+1,by omega,by go_num,hbw.trans (hg1.mono hbw.size)⟩
   case measure=>simp[intOf];omega
  ·obtain rfl:k=text.size:=by omega
   go_wp2
   go_ret
   exact⟨rfl,Zaf hQr⟩
theorem Zo1 (a1 a2:Option Addr) (k1 k2:Nat) (b:EaB) (w:World) (hm:BookC w a1 a2 k1 k2 b) (hv:EaValid b):
  Calls Tryz.prog 84 #[(.agg #[.int .i64 b.sounds,.slice a1 b.alphas.length k1,.slice a2 b.spells.length k2])] w fun e w'=>e=.returned (.tuple #[.int .i64 0,.int .i64 0,.int .i64 0])∧Below w.heap.size w w':=by
 have l1:=hm.oka.len
 have l2:=hm.oks.len
 have hS:=hv.sounds
 have hna:=hv.na
 have hns:=hv.ns
 have hg:¬(5:Int)<(b.spells.length:Int):=by omega
 have B0:=LH (fun(a:Nat) (W:World) h=>Znx b.sounds 1 4 hS a W h)
 have B1:=LH (fun(a:Nat) (W:World) h=>Znx (b.alphas.length:Int) 1 3 (by omega) a W h)
 have hQ0:=Below.refl (w.heap.size+1) (w.alloc (.cells #[.int .i64 b.sounds,.slice a1 b.alphas.length k1,.slice a2 b.spells.length k2] 25))
 have KE:Hid (∀V,Below (w.heap.size+1) (w.alloc (.cells #[.int .i64 b.sounds,.slice a1 b.alphas.length k1,.slice a2 b.spells.length k2] 25)) V→(V.cell? ⟨w.heap.size,0,none⟩=some (.int .i64 b.sounds)∧V.cell? ⟨w.heap.size,1,none⟩=some (.slice a1 b.alphas.length k1)∧V.cell? ⟨w.heap.size,2,none⟩=some (.slice a2 b.spells.length k2)∧w.heap.size<V.heap.size)):=LH (fun V hV=>⟨Zaj hV 0 _ rfl,Zaj hV 1 _ rfl,Zaj hV 2 _ rfl,Zai hV⟩)
 have FA:=LH (fun(W:World) (hW:Below (w.heap.size+1) (w.alloc (.cells #[.int .i64 b.sounds,.slice a1 b.alphas.length k1,.slice a2 b.spells.length k2] 25)) W)=>Zzr a1 b.alphas k1 127 #[.pointer (some ⟨w.heap.size,0,none⟩)] W l1 (hm.mono (Zaf hW)).alphas (enters_of Tryz.func127 (by kernel_rfl) rfl) (fun k hk al cl V hV h3 h4=>by
  have hQV:=hW.trans (hV.mono (Zai hW))
  obtain⟨x0,x1,x2,xz⟩:=KE.out _ hQV
  have:=Z23 a1 a2 k1 k2 b k w.heap.size al cl V (hm.mono (Zaf hQV)) hv hk h3 h4 x0 x1
  exact this))
 have FS:=LH (fun(W:World) (hW:Below (w.heap.size+1) (w.alloc (.cells #[.int .i64 b.sounds,.slice a1 b.alphas.length k1,.slice a2 b.spells.length k2] 25)) W)=>Z0z a2 b.spells k2 134 #[.pointer (some ⟨w.heap.size,0,none⟩)] W l2 (hm.mono (Zaf hW)).spells (enters_of Tryz.func134 (by kernel_rfl) rfl) (fun k hk V hV=>by
  have hQV:=hW.trans (hV.mono (Zai hW))
  obtain⟨x0,x1,x2,xz⟩:=KE.out _ hQV
  have:=Z24 a1 a2 k1 k2 b k w.heap.size V (hm.mono (Zaf hQV)) hv hk x1
  exact this))
 clear hm hv
 go_enter Tryz.func84,Tryz.ntmps84
 go_wp2_with (first
  |(go_at_call 133;go_must ((with_reducible refine(FS.out _ hQ4).mono ?_);rintro e w5 ⟨rfl,hb5⟩;have hQ5:=hQ4.trans (hb5.mono (Zai hQ4));dsimp only))
  |(go_at_call 126;go_must ((with_reducible refine(FA.out _ hQ3).mono ?_);rintro e w4 ⟨rfl,hb4⟩;have hQ4:=hQ3.trans (hb4.mono (Zai hQ3));obtain⟨x0,x1,x2,xz⟩:=KE.out _ hQ4;dsimp only))
  |(go_at_call 76;((with_reducible refine(B1.out _ _ ?_).mono ?_);(simp);rintro e w3 ⟨rfl,hb3⟩;have hQ3:=(hQ2.alloc (Zai hQ2) (.cells #[.int .i64 (b.alphas.length:Int)] 3)).trans (hb3.mono (by have:=Zai hQ2;simp;omega));obtain⟨x0,x1,x2,xz⟩:=KE.out _ hQ3;dsimp only))
  |(go_at_call 76;go_must ((with_reducible refine(B0.out _ _ ?_).mono ?_);(simp);rintro e w2 ⟨rfl,hb2⟩;have hQ2:=(hQ0.alloc (by simp) (.cells #[.int .i64 b.sounds] 3)).trans (hb2.mono (by simp));obtain⟨x0,x1,x2,xz⟩:=KE.out _ hQ2;dsimp only)))
 go_ret3
 exact⟨rfl,Zaf hQ5⟩
end
section
open Go Go.RowKit Go.Shelf
theorem Z3b:∀c:Nat,c<16→∀k:Nat,k<4→(bits BinOp.and IntKind.i64 ((c:Int) / 2^k) 1==1)=c.testBit k:=by decide +kernel
theorem Zzu (x:EaL) (n:Nat) (w:World) (hx:0≤x.sounds∧x.sounds<16) (hn:n<4):
  Calls Tryz.prog 73 #[.agg #[.int .u8 x.letter,.int .i64 x.sounds,.bool x.silent],.int .i64 (n:Int)] w fun e w'=>e=.returned (.bool (bitB x.sounds n))∧Below w.heap.size w w':=by
 obtain⟨xl,xs,xi⟩:=x
 simp only at *
 obtain⟨c,rfl⟩:∃c:Nat,xs=(c:Int):=⟨xs.toNat,by omega⟩
 have hb:=Z3b c (by omega) n hn
 have e1:bitB (c:Int) n=c.testBit n:=by unfold bitB;simp
 rw[e1]
 clear e1
 generalize c.testBit n=tb at hb ⊢
 have hn64:(n:Int)<64:=by omega
 go_enter Tryz.func73,Tryz.ntmps73
 go_wp2
 go_ret
 exact⟨Zaq (by first|exact hb|rfl),(Below.refl _ w).alloc (Nat.le_refl _) _⟩
def letN (b:EaB) (i j:Nat):EaL:=(Zem b (Zeo b i))[j]?.getD noL
structure LetAt (b:EaB) (i j:Nat) (A k:Nat):Prop where
 ilt:i<b.spells.length
 jlt:j<b.spells[i].text.size
 alpha:b.spells[i].alpha=(A:Int)
 alt:A<b.alphas.length
 klt:k<b.alphas[A].letters.length
 idx:idxL b.alphas[A].letters (Zf8 b.spells[i].text[j])=(k:Int)
 is:letN b i j=b.alphas[A].letters[k]
theorem Zwu {b:EaB} (hv:EaValid b) {i j:Nat} (hi:i<b.spells.length) (hj:j<b.spells[i].text.size):∃A k,LetAt b i j A k:=by
 obtain⟨g1,g2,g3,g4,g5⟩:=hv.spell i hi
 obtain⟨A,hA⟩:∃A:Nat,b.spells[i].alpha=(A:Int):=⟨b.spells[i].alpha.toNat,by omega⟩
 have hlt:A<b.alphas.length:=by omega
 have hal:Zcy b b.spells[i]=(b.alphas[A]'hlt).letters:=by unfold Zcy;rw[hA,Int.toNat_natCast,List.getElem?_eq_getElem hlt];rfl
 have h5:=g5 j hj
 rw[hal] at h5
 rcases Z31 (b.alphas[A]'hlt).letters (Zf8 b.spells[i].text[j]) with h|⟨k,hk,h7,_⟩
 ·omega
 ·refine⟨A,k,hi,hj,hA,hlt,hk,h7,?_⟩
  unfold letN Zem
  rw[Zdt hi,List.getElem?_map,List.getElem?_eq_getElem (by simpa using hj)]
  show letL (Zcy b b.spells[i]) (Zf8 (b.spells[i].text.data.toList[j]'_))=_
  rw[show b.spells[i].text.data.toList[j]'(by simpa using hj)=b.spells[i].text[j] from by simp[ByteArray.getElem_eq_getElem_data],hal]
  unfold letL
  rw[h7,Int.toNat_natCast,List.getElem?_eq_getElem hk]
  rfl
theorem Z2x {b:EaB} (hv:EaValid b) {i j:Nat} (hi:i<b.spells.length) (hj:j<b.spells[i].text.size):0≤(letN b i j).sounds∧(letN b i j).sounds<16:=by
 have hl:j<(Zem b b.spells[i]).length:=by rw[Zi4];exact hj
 have h1:=Z6x hv hi _ (List.getElem_mem hl)
 have e:letN b i j=(Zem b b.spells[i])[j]:=by unfold letN;rw[Zdt hi,List.getElem?_eq_getElem hl];rfl
 rw[e]
 have hs:=hv.sounds
 have h2:(2:Int)^b.sounds.toNat≤16:=by
  have:b.sounds.toNat=1∨b.sounds.toNat=2∨b.sounds.toNat=3∨b.sounds.toNat=4:=by omega
  rcases this with h|h|h|h<;>rw[h]<;>decide
 omega
def BkB (W:World) (bm bo:Nat) (a1 a2:Option Addr) (k1 k2:Nat) (b:EaB):Prop:=W.heap[bm]?=some (.cells #[.int .i64 b.sounds,.slice a1 b.alphas.length k1,.slice a2 b.spells.length k2,.map (some bo)] 144 (0,0))
section
variable {W W':World} {bm bo:Nat} {a1 a2:Option Addr} {k1 k2:Nat} {b:EaB}
theorem BkB.cells (h:BkB W bm bo a1 a2 k1 k2 b):W.cell? ⟨bm,0,none⟩=some (.int .i64 b.sounds)∧W.cell? ⟨bm,1,none⟩=some (.slice a1 b.alphas.length k1)∧W.cell? ⟨bm,2,none⟩=some (.slice a2 b.spells.length k2)∧W.cell? ⟨bm,3,none⟩=some (.map (some bo))∧bm<W.heap.size:=
 ⟨Zaa 0 h rfl,Zaa 1 h rfl,Zaa 2 h rfl,Zaa 3 h rfl,lt_of_block h⟩
theorem BkB.same (h:BkB W bm bo a1 a2 k1 k2 b) (e:W'.heap[bm]?=W.heap[bm]?):BkB W' bm bo a1 a2 k1 k2 b:=e.trans h
end
structure LetMem (w:World) (a1 a2:Option Addr) (ns na:Nat) (i j:Nat) (x:EaL) (b1 o1 b2 o2 A k m cl bl ol:Nat) (text:ByteArray):Prop where
 e2:a2=some ⟨b1,o1,none⟩
 e1:a1=some ⟨b2,o2,none⟩
 z1:b1<w.heap.size
 z2:b2<w.heap.size
 zl:bl<w.heap.size
 c0:w.cell? ⟨b1,o1+i*2,none⟩=some (.int .i64 (A:Int))
 c1:w.cell? ⟨b1,o1+i*2+1,none⟩=some (.string text)
 c2:w.cell? ⟨b2,o2+A*2+1,none⟩=some (.slice (some ⟨bl,ol,none⟩) m cl)
 l0:w.cell? ⟨bl,ol+k*3,none⟩=some (.int .u8 x.letter)
 l1:w.cell? ⟨bl,ol+k*3+1,none⟩=some (.int .i64 x.sounds)
 l2:w.cell? ⟨bl,ol+k*3+2,none⟩=some (.bool x.silent)
 hi:(i:Int)<(ns:Int)
 hA:(A:Int)<(na:Int)
 hk:(k:Int)<(m:Int)
 hm:m≤9223372036854775807
 hj:(j:Int)<(text.size:Int)
 ix:∀(W:World),Below w.heap.size w W→∀h:j<text.size,Calls Tryz.prog 121 #[.slice (some ⟨bl,ol,none⟩) m cl,.int .u8 (text[j].toNat:Int)] W fun e w'=>e=.returned (.int .i64 (k:Int))∧Below W.heap.size W w'
theorem Zsh {a1 a2:Option Addr} {k1 k2:Nat} {b:EaB} {i j:Nat} {w:World} (hm:BookC w a1 a2 k1 k2 b) (hv:EaValid b) (hi:i<b.spells.length) (hj:j<b.spells[i].text.size):
  ∃b1 o1 b2 o2 A k m cl bl ol,LetMem w a1 a2 b.spells.length b.alphas.length i j (letN b i j) b1 o1 b2 o2 A k m cl bl ol b.spells[i].text:=by
 obtain⟨A,k,L⟩:=Zwu hv hi hj
 obtain⟨b1,o1,h1e,h1b,h1c,h1d⟩:=hm.spells i hi
 obtain⟨b2,o2,h2e,h2b,_,al,cl,h2c,h2d,h2f⟩:=hm.alphas A L.alt
 obtain⟨bl,ol,rfl,hlb,hl0,hl1,hl2⟩:=h2f k L.klt
 have hk:=L.klt
 have hA:=L.alt
 rw[L.alpha] at h1c
 refine⟨b1,o1,b2,o2,A,k,_,cl,bl,ol,h1e,h2e,h1b,h2b,hlb,h1c,h1d,h2c,?_,?_,?_,by omega,by omega,by omega,h2d.len,by omega,fun W hW h=>?_⟩
 ·rw[L.is];exact hl0
 ·rw[L.is];exact hl1
 ·rw[L.is];exact hl2
 ·have:=Zle (some ⟨bl,ol,none⟩) b.alphas[A].letters cl (Zf8 b.spells[i].text[j]) W h2d.len (h2f.mono hW)
  rw[L.idx] at this
  exact this
theorem LetMem.mono {w W:World} {a1 a2:Option Addr} {ns na i j:Nat} {x:EaL} {b1 o1 b2 o2 A k m cl bl ol:Nat} {text:ByteArray} (h:LetMem w a1 a2 ns na i j x b1 o1 b2 o2 A k m cl bl ol text) (hb:Below w.heap.size w W):LetMem W a1 a2 ns na i j x b1 o1 b2 o2 A k m cl bl ol text:=
 ⟨h.e2,h.e1,Nat.lt_of_lt_of_le h.z1 hb.size,Nat.lt_of_lt_of_le h.z2 hb.size,Nat.lt_of_lt_of_le h.zl hb.size,Zab hb h.c0,Zab hb h.c1,Zab hb h.c2,Zab hb h.l0,Zab hb h.l1,Zab hb h.l2,h.hi,h.hA,h.hk,h.hm,h.hj,fun V hV=>h.ix V (hb.trans (hV.mono hb.size))⟩
theorem Z6a (a1 a2:Option Addr) (k1 k2:Nat) (b:EaB) (bm bo i j n:Nat) (w:World) (hm:BookC w a1 a2 k1 k2 b) (hb:BkB w bm bo a1 a2 k1 k2 b) (hv:EaValid b) (hi:i<b.spells.length) (hj:j<b.spells[i].text.size) (hn:n<4):
  Calls Tryz.prog 171 #[.pointer (some ⟨bm,0,none⟩),.int .i64 (i:Int),.int .i64 (j:Int),.int .i64 (n:Int)] w fun e w'=>e=.returned (.bool (bitB (letN b i j).sounds n))∧Below w.heap.size w w':=by
 obtain⟨b1,o1,b2,o2,A,k,m,cl,bl,ol,L⟩:=Zsh hm hv hi hj
 have hok:=Z2x hv hi hj
 have hl1:=hm.oka.len
 have hl2:=hm.oks.len
 obtain⟨y0,y1,y2,y3,yz⟩:=hb.cells
 clear hm hb y0 y3
 generalize b.spells[i].text=text at *
 generalize letN b i j=x at *
 generalize b.spells.length=ns at *
 generalize b.alphas.length=na at *
 have HL:=LH (fun(V:World) (h:Below w.heap.size w V)=>L.mono h)
 have IX:=LH (fun(V:World) (h:Below w.heap.size w V)=>L.ix V h hj)
 have GV:=LH (fun W=>Zzu x n W hok hn)
 obtain⟨rfl,rfl,z1,z2,zl,c0,c1,c2,l0,l1,l2,hiI,hAI,hkI,hmI,hjI,-⟩:=L
 obtain⟨xl,xs,xi⟩:=x
 simp only at *
 go_enter Tryz.func171,Tryz.ntmps171
 go_upto_region 2 with(fail)
 have hbX:Below w.heap.size w (w.alloc (.cells #[.int .i64 (A:Int),.string text] 134)):=(Below.refl _ w).alloc (Nat.le_refl _) _
 obtain⟨X,hX⟩:∃X:World,X=w.alloc (.cells #[.int .i64 (A:Int),.string text] 134):=⟨_,rfl⟩
 rw[←hX] at hbX ⊢
 have x0:X.cell? ⟨w.heap.size,0,none⟩=some (.int .i64 (A:Int)):=by rw[hX];exact Zaa 0 (Zac _ _ rfl) rfl
 have x1:X.cell? ⟨w.heap.size,1,none⟩=some (.string text):=by rw[hX];exact Zaa 1 (Zac _ _ rfl) rfl
 have xz:w.heap.size<X.heap.size:=by rw[hX];simp
 clear hX
 replace y1:=Zab hbX y1
 replace c2:=Zab hbX c2
 replace yz:=Nat.lt_of_lt_of_le yz hbX.size
 replace z2:=Nat.lt_of_lt_of_le z2 hbX.size
 clear y2 c0 c1 l0 l1 l2 z1 zl
 go_quiet (fail)
 obtain⟨Y,hY⟩:∃Y:World,Y=X.drewN nq:=⟨_,rfl⟩
 rw[←hY]
 have hbY:Below w.heap.size w Y:=by rw[hY];exact Zan hbX _
 replace x1:Y.cell? ⟨w.heap.size,1,none⟩=some (.string text):=by rw[hY,Zkw];exact x1
 replace xz:w.heap.size<Y.heap.size:=by rw[hY];exact xz
 clear hY hbX x0 y1 c2 yz z2
 go_wp2_with (first
  |(go_at_call 73;go_must ((with_reducible refine(GV.out _).mono ?_);rintro e w3 ⟨rfl,hb3⟩;have hB3:=hB2.trans (hb3.mono hB2.size);dsimp only))
  |(go_at_call 121;go_must ((with_reducible refine(IX.out _ hbY).mono ?_);rintro e w2 ⟨rfl,hb2⟩;have hB2:=hbY.trans (hb2.mono hbY.size);obtain⟨-,-,z1,z2,zl,-,-,-,l0,l1,l2,-⟩:=HL.out _ hB2;(simp only at l0 l1 l2);dsimp only)))
 go_ret
 exact⟨rfl,hB3⟩
theorem Zu3 (a1 a2:Option Addr) (k1 k2:Nat) (b:EaB) (bm bo i j:Nat) (w:World) (hm:BookC w a1 a2 k1 k2 b) (hb:BkB w bm bo a1 a2 k1 k2 b) (hv:EaValid b) (hi:i<b.spells.length) (hj:j<b.spells[i].text.size):
  Calls Tryz.prog 173 #[.pointer (some ⟨bm,0,none⟩),.int .i64 (i:Int),.int .i64 (j:Int)] w fun e w'=>e=.returned (.bool (letN b i j).silent)∧Below w.heap.size w w':=by
 obtain⟨b1,o1,b2,o2,A,k,m,cl,bl,ol,L⟩:=Zsh hm hv hi hj
 have hl1:=hm.oka.len
 have hl2:=hm.oks.len
 obtain⟨y0,y1,y2,y3,yz⟩:=hb.cells
 clear hm hb y0 y3
 generalize b.spells[i].text=text at *
 generalize letN b i j=x at *
 generalize b.spells.length=ns at *
 generalize b.alphas.length=na at *
 have HL:=LH (fun(V:World) (h:Below w.heap.size w V)=>L.mono h)
 have IX:=LH (fun(V:World) (h:Below w.heap.size w V)=>L.ix V h hj)
 obtain⟨rfl,rfl,z1,z2,zl,c0,c1,c2,l0,l1,l2,hiI,hAI,hkI,hmI,hjI,-⟩:=L
 obtain⟨xl,xs,xi⟩:=x
 simp only at *
 go_enter Tryz.func173,Tryz.ntmps173
 go_upto_region 2 with(fail)
 have hbX:Below w.heap.size w (w.alloc (.cells #[.int .i64 (A:Int),.string text] 134)):=(Below.refl _ w).alloc (Nat.le_refl _) _
 obtain⟨X,hX⟩:∃X:World,X=w.alloc (.cells #[.int .i64 (A:Int),.string text] 134):=⟨_,rfl⟩
 rw[←hX] at hbX ⊢
 have x0:X.cell? ⟨w.heap.size,0,none⟩=some (.int .i64 (A:Int)):=by rw[hX];exact Zaa 0 (Zac _ _ rfl) rfl
 have x1:X.cell? ⟨w.heap.size,1,none⟩=some (.string text):=by rw[hX];exact Zaa 1 (Zac _ _ rfl) rfl
 have xz:w.heap.size<X.heap.size:=by rw[hX];simp
 clear hX
 replace y1:=Zab hbX y1
 replace c2:=Zab hbX c2
 replace yz:=Nat.lt_of_lt_of_le yz hbX.size
 replace z2:=Nat.lt_of_lt_of_le z2 hbX.size
 clear y2 c0 c1 l0 l1 l2 z1 zl
 go_quiet (fail)
 obtain⟨Y,hY⟩:∃Y:World,Y=X.drewN nq:=⟨_,rfl⟩
 rw[←hY]
 have hbY:Below w.heap.size w Y:=by rw[hY];exact Zan hbX _
 replace x1:Y.cell? ⟨w.heap.size,1,none⟩=some (.string text):=by rw[hY,Zkw];exact x1
 replace xz:w.heap.size<Y.heap.size:=by rw[hY];exact xz
 clear hY hbX x0 y1 c2 yz z2
 go_wp2_with (first
  |(go_at_call 121;go_must ((with_reducible refine(IX.out _ hbY).mono ?_);rintro e w2 ⟨rfl,hb2⟩;have hB2:=hbY.trans (hb2.mono hbY.size);obtain⟨-,-,z1,z2,zl,-,-,-,l0,l1,l2,-⟩:=HL.out _ hB2;(simp only at l0 l1 l2);dsimp only)))
 go_ret
 exact⟨rfl,hB2⟩
end
end Go.Proofs.YtklconegomgjaaaGreat
