/- What is proved here: the contract of truths' inner closure, whole. Conditions: the list is valid. -/
import Derived.Test.YtklconegomgjaaaGreatMoLook2G
import Derived.Deep.Cut
import Derived.BigRegion
import Derived.Test.YtklconegomgjaaaGreatMidG
import Derived.Test.YtklconegomgjaaaGreatMoFactsG
import Derived.Maps.OwnIn
import Derived.Maps.RangeWalk
import Derived.DeepKeys5
import Derived.Carry
import Derived.Test.YtklconegomgjaaaGreatProg
import Derived.WideKeyArr
set_option linter.all false
set_option maxRecDepth 100000
set_option maxHeartbeats 16000000
namespace Go.Proofs.YtklconegomgjaaaGreat
section
open Go Go.RowKit Go.Shelf
theorem Z8n:∀f:Nat,f<16→∀k:Nat,k<5→(bits BinOp.and IntKind.i64 ((f:Int) / 2^k) 1==0)=!f.testBit k:=by decide +kernel
theorem Z63 {W:World} {bm l bx yy bt bn:Nat} {L:List Int} (h:BlkI W bt 183 L) (hb:Box3 W bm l bx yy bt bn):bt≠bx∧bt≠yy∧bt≠bn:=by
 have h1:=hb.x
 have h2:=hb.y
 have h3:=hb.n
 unfold BlkI at h
 refine⟨fun e=>?_,fun e=>?_,fun e=>?_⟩
 ·rw[e,h1] at h;simp at h
 ·rw[e,h2] at h;simp at h
 ·rw[e,h3] at h;simp at h
theorem Box3.bd {W:World} {bm l bx yy bt bn:Nat} (h:Box3 W bm l bx yy bt bn):bx<W.heap.size∧yy<W.heap.size∧bn<W.heap.size:=⟨lt_of_block h.x,lt_of_block h.y,lt_of_block h.n⟩
theorem Zxy (n:Nat) (h:n≤4):Zep n≤15:=by
 rcases n with _|_|_|_|_|n
 ·decide
 ·decide
 ·decide
 ·decide
 ·decide
 ·omega
theorem Zpz (T:List Int) (h:T.length=5):∃a b c d e,T=[a,b,c,d,e]:=by
 match T,h with
 |[a,b,c,d,e],_=>exact⟨a,b,c,d,e,rfl⟩
theorem Zyx (ac az aw ap:Option Addr) (cc cz cw cp:Nat) (m:MoList) (c bm l bx yy bt bn:Nat) (hv:Valid m) (hc:c<64) (W0:World) (hbt:W0.heap.size≤bt) (all:List (List Int)) (J:List (List Int)→World→Prop) (hJ:∀s A A',J s A→Below W0.heap.size A A'→J s A') (hJZ:∀s A,J s A→LookC A bm ac az aw ap cc cz cw cp m c)
  (k:Nat) (t:List Int) (hk:t.length+(k+1)=m.sums.length) (hw:Ze5 (Zam m c) t=true)
  (IH:∀(x:Nat) (pre:List (List Int)) (W:World),Ze5 (Zam m c) (t++[(x:Int)])=true→x<m.claimants.length→J pre W→pre++dfs (Zam m c) k (t++[(x:Int)]) <+: all→Box3 W bm l bx yy bt bn→BlkI W bt 183 (pad 5 (t++[(x:Int)]))→W0.heap.size≤W.heap.size→
   Calls Tryz.prog 176 #[.int .i64 ((t.length+1:Nat):Int),.pointer (some ⟨bx,0,none⟩),.pointer (some ⟨yy,0,none⟩),.pointer (some ⟨bt,0,none⟩),.pointer (some ⟨bn,0,none⟩)] W fun e W'=>e=.returned (.bool true)∧J (pre++dfs (Zam m c) k (t++[(x:Int)])) W'∧Box3 W' bm l bx yy bt bn∧BlkI W' bt 183 (pad 5 (t++[(x:Int)]))∧W0.heap.size≤W'.heap.size)
  (pre:List (List Int)) (W:World) (hj:J pre W) (hpre:pre++dfs (Zam m c) (k+1) t <+: all) (hb:Box3 W bm l bx yy bt bn) (hT:BlkI W bt 183 (pad 5 t)) (hz:W0.heap.size≤W.heap.size):
  Calls Tryz.prog 176 #[.int .i64 (t.length:Int),.pointer (some ⟨bx,0,none⟩),.pointer (some ⟨yy,0,none⟩),.pointer (some ⟨bt,0,none⟩),.pointer (some ⟨bn,0,none⟩)] W fun e W'=>e=.returned (.bool true)∧J (pre++dfs (Zam m c) (k+1) t) W'∧Box3 W' bm l bx yy bt bn∧BlkI W' bt 183 (pad 5 t)∧W0.heap.size≤W'.heap.size:=by
 have hm:=hJZ _ _ hj
 have l1:=hm.lst.okc.len
 have l2:=hm.lst.okz.len
 have v1:=hv.nc
 have v2:=hv.nz
 have hne:=Zoa (a:=t.length) (b:=m.sums.length) (by omega)
 have HK:=LH hk
 have HW:=LH hw
 have HIH:=LH IH
 have HP:=LH hpre
 have HT0:=LH hT
 have hs5:t.length<5:=by omega
 have hsz:t.length<m.sums.length:=by omega
 clear hk hw IH hpre hT
 obtain⟨s,hs⟩:∃s,s=t.length:=⟨_,rfl⟩
 rw[←hs] at hne hs5 hsz ⊢
 have HS:=LH hs
 clear hs
 have c1:=hm.c1
 have c0:=hm.c0
 have x0:=Zaa 0 hb.x rfl
 simp only[List.getElem_toArray,List.getElem_cons_zero] at x0
 go_enter Tryz.func176,Tryz.ntmps176
 go_wp2
 go_step3
 go_wp2
 go_step3
 go_wp2
 go_loopw [25] (fun i wr=>∃x:Nat,x≤m.claimants.length∧i=.int .i64 x∧J (pre++Ziw (Zam m c) k t x) wr∧(∃y,BlkI wr bt 183 (pad 5 (t++[y])))∧Box3 wr bm l bx yy bt bn∧W0.heap.size≤wr.heap.size) (fun i _=>m.claimants.length-(intOf i).toNat)
 case atStart=>exact⟨0,Nat.zero_le _,rfl,by rw[Zxw,List.append_nil];exact hj,⟨0,by rw[Z42 5 t (by have:=HS.out;omega)];exact HT0.out⟩,hb,hz⟩
 case round=>
  clear x0 c1 c0
  obtain⟨x,hx,rfl,hj1,⟨y,hy⟩,hb1,hz1⟩:=hrel
  by_cases hlt:x<m.claimants.length
  ·have hy5:(pad 5 (t++[y])).length=5:=Zfz 5 _ (by have:=HS.out;simp;omega)
   have ecell:=hy.cell s (by omega)
   have efree:=hy.free s
   have hyx:BlkI (wr.setCell ⟨bt,s,none⟩ (.int .i64 (x:Int))) bt 183 (pad 5 (t++[(x:Int)])):=by
    have:=hy.set s (x:Int)
    rw[HS.out,Z3x 5 t _ _ (by have:=HS.out;omega)] at this
    rw[HS.out]
    exact this
   have hbs:Below W0.heap.size wr (wr.setCell ⟨bt,s,none⟩ (.int .i64 (x:Int))):=(Below.refl _ _).setCell (by exact hbt) _
   have hjs:=hJ _ _ _ hj1 hbs
   have hzs:W0.heap.size≤(wr.setCell ⟨bt,s,none⟩ (.int .i64 (x:Int))).heap.size:=Nat.le_trans hz1 hbs.size
   have hbts:bt≠bx∧bt≠yy∧bt≠bn:=Z63 hy hb1
   have hbx:Box3 (wr.setCell ⟨bt,s,none⟩ (.int .i64 (x:Int))) bm l bx yy bt bn:=hb1.same (Below.heap_setCell _ _ _ _ (by exact fun e=>hbts.1 e.symm)) (Below.heap_setCell _ _ _ _ (by exact fun e=>hbts.2.1 e.symm)) (Below.heap_setCell _ _ _ _ (by exact fun e=>hbts.2.2 e.symm))
   go_upto_region 6 with(fail)
   apply Zdh _ (fun W'=>BlkI W' bt 183 (pad 5 (t++[(x:Int)]))∧J (pre++Ziw (Zam m c) k t x) W'∧W0.heap.size≤W'.heap.size∧Box3 W' bm l bx yy bt bn)
   ·go_wp2
    exact⟨rfl,hyx,hjs,hzs,hbx⟩
   clear hyx hjs hzs hbx hbs ecell efree hy hy5 hj1 hb1 hz1
   rintro w1 ⟨hT1,hj1,hz1,hb1⟩
   have hm1:=hJZ _ _ hj1
   obtain⟨t0,t1,t2,t3,t4,hTT⟩:=Zpz (pad 5 (t++[(x:Int)])) (Zfz 5 _ (by have:=HS.out;simp;omega))
   have x0:=Zaa 0 hb1.x rfl
   simp only[List.getElem_toArray,List.getElem_cons_zero] at x0
   have c1:=hm1.c1
   have HF:Hid (fine (Zam m c) t.length t x=(bitB m.sums[s].for_ x&&Zlg (Zam m c) [t0,t1,t2,t3,t4] s)):=by
    show _=_
    have e:=HS.out
    subst e
    rw[←hTT]
    exact Z87 (Zam m c) (Zih hv c) t x 5 hs5 hsz HW.out
   have HA:=LH (fun(h:fine (Zam m c) t.length t x=true)=>show Ze5 (Zam m c) (t++[(x:Int)])=true from by unfold fine at h;simp only[Bool.and_eq_true] at h;exact h.2)
   have HY:=LH (Zrz (Zam m c) k t x)
   have HN:=LH (Zw3 (Zam m c) k t x)
   have HL:=LH (Zwd (Zam m c) k t (x+1) (m.claimants.length-(x+1)))
   obtain⟨fo,hfo⟩:∃fo:Nat,m.sums[s].for_=(fo:Int):=Int.eq_ofNat_of_zero_le (show 0≤m.sums[s].for_ from(by have:=(hv.sums s hsz).2.1;omega))
   have hfo15:fo<16:=by
    have h1:=(hv.sums s hsz).2.2
    have h2:=Zxy m.claimants.length (by omega)
    omega
   have KE:=LH (fun W hW=>Z4d ac az aw ap cc cz cw cp m c bm s [t0,t1,t2,t3,t4] t0 t1 t2 t3 t4 rfl W hW hv hc hsz)
   have NX:Hid (∀W',fine (Zam m c) t.length t x=true→J (pre++Ziw (Zam m c) k t x) W'→Box3 W' bm l bx yy bt bn→BlkI W' bt 183 [t0,t1,t2,t3,t4]→W0.heap.size≤W'.heap.size→
     Calls Tryz.prog 176 #[.int .i64 ((s:Int)+1),.pointer (some ⟨bx,0,none⟩),.pointer (some ⟨yy,0,none⟩),.pointer (some ⟨bt,0,none⟩),.pointer (some ⟨bn,0,none⟩)] W' fun e W''=>e=.returned (.bool true)∧J (pre++Ziw (Zam m c) k t (x+1)) W''∧Box3 W'' bm l bx yy bt bn∧BlkI W'' bt 183 (pad 5 (t++[(x:Int)]))∧W0.heap.size≤W''.heap.size):=LH (fun W' hfi hj' hb' hT' hz'=>by
    rw[HY.out hfi,←List.append_assoc]
    have e:=HS.out
    have h:=HIH.out x (pre++Ziw (Zam m c) k t x) W' (HA.out hfi) hlt hj' (by
     rw[List.append_assoc,←HY.out hfi]
     refine Z80 HL.out ?_
     rw[show x+1+(m.claimants.length-(x+1))=m.claimants.length from by omega]
     exact HP.out) hb' (by rw[hTT];exact hT') hz'
    rw[e]
    exact h)
   clear HIH HP HL HA
   obtain⟨bz,oz,rfl,hbz,hz1',hz2',hz3'⟩:=hm1.lst.sums s hsz
   rw[hfo] at hz3' HF
   have e1:bitB (fo:Int) x=fo.testBit x:=by unfold bitB;simp
   rw[e1] at HF
   have HB:=LH (Z8n fo hfo15 x (by omega))
   clear e1 hfo hz1' hz2'
   rw[hTT] at hT1
   have d0:=Zaa 0 hT1 rfl
   have d1:=Zaa 1 hT1 rfl
   have d2:=Zaa 2 hT1 rfl
   have d3:=Zaa 3 hT1 rfl
   have d4:=Zaa 4 hT1 rfl
   simp only[List.map_cons,List.map_nil,List.getElem_toArray,List.getElem_cons_succ,List.getElem_cons_zero] at d0 d1 d2 d3 d4
   generalize fo.testBit x=tb at HF HB
   cases tb
   ·have hbit:=HB.out
    simp only[Bool.not_false] at hbit
    go_wp2
    go_roundw
    case rel=>exact⟨x+1,by omega,by go_num,by rw[HN.out (by rw[HF.out];rfl)];exact hj1,⟨(x:Int),by rw[hTT];exact hT1⟩,hb1,hz1⟩
    case measure=>simp[intOf];omega
   ·have hbit:=HB.out
    simp only[Bool.not_true] at hbit
    generalize Zlg (Zam m c) [t0,t1,t2,t3,t4] s=kb at HF KE
    have hbb:=hb1.bd
    have hT1b:=hT1.lt
    cases kb
    ·go_wp2_with (go_at_call 177;go_must (refine(KE.out _ hm1).mono ?_;rintro e w2 ⟨rfl,hb2⟩;dsimp only))
     go_roundw
     case rel=>exact⟨x+1,by omega,by go_num,hJ _ _ _ (by rw[HN.out (by rw[HF.out];rfl)];exact hj1) (hb2.mono hz1),⟨(x:Int),by rw[hTT];exact hT1.same (hb2.block _ hT1b)⟩,hb1.same (hb2.block _ hbb.1) (hb2.block _ hbb.2.1) (hb2.block _ hbb.2.2),Nat.le_trans hz1 hb2.size⟩
     case measure=>simp[intOf];omega
    ·go_wp2_with (first
      |(go_at_call 177;go_must (refine(KE.out _ hm1).mono ?_;rintro e w2 ⟨rfl,hb2⟩;have hb2b:=hb1.same (hb2.block _ hbb.1) (hb2.block _ hbb.2.1) (hb2.block _ hbb.2.2);have n0:=Zaa 0 hb2b.n rfl;simp only[List.getElem_toArray,List.getElem_cons_zero] at n0;dsimp only))
      |(go_at_call 176;go_must (refine(NX.out _ (by rw[HF.out];rfl) (hJ _ _ _ hj1 (hb2.mono hz1)) hb2b (hT1.same (hb2.block _ hT1b)) (Nat.le_trans hz1 hb2.size)).mono ?_;rintro e w3 ⟨rfl,hj3,hb3,hT3,hz3⟩;dsimp only)))
     go_roundw
     case rel=>exact⟨x+1,by omega,by go_num,hj3,⟨(x:Int),hT3⟩,hb3,hz3⟩
     case measure=>simp[intOf];omega
  ·obtain rfl:x=m.claimants.length:=by omega
   have hy5:(pad 5 (t++[y])).length=5:=Zfz 5 _ (by have:=HS.out;simp;omega)
   have ecell:=hy.cell s (by omega)
   have efree:=hy.free s
   go_wp2
   rw[Exit.noGoto_ret]
   go_ret
   refine⟨rfl,hJ _ _ _ hj1 ((Below.refl _ _).setCell (by exact hbt) _),?_,?_,Nat.le_trans hz1 (by simp)⟩
   ·have hbts:bt≠bx∧bt≠yy∧bt≠bn:=Z63 hy hb1
    exact hb1.same (Below.heap_setCell _ _ _ _ (by exact fun e=>hbts.1 e.symm)) (Below.heap_setCell _ _ _ _ (by exact fun e=>hbts.2.1 e.symm)) (Below.heap_setCell _ _ _ _ (by exact fun e=>hbts.2.2 e.symm))
   ·have:=hy.set s 0
    rw[HS.out,Zto 5 t _ (by have:=HS.out;omega)] at this
    rw[HS.out]
    exact this
end
section
open Go Go.RowKit Go.Shelf
theorem Z12 (ac az aw ap:Option Addr) (cc cz cw cp:Nat) (m:MoList) (c bm l bx yy bt bn B:Nat) (hv:Valid m) (hc:c<64) (W0:World) (hbt:W0.heap.size≤bt) (hBx:B≤bx) (hBy:B≤yy) (hBt:B≤bt) (hBn:B≤bn) (all:List (List Int)) (J:List (List Int)→World→Prop) (hJ:∀s A A',J s A→Below W0.heap.size A A'→J s A') (hJZ:∀s A,J s A→LookC A bm ac az aw ap cc cz cw cp m c)
  (hY:∀pre x W1,J pre W1→pre++[x] <+: all→YieldAt Fence.wide 0 Tryz.prog l #[five (pad 5 x)] W1 fun e W'=>e=.returned (.bool true)∧J (pre++[x]) W'∧Above B W1 W'):
  ∀(k:Nat) (t:List Int) (pre:List (List Int)) (W:World),t.length+k=m.sums.length→Ze5 (Zam m c) t=true→J pre W→pre++dfs (Zam m c) k t <+: all→Box3 W bm l bx yy bt bn→BlkI W bt 183 (pad 5 t)→W0.heap.size≤W.heap.size→
  Calls Tryz.prog 176 #[.int .i64 (t.length:Int),.pointer (some ⟨bx,0,none⟩),.pointer (some ⟨yy,0,none⟩),.pointer (some ⟨bt,0,none⟩),.pointer (some ⟨bn,0,none⟩)] W fun e W'=>e=.returned (.bool true)∧J (pre++dfs (Zam m c) k t) W'∧Box3 W' bm l bx yy bt bn∧BlkI W' bt 183 (pad 5 t)∧W0.heap.size≤W'.heap.size:=by
 intro k
 induction k with
 |zero=>
  intro t pre W hk hw hj hpre hb hT hz
  have hl:t.length=m.sums.length:=by omega
  have v2:=hv.nz
  obtain⟨t0,t1,t2,t3,t4,hTT⟩:=Zpz (pad 5 t) (Zfz 5 t (by omega))
  have hy:=hY pre t W hj (by simpa[dfs] using hpre)
  rw[hTT] at hy
  have hbd:=hb.bd
  have hTl:=hT.lt
  have h:=Z4a ac az aw ap cc cz cw cp m c bm l bx yy bt bn t0 t1 t2 t3 t4 W (hJZ _ _ hj) hb (by rw[←hTT];exact hT)
   (fun W'=>J (pre++dfs (Zam m c) 0 t) W'∧Box3 W' bm l bx yy bt bn∧BlkI W' bt 183 (pad 5 t)∧W0.heap.size≤W'.heap.size)
   (YieldAt.mono hy fun e W' hq=>⟨hq.1,hq.2.1,hb.same (hq.2.2.block _ hBx hbd.1) (hq.2.2.block _ hBy hbd.2.1) (hq.2.2.block _ hBn hbd.2.2),hT.same (hq.2.2.block _ hBt hTl),Nat.le_trans hz hq.2.2.size⟩)
  rw[hl]
  exact callsIn_wide.1 h
 |succ k ih=>
  intro t pre W hk hw hj hpre hb hT hz
  refine Zyx ac az aw ap cc cz cw cp m c bm l bx yy bt bn hv hc W0 hbt all J hJ hJZ k t hk hw ?_ pre W hj hpre hb hT hz
  intro x pre' W' hw' hx hj' hpre' hb' hT' hz'
  have:=ih (t++[(x:Int)]) pre' W' (by simp;omega) hw' hj' hpre' hb' hT' hz'
  simpa using this
theorem Zbj (w:World) (o:Obj) {n:Nat} (h:n=w.heap.size):(w.alloc o).heap[n]?=some o:=by subst h;exact heap_alloc_new w o
theorem Zt6 (m:MoList) (hv:Valid m):Ze5 m []=true:=by
 unfold Ze5
 rw[List.all_eq_true]
 intro i hi
 have hi2:i<m.words.length:=by simpa using hi
 simp only[List.getElem?_eq_getElem hi2,Bool.or_eq_true]
 right
 unfold so
 rw[if_pos (by have:=(hv.words i hi2).sum;simp;omega)]
theorem Zr3 (ac az aw ap:Option Addr) (cc cz cw cp:Nat) (m:MoList) (c bm l bx B:Nat) (hv:Valid m) (hc:c<64) (hBx:B≤bx) (W:World) (hx:W.heap[bx]?=some (.cells #[.pointer (some ⟨bm,0,none⟩)] 120 (0,0))) (hBW:B≤W.heap.size) (J:List (List Int)→World→Prop) (hJ:∀s A A',J s A→Below W.heap.size A A'→J s A') (hJZ:∀s A,J s A→LookC A bm ac az aw ap cc cz cw cp m c)
  (hY:∀pre x W1,J pre W1→pre++[x] <+: dfs (Zam m c) m.sums.length []→YieldAt Fence.wide 0 Tryz.prog l #[five (pad 5 x)] W1 fun e W'=>e=.returned (.bool true)∧J (pre++[x]) W'∧Above B W1 W') (hj:J [] W):
  Calls Tryz.prog 175 #[.func (.yield l) #[] #[],.pointer (some ⟨bx,0,none⟩)] W fun e W'=>(∃v,e=.returned v)∧J (dfs (Zam m c) m.sums.length []) W':=by
 obtain⟨X,hX⟩:∃X,X=(((W.alloc (.cells #[.func (.yield l) #[] #[]] 243)).alloc (.cells #[.int .i64 0,.int .i64 0,.int .i64 0,.int .i64 0,.int .i64 0] 183)).alloc (.cells #[.func (.func 176) #[] #[.pointer (some ⟨bx,0,none⟩),.pointer (some ⟨W.heap.size,0,none⟩),.pointer (some ⟨W.heap.size+1,0,none⟩),.pointer (some ⟨W.heap.size+1+1,0,none⟩)]] 123)):=⟨_,rfl⟩
 have hWX:Below W.heap.size W X:=by subst hX;exact((((Below.refl _ W).alloc (Nat.le_refl _) _).alloc (by simp) _).alloc (by simp;omega) _)
 have hb:Box3 X bm l bx W.heap.size (W.heap.size+1) (W.heap.size+1+1):=by
  subst hX
  refine⟨(hWX.block _ (lt_of_block hx)).trans hx,?_,?_⟩
  ·exact(heap_alloc_old _ _ (by simp;omega)).trans ((heap_alloc_old _ _ (by simp)).trans (heap_alloc_new _ _))
  ·exact Zbj _ _ (by simp)
 have hT:BlkI X (W.heap.size+1) 183 (pad 5 []):=by
  subst hX
  exact(heap_alloc_old _ _ (by simp)).trans (Zbj _ _ (by simp))
 have NX:Calls Tryz.prog 176 #[.int .i64 0,.pointer (some ⟨bx,0,none⟩),.pointer (some ⟨W.heap.size,0,none⟩),.pointer (some ⟨W.heap.size+1,0,none⟩),.pointer (some ⟨W.heap.size+1+1,0,none⟩)] X fun e W'=>e=.returned (.bool true)∧J ([]++dfs (Zam m c) m.sums.length []) W'∧Box3 W' bm l bx W.heap.size (W.heap.size+1) (W.heap.size+1+1)∧BlkI W' (W.heap.size+1) 183 (pad 5 [])∧W.heap.size≤W'.heap.size:=
  Z12 ac az aw ap cc cz cw cp m c bm l bx W.heap.size (W.heap.size+1) (W.heap.size+1+1) B hv hc W (by omega) hBx (by omega) (by omega) (by omega) _ J hJ hJZ hY m.sums.length [] [] X (by simp) (Zt6 (Zam m c) (Zih hv c)) (hJ _ _ _ hj hWX) (List.prefix_refl _) hb hT hWX.size
 rw[hX,List.nil_append] at NX
 have HN:=LH NX
 clear NX hY hX hb hT hWX
 go_enter Tryz.func175,Tryz.ntmps175
 go_wp2_with (go_at_call 176;go_must ((with_reducible refine HN.out.mono ?_);rintro e w2 ⟨rfl,hj2,-,-,-⟩;dsimp only))
 go_end0
 exact⟨⟨_,rfl⟩,hj2⟩
theorem Zvm (bm:Nat) (w:World):Calls Tryz.prog 146 #[.pointer (some ⟨bm,0,none⟩)] w fun e w'=>e=.returned (.func (.func 175) #[] #[.pointer (some ⟨w.heap.size,0,none⟩)])∧w'=w.alloc (.cells #[.pointer (some ⟨bm,0,none⟩)] 120):=by
 go_enter Tryz.func146,Tryz.ntmps146
 go_wp2
 go_ret
 exact⟨rfl,rfl⟩
theorem Zvq (ac az aw ap:Option Addr) (cc cz cw cp:Nat) (m:MoList) (c bm bx B:Nat) (hv:Valid m) (hc:c<64) (hBx:B≤bx) (w:World) (hx:w.heap[bx]?=some (.cells #[.pointer (some ⟨bm,0,none⟩)] 120 (0,0))):
  SeqT Tryz.prog 175 #[.pointer (some ⟨bx,0,none⟩)] (fun t=>#[five (pad 5 t)]) B (fun A=>LookC A bm ac az aw ap cc cz cw cp m c) (Zao (Zam m c)) w:=by
 intro l J W hb hsz hJ hJZ hY hj
 have e:Zao (Zam m c)=dfs (Zam m c) m.sums.length []:=Z2h (Zam m c)
 rw[e] at hY ⊢
 have hbx:=lt_of_block hx
 exact callsIn_wide.2 (Zr3 ac az aw ap cc cz cw cp m c bm l bx B hv hc hBx W ((hb.block _ hbx).trans hx) (by omega) J hJ hJZ hY hj)
end
section
def Zgi (m:MoList) (T:List Int) (j:Nat):List Int:=[Zb6 m T 0 j,Zb6 m T 1 j,Zb6 m T 2 j,Zb6 m T 3 j]
def dues (m:MoList) (T:List Int):List Int:=Zgi m T m.sums.length
theorem Zs3 (m:MoList) (T:List Int) (j c:Nat) (h:c<4):(Zgi m T j)[c]?=some (Zb6 m T c j):=by
 rcases c with _|_|_|_|c
 ·rfl
 ·rfl
 ·rfl
 ·rfl
 ·omega
theorem Zt5 (m:MoList) (T:List Int) (j c:Nat) (h:c<4) (e:T[j]?.getD 0=(c:Int)):Zgi m T (j+1)=(Zgi m T j).set c (Zb6 m T c j+Zda m j):=by
 unfold Zgi
 simp only[Zb6,e]
 rcases c with _|_|_|_|c
 ·simp
 ·simp
 ·simp
 ·simp
 ·omega
theorem Ztf (m:MoList) (t:List Int) (c:Int) (n:Nat):∀j,j≤t.length→Zb6 m (pad n t) c j=Zb6 m t c j
 |0,_=>rfl
 |j+1,h=>by
  rw[Zb6,Zb6,Ztf m t c n j (by omega),Zfw n t j (by omega)]
theorem Zor (m:MoList) (j:Nat) (h:j<m.sums.length):Zda m j=m.sums[j].pence:=by unfold Zda;rw[List.getElem?_eq_getElem h]
end
section
open Go Go.RowKit Go.Shelf
theorem Z59 (ac az aw ap:Option Addr) (cc cz cw cp:Nat) (m:MoList) (c bm:Nat) (T:List Int) (t0 t1 t2 t3 t4:Int) (hT:T=[t0,t1,t2,t3,t4]) (hTb:∀j,j<m.sums.length→0≤T[j]?.getD 0∧T[j]?.getD 0<4) (w:World) (hm:LookC w bm ac az aw ap cc cz cw cp m c) (hv:Valid m):
  Calls Tryz.prog 147 #[.pointer (some ⟨bm,0,none⟩),.agg #[.int .i64 t0,.int .i64 t1,.int .i64 t2,.int .i64 t3,.int .i64 t4]] w fun e w'=>e=.returned (.agg #[.int .i64 (Zb6 m T 0 m.sums.length),.int .i64 (Zb6 m T 1 m.sums.length),.int .i64 (Zb6 m T 2 m.sums.length),.int .i64 (Zb6 m T 3 m.sums.length)])∧Below w.heap.size w w':=by
 have HT:=LH hT
 clear hT
 have HB:=LH hTb
 clear hTb
 have l2:=hm.lst.okz.len
 have v2:=hv.nz
 have c1:=hm.c1
 have hB:=Zag c1
 have hW0:=Below.refl (w.heap.size+1) (w.alloc (.cells #[.int .i64 t0,.int .i64 t1,.int .i64 t2,.int .i64 t3,.int .i64 t4] 183))
 go_enter Tryz.func147,Tryz.ntmps147
 go_wp2
 go_loopw [13] (fun i wr=>∃k:Nat,k≤m.sums.length∧i=.int .i64 k∧BlkI wr (w.heap.size+1) 188 (Zgi m T k)∧Below (w.heap.size+1) (w.alloc (.cells #[.int .i64 t0,.int .i64 t1,.int .i64 t2,.int .i64 t3,.int .i64 t4] 183)) wr) (fun i _=>m.sums.length-(intOf i).toNat)
 case atStart=>exact⟨0,Nat.zero_le _,rfl,Zbj _ _ (by simp),hW0.alloc (by simp) _⟩
 case round=>
  obtain⟨k,hk,rfl,hL,hbr⟩:=hrel
  have hm2:=hm.mono (Zaf hbr)
  have d1:=hm2.c1
  have hBd:=Zag d1
  clear c1 hB
  by_cases hlt:k<m.sums.length
  ·have hTk:=HB.out k hlt
   have tcell:=Zkd hbr HT.out k (by omega)
   have HX:=LH (Zt5 m T k (T[k]?.getD 0).toNat (by omega) (by omega))
   obtain⟨x,hx⟩:∃x:Nat,T[k]?.getD 0=(x:Int):=Int.eq_ofNat_of_zero_le hTk.1
   rw[hx] at tcell HX hTk
   simp only[Int.toNat_natCast] at HX
   have hx4:x<4:=by omega
   have ecell:=Zaa x hL (v:=.int .i64 (Zb6 m T x k)) (by simp[Zs3 m T k x hx4])
   have efree:=Zad x hL
   have ez:=Zai hbr
   have ez2:=hL.lt
   have eset:∀o:Obj,BlkI ((wr.setCell ⟨w.heap.size+1,x,none⟩ (.int .i64 (Zb6 m T x k+Zda m k))).alloc o) (w.heap.size+1) 188 (Zgi m T (k+1)):=fun o=>by
    rw[HX.out]
    exact(hL.set x _).same (heap_alloc_old _ o (by simpa using ez2))
   have eset:=LH eset
   have hdb:=Zxc m hv T (x:Int) k
   have hpb:=Zq8 m hv k
   obtain⟨b,off,rfl,hb,h1,h2,h3⟩:=hm2.lst.sums k hlt
   have hpe:=Zor m k hlt
   rw[←hpe] at h2
   clear hpe hx
   generalize Zb6 m T x k=d at *
   generalize Zda m k=p at *
   go_wp2
   apply Zdh _ (fun W'=>BlkI W' (w.heap.size+1) 188 (Zgi m T (k+1))∧Below (w.heap.size+1) (w.alloc (.cells #[.int .i64 t0,.int .i64 t1,.int .i64 t2,.int .i64 t3,.int .i64 t4] 183)) W')
   ·(focus go_region)
    all_goals exact⟨rfl,eset.out _,Zah ((hbr.setCell (by simp) _).alloc (by simp;omega) _)⟩
   clear eset ecell efree hL hbr
   rintro W' ⟨hL,hbr⟩
   go_wp2
   go_roundw
   case rel=>exact⟨k+1,by omega,by go_num,hL,hbr⟩
   case measure=>simp[intOf];omega
  ·obtain rfl:k=m.sums.length:=by omega
   have e0:=Zaa 0 hL (v:=.int .i64 (Zb6 m T 0 m.sums.length)) (by simp[Zgi])
   have e1:=Zaa 1 hL (v:=.int .i64 (Zb6 m T 1 m.sums.length)) (by simp[Zgi])
   have e2:=Zaa 2 hL (v:=.int .i64 (Zb6 m T 2 m.sums.length)) (by simp[Zgi])
   have e3:=Zaa 3 hL (v:=.int .i64 (Zb6 m T 3 m.sums.length)) (by simp[Zgi])
   have f0:=Zad 0 hL
   have f1:=Zad 1 hL
   have f2:=Zad 2 hL
   have f3:=Zad 3 hL
   go_wp2
   (try simp only[Exit.inBlock,Exit.then])
   refine bodyPost_ret (v:=.agg #[.int .i64 (Zb6 m T 0 m.sums.length),.int .i64 (Zb6 m T 1 m.sums.length),.int .i64 (Zb6 m T 2 m.sums.length),.int .i64 (Zb6 m T 3 m.sums.length)]) ?_ rfl ⟨rfl,?_⟩
   ·rw[Zbh rfl]
    go_simp
   ·exact((((Zaf hbr).setCell (by simp) _).setCell (by simp) _).setCell (by simp) _).setCell (by simp) _
end
section
def Zb4 (m:MoList) (more:Nat):Nat→Nat
 |0=>more
 |k+1=>match m.words[k]? with|some w=>if w.came then Zb4 m more k|||(1 <<< k) else Zb4 m more k|none=>Zb4 m more k
theorem Zgx (m:MoList) (more:Nat) (h:more<64):∀k,k≤6→Zb4 m more k<64
 |0,_=>h
 |k+1,hk=>by
  have ih:=Zgx m more h k (by omega)
  have h1:(1 <<< k:Nat)<2^6:=by rw[Nat.one_shiftLeft];exact Nat.pow_lt_pow_right (by omega) (by omega)
  rw[Zb4]
  split
  ·split
   ·exact Nat.or_lt_two_pow (n:=6) ih h1
   ·exact ih
  ·exact ih
theorem Zl5 (m:MoList) (more k:Nat) (h:k<m.words.length) (hc:m.words[k].came=true):Zb4 m more (k+1)=Zb4 m more k|||(1 <<< k):=by
 rw[Zb4,List.getElem?_eq_getElem h];simp[hc]
theorem Zm5 (m:MoList) (more k:Nat) (h:k<m.words.length) (hc:m.words[k].came=false):Zb4 m more (k+1)=Zb4 m more k:=by
 rw[Zb4,List.getElem?_eq_getElem h];simp[hc]
def Zau (m:MoList) (more:Nat):Nat:=Zb4 m more m.words.length
def Zcu (pre:List (List Int)) (i:Nat):Nat:=pre.foldl (fun e t=>e|||(1 <<< (t[i]?.getD 0).toNat)) 0
theorem Zy5 (pre:List (List Int)) (t:List Int) (i:Nat):Zcu (pre++[t]) i=Zcu pre i|||(1 <<< (t[i]?.getD 0).toNat):=by
 unfold Zcu;rw[List.foldl_append];rfl
theorem Zxb (i:Nat):∀(pre:List (List Int)),(∀t∈pre,(t[i]?.getD 0).toNat<4)→Zcu pre i<16:=by
 intro pre
 suffices h:∀(l:List (List Int)) (e:Nat),e<2^4→(∀t∈l,(t[i]?.getD 0).toNat<4)→l.foldl (fun e t=>e|||(1 <<< (t[i]?.getD 0).toNat)) e<2^4 from fun hp=>h pre 0 (by decide) hp
 intro l
 induction l with
 |nil=>intro e he _;exact he
 |cons a l ih=>
  intro e he hl
  rw[List.foldl_cons]
  refine ih _ (Nat.or_lt_two_pow he ?_) (fun t ht=>hl t (by simp[ht]))
  have:=hl a (by simp)
  rw[Nat.one_shiftLeft]
  exact Nat.pow_lt_pow_right (by omega) this
def Ze2 (m:MoList) (pre:List (List Int)) (i:Nat):Nat:=if i<m.sums.length then Zcu pre i else 0
def Zdc (m:MoList) (pre:List (List Int)) (t:List Int) (j:Nat):List Int:=(List.range 5).map fun i=>((if i<j then Ze2 m (pre++[t]) i else Ze2 m pre i:Nat):Int)
def Zc9 (m:MoList) (pre:List (List Int)):List Int:=(List.range 5).map fun i=>((Ze2 m pre i:Nat):Int)
theorem Zq6 (m:MoList) (pre:List (List Int)) (t:List Int):Zdc m pre t 0=Zc9 m pre:=by
 unfold Zdc Zc9
 simp
theorem Zt3 (m:MoList) (pre:List (List Int)) (t:List Int):Zdc m pre t m.sums.length=Zc9 m (pre++[t]):=by
 unfold Zdc Zc9
 apply List.map_congr_left
 intro i _
 by_cases h:i<m.sums.length
 ·rw[if_pos h]
 ·rw[if_neg h];simp[Ze2,h]
theorem Zla (m:MoList) (pre:List (List Int)):(Zc9 m pre).length=5:=by simp[Zc9]
theorem Zuv (m:MoList) (pre:List (List Int)) (t:List Int) (j:Nat) (h5:j<5) (h:j<m.sums.length):(Zdc m pre t j)[j]?=some ((Zcu pre j:Nat):Int):=by
 unfold Zdc
 simp[h5,Ze2,h]
theorem Zpy (m:MoList) (pre:List (List Int)) (t:List Int) (j:Nat) (h5:j<5) (h:j<m.sums.length):
  Zdc m pre t (j+1)=(Zdc m pre t j).set j ((Zcu pre j|||(1 <<< (t[j]?.getD 0).toNat):Nat):Int):=by
 unfold Zdc
 apply List.ext_getElem (by simp)
 intro i h1 h2
 simp only[List.getElem_map,List.getElem_range,List.getElem_set]
 by_cases e:j=i
 ·subst e
  simp[Ze2,h,Zy5]
 ·rw[if_neg e]
  by_cases hi:i<j
  ·rw[if_pos hi,if_pos (by omega)]
  ·rw[if_neg hi,if_neg (by omega)]
theorem Zyj (m:MoList):Zc9 m []=[0,0,0,0,0]:=by
 unfold Zc9
 simp[Ze2,Zcu,List.range,List.range.loop]
end
section
theorem Zmb (m:MoList) (i:Nat) (t:List Int):(Zbq m i t).Pairwise (fun a b=>less a b=true):=by
 unfold Zbq
 rw[List.pairwise_map]
 refine List.Pairwise.filter _ ?_
 refine(List.pairwise_lt_range (n:=m.claimants.length)).imp ?_
 intro a b h
 exact Zog t _ _ (by omega)
theorem Znz (m:MoList) (i:Nat):(Za8 m i).Pairwise (fun a b=>less a b=true):=by
 induction i with
 |zero=>simp[Za8]
 |succ i ih=>
  rw[Za8,List.pairwise_flatMap]
  refine⟨fun t _=>Zmb m i t,?_⟩
  have hl:=Zhv m i
  refine ih.imp_of_mem ?_
  intro a b ha hb hab x hx y hy
  unfold Zbq at hx hy
  obtain⟨c,_,rfl⟩:=List.mem_map.1 hx
  obtain⟨d,_,rfl⟩:=List.mem_map.1 hy
  exact Zn2 a b _ _ (by rw[hl a ha,hl b hb]) hab
theorem Zkt (m:MoList):(Zao m).Pairwise (fun a b=>less a b=true):=Znz m _
theorem Zl1 (m:MoList):(Zao m).Nodup:=(Zkt m).imp (fun {a b} h e=>by subst e;rw[Ze4] at h;cases h)
theorem Zx6 (m:MoList) (pre:List (List Int)) (x:List Int) (h:pre++[x] <+: Zao m):∀t∈pre,t≠x:=by
 intro t ht e
 subst e
 have hn:=(h.sublist).nodup (Zl1 m)
 rw[List.nodup_append] at hn
 exact hn.2.2 t ht t (by simp) rfl
end
section
open Go Go.RowKit Go.ChangeMaps Go.MapKept
open Go.Maps (Keyed)
def MapV (w:World) (P:Program) (k:TypeId) (b:Nat) (T:List (Value × Value)):Prop:=
 ∃es clock,w.heap[b]?=some (.map es clock)∧Stamped es clock∧(∀e∈es.toList,∃l,keyOf P k e.key=some l)∧es.toList.map (fun e=>(e.key,e.val))=T
def RngV (w:World) (P:Program) (k:TypeId) (b r:Nat) (T rem:List (Value × Value)):Prop:=
 ∃es clock since seen c0,w.heap[b]?=some (.map es clock)∧Stamped es clock∧(∀e∈es.toList,∃l,keyOf P k e.key=some l)∧es.toList.map (fun e=>(e.key,e.val))=T∧
  w.heap[r]?=some (.mapIter (some b) since seen c0)∧(∀x∈es.toList,x.born<since)∧since≤c0∧since≤clock∧((leftOf es seen).toList.map (fun e=>(e.key,e.val))).Perm rem
variable {P:Program} {k:TypeId} {w:World} {b r:Nat} {T rem:List (Value × Value)}
theorem MapV.lt (h:MapV w P k b T):b<w.heap.size:=by
 obtain⟨es,clock,hb,_⟩:=h
 exact(Array.getElem?_eq_some_iff.1 hb).1
theorem MapV.same {w':World} (h:MapV w P k b T) (he:w'.heap[b]?=w.heap[b]?):MapV w' P k b T:=by
 obtain⟨es,clock,hb,h2⟩:=h
 exact⟨es,clock,he.trans hb,h2⟩
theorem MapV.kept {w':World} {row:Option Nat} (h:MapV w P k b T) (hg:w.grownBy w' row) (hne:some b≠row):MapV w' P k b T:=h.same (hg.block b h.lt hne)
theorem MapV.below {w':World} {B:Nat} (h:MapV w P k b T) (hb:Below B w w') (hlt:b<B):MapV w' P k b T:=h.same (hb.block b hlt)
theorem MapV.made (w:World) (P:Program) (k:TypeId):MapV (w.alloc (.map #[] 0)) P k w.heap.size []:=
 ⟨#[],0,(MapKept.heap_alloc w _).1,stamped_empty 0,by simp,rfl⟩
theorem RngV.lt (h:RngV w P k b r T rem):r<w.heap.size:=by
 obtain⟨es,clock,since,seen,c0,_,_,_,_,hr,_⟩:=h
 exact(Array.getElem?_eq_some_iff.1 hr).1
theorem RngV.map (h:RngV w P k b r T rem):MapV w P k b T:=by
 obtain⟨es,clock,since,seen,c0,hb,h1,h2,h3,_⟩:=h
 exact⟨es,clock,hb,h1,h2,h3⟩
theorem RngV.same {w':World} (h:RngV w P k b r T rem) (he:w'.heap[b]?=w.heap[b]?) (he2:w'.heap[r]?=w.heap[r]?):RngV w' P k b r T rem:=by
 obtain⟨es,clock,since,seen,c0,hb,h1,h2,h3,hr,h4⟩:=h
 exact⟨es,clock,since,seen,c0,he.trans hb,h1,h2,h3,he2.trans hr,h4⟩
theorem RngV.below {w':World} {B:Nat} (h:RngV w P k b r T rem) (hb:Below B w w') (hlt:b<B) (hlt2:r<B):RngV w' P k b r T rem:=h.same (hb.block b hlt) (hb.block r hlt2)
theorem MapV.update {t e:TypeId} (h:MapV w P k b T) (K:Keyed P k) (ht:P.underlying t=some (.map k e)) (hroom:T.length<maxLen) {key val:Value} {kl:Lit} (hkey:keyOf P k key=some kl) (hnew:∀p∈T,p.1≠key):
  ∃w',(Instr.mapUpdate t (.map (some b)) key val).run P w=.ok () w'∧MapV w' P k b (T++[(key,val)])∧w.grownBy w' (some b)∧w'.heap.size=w.heap.size:=by
 obtain⟨es,clock,hb,hst,hk,rfl⟩:=h
 have hroom':es.size<maxLen:=by simpa using hroom
 rcases K.find w hkey es.toList hk with⟨h1,h2⟩|⟨j,e0,h1,h2,h3⟩
 ·refine⟨setBlock w b (.map (es.push ⟨key,val,clock⟩) (clock+1)),?_,⟨es.push ⟨key,val,clock⟩,clock+1,heap_setBlock_same hb _,stamped_push hst h2,?_,by simp⟩,⟨rfl,rfl,rfl,by simp[setBlock],fun i _ hi=>heap_setBlock_other hb _ (fun e=>hi (by rw[e]))⟩,by simp[setBlock]⟩
  ·simp[Instr.mapUpdate,run_underlying ht,MapKept.run_getObj_map hb,K.check w false hkey,h1,MapKept.run_setObj_map _ hb,Result.andThen,setBlock]
  ·intro x hx
   simp only[Array.toList_push,List.mem_append,List.mem_singleton] at hx
   rcases hx with hx|rfl
   ·exact hk x hx
   ·exact⟨kl,hkey⟩
 ·exact absurd h3 (hnew (e0.key,e0.val) (List.mem_map.2 ⟨e0,List.mem_of_getElem? h2,rfl⟩))
theorem MapV.range {t e:TypeId} (h:MapV w P k b T) (ht:P.underlying t=some (.map k e)):
  (Instr.range t (.map (some b))).run P w=.ok (.pointer (some ⟨w.heap.size,0,none⟩)) (w.alloc (.mapIter (some b) ((match w.heap[b]? with|some (.map _ c)=>c|_=>0)) #[] ((match w.heap[b]? with|some (.map _ c)=>c|_=>0))))∧
  RngV (w.alloc (.mapIter (some b) ((match w.heap[b]? with|some (.map _ c)=>c|_=>0)) #[] ((match w.heap[b]? with|some (.map _ c)=>c|_=>0)))) P k b w.heap.size T T:=by
 have hlt:=h.lt
 obtain⟨es,clock,hb,hst,hk,rfl⟩:=h
 simp only[hb]
 refine⟨run_range_map w t k e b es clock ht hb,es,clock,clock,#[],clock,((MapKept.heap_alloc w _).2 b hlt).trans hb,hst,hk,rfl,(MapKept.heap_alloc w _).1,hst.1,Nat.le_refl _,Nat.le_refl _,?_⟩
 have:leftOf es #[]=es:=Array.filter_eq_self.2 (fun x _=>by simp)
 rw[this]
theorem Zei {ops:Array Oper} {rest:List Oper} {o:Oper} {a:Act} {Q:Exit→Act→World→Prop} (hg:o.guard=none) (m:Operand) (t:TypeId) (hop:o.op=Op.range t m) (k e:TypeId) (ht:P.underlying t=some (.map k e)) (b:Nat) (T:List (Value × Value))
  (hm:a.eval m=.map (some b)) (hown:MapV w P k b T)
  (hK:∀o',RngV (w.alloc o') P k b w.heap.size T T→wpList P ops Q rest (a.put o.dst (.pointer (some ⟨w.heap.size,0,none⟩))) (w.alloc o')):
  wpList P ops Q (o::rest) a w:=by
 refine wpList_plain hg fun K' hK'=>?_
 obtain⟨hrun,r1⟩:=hown.range ht
 unfold Oper.wp
 simp only[execOp,hop,hm,hrun,Result.andThen,Sem.run_bind,Sem.run_pure]
 exact hK' _ _ (hK _ r1)
theorem Z2z (es:Array MapEntry) (seen:Array Nat) (e:MapEntry) (hn:(es.toList.map (·.born)).Nodup) (he:e∈(leftOf es seen).toList):
  ((leftOf es seen).toList.map (fun e=>(e.key,e.val))).Perm ((e.key,e.val)::(leftOf es (seen.push e.born)).toList.map (fun e=>(e.key,e.val))):=by
 have h1:(leftOf es (seen.push e.born)).toList=(leftOf es seen).toList.filter fun x=>x.born != e.born:=by
  simp only[leftOf,Array.toList_filter,List.filter_filter]
  apply List.filter_congr
  intro x _
  rw[contains_push]
  cases hx:(x.born==e.born)<;>simp[bne,hx]
 have hn2:(((leftOf es seen).toList).map (·.born)).Nodup:=by
  simp only[leftOf,Array.toList_filter]
  exact(List.Sublist.map _ List.filter_sublist).nodup hn
 rw[h1]
 generalize (leftOf es seen).toList=L at he hn2
 clear h1 hn
 induction L with
 |nil=>simp at he
 |cons a L ih=>
  simp only[List.map_cons,List.nodup_cons] at hn2
  rcases List.mem_cons.1 he with rfl|he
  ·have:L.filter (fun x=>x.born != e.born)=L:=List.filter_eq_self.2 fun x hx=>by
    have:x.born≠e.born:=fun h=>hn2.1 (List.mem_map.2 ⟨x,hx,h⟩)
    simpa using this
   simp[this]
  ·have hne:(a.born != e.born)=true:=by
    have:a.born≠e.born:=fun h=>hn2.1 (List.mem_map.2 ⟨e,he,h.symm⟩)
    simpa using this
   have:(a::L).filter (fun x=>x.born != e.born)=a::L.filter (fun x=>x.born != e.born):=List.filter_cons_of_pos hne
   rw[this]
   simp only[List.map_cons]
   exact((ih he hn2.2).cons _).trans (List.Perm.swap _ _ _)
theorem RngV.next (h:RngV w P k b r T rem) (hne:r≠b) (ty:TypeId):
  (rem=[]∧(Instr.next (.pointer (some ⟨r,0,none⟩)) false ty).run P w=.ok (.tuple #[.bool false]) w) ∨
  ∃key v rem' w',rem.Perm ((key,v)::rem')∧(Instr.next (.pointer (some ⟨r,0,none⟩)) false ty).run P w=.ok (.tuple #[.bool true,key,v]) w'∧
   RngV w' P k b r T rem'∧w.grownBy w' (some r)∧w'.heap.size=w.heap.size∧(Instr.entry (.pointer (some ⟨r,0,none⟩))).run P w'=.ok (.tuple #[key,v]) w':=by
 obtain⟨es,clock,since,seen,c0,hb,hst,hk,hT,hr,hold,hsc,hsk,hrem⟩:=h
 have hst2:=(stamped_iff es clock).1 hst
 rcases run_next_at (P:=P) w ty r b since c0 seen es clock hr hb hold hsc with⟨h0,hrun⟩|⟨e,he,w1,hal,hrun⟩
 ·refine .inl ⟨?_,hrun⟩
  have:leftOf es seen=#[]:=Array.eq_empty_of_size_eq_zero h0
  rw[this] at hrem
  exact List.nil_perm.1 hrem
 ·obtain⟨hem,hes⟩:=mem_left he
  have hr1:w1.heap[r]?=some (.mapIter (some b) since seen c0):=by rcases hal with rfl|rfl<;>exact hr
  have hb1:w1.heap[b]?=some (.map es clock):=by rcases hal with rfl|rfl<;>exact hb
  have hset:=heap_set (o':=.mapIter (some b) since (seen.push e.born) clock) hr1
  have hb':(setBlock w1 r (.mapIter (some b) since (seen.push e.born) clock)).heap[b]?=some (.map es clock):=(hset.2 b (fun e1=>hne e1.symm)).trans hb1
  refine .inr ⟨e.key,e.val,_,_,?_,hrun,⟨es,clock,since,seen.push e.born,clock,hb',hst,hk,hT,hset.1,hold,hsk,hsk,.refl _⟩,?_,?_,run_entry_at _ r b since seen es clock e hset.1 hb' hem hst2.2.1⟩
  ·refine hrem.symm.trans ?_
   exact Z2z es seen e hst2.2.1 he
  ·rcases hal with rfl|rfl<;>exact⟨rfl,rfl,rfl,by simp[setBlock],fun i _ hi=>hset.2 i (fun e1=>hi (by rw[e1]))⟩
  ·rcases hal with rfl|rfl<;>simp[setBlock]
theorem RngV.ne (h:RngV w P k b r T rem):r≠b:=by
 obtain⟨es,clock,since,seen,c0,hb,_,_,_,hr,_⟩:=h
 intro e
 rw[e,hb] at hr
 cases hr
theorem RngV.perm {rem':List (Value × Value)} (h:RngV w P k b r T rem) (hp:rem.Perm rem'):RngV w P k b r T rem':=by
 obtain⟨es,clock,since,seen,c0,hb,h1,h2,h3,hr,h4,h5,h6,h7⟩:=h
 exact⟨es,clock,since,seen,c0,hb,h1,h2,h3,hr,h4,h5,h6,h7.trans hp⟩
theorem RngV.left_eq (h:RngV w P k b r T rem):w.rangeLeft b r=rem.length:=by
 obtain⟨es,clock,since,seen,c0,hb,_,_,_,hr,_,_,_,h7⟩:=h
 simp only[World.rangeLeft,hb,hr]
 have:=h7.length_eq
 simpa using this
theorem Zex {α:Type} {ops:Array Oper} {rest:List Oper} {o:Oper} {a:Act} {Q:Exit→Act→World→Prop} (hg:o.guard=none) (it:Operand) (hop:o.op=Op.next it false) (k:TypeId) (mkK mkV:α→Value) (b r:Nat) (T:List (Value × Value)) (rem:List α)
  (hit:a.eval it=.pointer (some ⟨r,0,none⟩)) (h:RngV w P k b r T (rem.map fun x=>(mkK x,mkV x)))
  (hDone:rem=[]→wpList P ops Q rest (a.put o.dst (.tuple #[.bool false])) w)
  (hMore:∀(x:α) (rem':List α) (w':World),rem.Perm (x::rem')→RngV w' P k b r T (rem'.map fun x=>(mkK x,mkV x))→w.grownBy w' (some r)→w'.heap.size=w.heap.size→
   (Instr.entry (.pointer (some ⟨r,0,none⟩))).run P w'=.ok (.tuple #[mkK x,mkV x]) w'→wpList P ops Q rest (a.put o.dst (.tuple #[.bool true,mkK x,mkV x])) w'):
  wpList P ops Q (o::rest) a w:=by
 refine wpList_plain hg fun K' hK'=>?_
 unfold Oper.wp
 rcases h.next h.ne o.type with⟨h0,hrun⟩|⟨key,v,rem',w',hp,hrun,hrg,hgr,hsz,hen⟩
 ·simp only[execOp,hop,hit,hrun,Result.andThen,Sem.run_bind,Sem.run_pure]
  exact hK' _ _ (hDone (by simpa using h0))
 ·obtain⟨x,hx,e⟩:=List.mem_map.1 (hp.mem_iff.2 (List.mem_cons_self (a:=(key,v))))
  have e1:mkK x=key:=congrArg Prod.fst e
  have e2:mkV x=v:=congrArg Prod.snd e
  subst e1
  subst e2
  obtain⟨s,t,rfl⟩:=List.append_of_mem hx
  have hp2:(s++x::t).Perm (x::(s++t)):=List.perm_middle
  have hp3:=((hp2.map fun x=>(mkK x,mkV x)).symm.trans hp)
  simp only[List.map_cons] at hp3
  have hp4:=hp3.cons_inv
  simp only[execOp,hop,hit,hrun,Result.andThen,Sem.run_bind,Sem.run_pure]
  exact hK' _ _ (hMore x (s++t) w' hp2 (hrg.perm hp4.symm) hgr hsz hen)
end
section
open Go Go.RowKit
theorem Zjf:WideMaps.ArrKey Tryz.prog 183 3 5:=⟨by kernel_rfl,by kernel_rfl,by kernel_rfl,by kernel_rfl⟩
theorem Z35:Maps.Keyed Tryz.prog 183:=Maps.Keyed.of_law Zjf.law
theorem Zq3:Tryz.prog.underlying 124=some (.map 183 188):=by kernel_rfl
def okI (x:Int):Prop:=(Lit.int .i64 x).wf=true
theorem Zxh {x:Int} (h1:-9223372036854775808≤x) (h2:x≤9223372036854775807):okI x:=by
 unfold okI Lit.wf
 have e1:IntKind.min .i64=-9223372036854775808:=by decide
 have e2:IntKind.max .i64=9223372036854775807:=by decide
 simp only[e1,e2,Bool.and_eq_true,decide_eq_true_eq]
 exact⟨h1,h2⟩
theorem Z9l (a b c d e:Int) (ha:okI a) (hb:okI b) (hc:okI c) (hd:okI d) (he:okI e):∃l,keyOf Tryz.prog 183 (.agg #[.int .i64 a,.int .i64 b,.int .i64 c,.int .i64 d,.int .i64 e])=some l:=by
 have h1:Tryz.prog.underlying 183=some (.array 5 3):=Zjf.hu
 have h2:Tryz.prog.keyType 183=true:=by kernel_rfl
 have h3:Value.formed Tryz.prog 183 (.agg #[.int .i64 a,.int .i64 b,.int .i64 c,.int .i64 d,.int .i64 e])=true:=by kernel_rfl
 have h4:Tryz.prog.underlying 3=some (.int .i64):=by kernel_rfl
 have h5:Tryz.prog.cellsOf 3=1:=Zjf.one
 have h6:Tryz.prog.cellsOf 183=5:=Zjf.size
 obtain⟨N,h7⟩:∃N,Tryz.prog.types.size+1=N+1+1:=⟨Tryz.prog.types.size-1,by have h:1≤Tryz.prog.types.size:=Nat.le_of_ble_eq_true (by kernel_rfl);omega⟩
 unfold okI at ha hb hc hd he
 have e1:∀x:Int,(Lit.int .i64 x).wf=true→Tryz.prog.keyLits (N+1) 3 [.int .i64 x]=some [.int .i64 x]:=fun x hx=>by
  unfold Program.keyLits
  simp only[h4,hx,and_self,if_true]
 have e2:Tryz.prog.keyLits (N+1+1) 183 [.int .i64 a,.int .i64 b,.int .i64 c,.int .i64 d,.int .i64 e]=some [.int .i64 a,.int .i64 b,.int .i64 c,.int .i64 d,.int .i64 e]:=by
  unfold Program.keyLits
  simp only[h1,h5,h6,List.length_cons,List.length_nil,if_true]
  rw[show List.range 5=[0,1,2,3,4] from rfl]
  simp only[List.mapM_cons,List.mapM_nil,Nat.zero_mul,Nat.one_mul,Nat.mul_one,List.drop_zero,List.drop_succ_cons,List.take_succ_cons,List.take_zero,e1 a ha,e1 b hb,e1 c hc,e1 d hd,e1 e he]
  rfl
 unfold keyOf
 rw[h1]
 simp only[h2,h7,Bool.true_and,h3,if_true]
 exact⟨_,by rw[show(Value.agg #[.int .i64 a,.int .i64 b,.int .i64 c,.int .i64 d,.int .i64 e]).cells.toList=[.int .i64 a,.int .i64 b,.int .i64 c,.int .i64 d,.int .i64 e] from rfl,e2];rfl⟩
end
end Go.Proofs.YtklconegomgjaaaGreat
