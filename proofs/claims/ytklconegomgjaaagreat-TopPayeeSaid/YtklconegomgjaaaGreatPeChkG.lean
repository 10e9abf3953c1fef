/- What is proved here: fair of layer 3, as an iterator. Conditions: the town is looked at. -/
import Derived.Test.YtklconegomgjaaaGreatPeTru
import Derived.Test.YtklconegomgjaaaGreatPeTiedG
import Derived.Test.YtklconegomgjaaaGreatBeyondG
import Derived.Test.YtklconegomgjaaaGreatPnBaseG
import Derived.Test.YtklconegomgjaaaGreatEaCanG
set_option linter.all false
set_option maxRecDepth 100000
set_option maxHeartbeats 16000000
namespace Go.Proofs.YtklconegomgjaaaGreat
section
open Go Go.RowKit Go.Shelf
attribute [local go_sem] Oper.semAt_some
theorem Zeb (W:World) (B b:Nat) (o:Obj) (h:B≤b):Below B W (W.putObj b o):=⟨rfl,rfl,rfl,by simp[World.putObj],fun i hi=>World.putObj_heap_other (by omega)⟩
def Zjd (t:PeW) (but:Nat) (pre:List (List Int × Nat)):List Int:=((pre.filter (Zfh t but)).getLast?.map Prod.fst).getD []
theorem Z2c {t:PeW} {but:Nat} {pre:List (List Int × Nat)} {x:List Int × Nat} (h:Zfh t but x=true):Zjd t but (pre++[x])=x.1:=by
 unfold Zjd
 rw[List.filter_append,List.filter_cons_of_pos h]
 simp
theorem Z5c {t:PeW} {but:Nat} {pre:List (List Int × Nat)} {x:List Int × Nat} (h:Zfh t but x=false):Zjd t but (pre++[x])=Zjd t but pre:=by
 unfold Zjd
 rw[List.filter_append,List.filter_cons_of_neg (by rw[h];decide)]
 simp
theorem Z7n {t:PeW} {but:Nat} {pre:List (List Int × Nat)} {x:List Int × Nat} (h:Zfh t but x=true):(pre++[x]).filter (Zfh t but)=pre.filter (Zfh t but)++[x]:=by
 rw[List.filter_append,List.filter_cons_of_pos h]
 rfl
theorem Z9f {t:PeW} {but:Nat} {pre:List (List Int × Nat)} {x:List Int × Nat} (h:Zfh t but x=false):(pre++[x]).filter (Zfh t but)=pre.filter (Zfh t but):=by
 rw[List.filter_append,List.filter_cons_of_neg (by rw[h];decide)]
 simp
theorem Zpg (t:PeW) (but:Nat) (pre:List (List Int × Nat)):Zjd t but pre=[]∨∃y∈pre,Zjd t but pre=y.1:=by
 unfold Zjd
 cases h:(pre.filter (Zfh t but)).getLast? with
 |none=>exact .inl rfl
 |some y=>exact .inr ⟨y,(List.mem_filter.1 (List.mem_of_getLast? h)).1,rfl⟩
theorem Zuk {t:PeW} {x:List Int × Nat} (h:TruOk t x):Zqi x.1 x.2:=by
 refine⟨by rw[h.len];exact h.many,fun y hy=>?_⟩
 obtain⟨i,hi,rfl⟩:=List.getElem_of_mem hy
 have:=h.at_ i
 unfold pAt at this
 rw[List.getElem?_eq_getElem hi,Option.getD_some] at this
 exact⟨this.1,this.2 (by rw[←h.len];exact hi)⟩
theorem Z81 {t:PeW} (hv:PeOk t) {but:Nat} {pre:List (List Int × Nat)} (h:pre <+: Zb7 t):PsOk (padP (Zjd t but pre)):=by
 rcases Zpg t but pre with e|⟨y,hy,e⟩
 ·rw[e]
  exact⟨rfl,fun x hx=>by simp[padP] at hx;omega⟩
 ·have hy1:=Zfc (h.subset hy)
  have:=hv.nm
  rw[e]
  exact(Zuk hy1).ps (by rw[hy1.len];omega)
theorem Z8t {t:PeW} {but:Nat} {pre:List (List Int × Nat)} {x:List Int × Nat} (h:pre++[x] <+: Zb7 t) (e:padP x.1=padP (Zjd t but pre)):x.2≤1:=by
 have he:∀i,pAt x.1 i=pAt (Zjd t but pre) i:=fun i=>by rw[←Zdq,e,Zdq]
 rcases Zpg t but pre with g|⟨y,hy,g⟩
 ·exact(Zfc (h.subset (by simp))).zero fun i=>by rw[he,g];rfl
 ·rw[g] at he
  exact absurd he (Zsu h hy)
theorem Z8k {t:PeW} {but:Nat} {pre:List (List Int × Nat)} (h:pre <+: Zb7 t):pre.filter (Zfh t but) <+: Za6 t but:=by
 obtain⟨r,hr⟩:=h
 unfold Za6
 rw[←hr,List.filter_append]
 exact List.prefix_append _ _
def Zme (W:World) (b:Nat) (L:List Int):World:=(((((W.setCell ⟨b,0,none⟩ (.int .i64 (pAt L 0))).setCell ⟨b,1,none⟩ (.int .i64 (pAt L 1))).setCell ⟨b,2,none⟩ (.int .i64 (pAt L 2))).setCell ⟨b,3,none⟩ (.int .i64 (pAt L 3))).setCell ⟨b,4,none⟩ (.int .i64 (pAt L 4))).setCell ⟨b,5,none⟩ (.int .i64 (pAt L 5))
theorem Z4c {W:World} {b:Nat} {L L2:List Int} {t:TypeId} (h:W.heap[b]?=some (.cells (Zat L2) t (0,0))):(Zme W b L).heap[b]?=some (.cells (Zat L) t (0,0)):=by
 have h6:=Zak 5 (.int .i64 (pAt L 5)) (Zak 4 (.int .i64 (pAt L 4)) (Zak 3 (.int .i64 (pAt L 3)) (Zak 2 (.int .i64 (pAt L 2)) (Zak 1 (.int .i64 (pAt L 1)) (Zak 0 (.int .i64 (pAt L 0)) h)))))
 unfold Zme
 rw[h6]
 simp only[Zat,List.setIfInBounds_toArray,List.set_cons_zero,List.set_cons_succ]
theorem Zul {B b:Nat} {w W:World} {L:List Int} (h:Below B w W) (hb:B≤b):Below B w (Zme W b L):=
 (((((h.setCell hb _).setCell hb _).setCell hb _).setCell hb _).setCell hb _).setCell hb _
theorem Zji {W:World} {b k:Nat} {L:List Int} (h:k≠b):(Zme W b L).heap[k]?=W.heap[k]?:=by
 unfold Zme
 rw[Zae h,Zae h,Zae h,Zae h,Zae h,Zae h]
theorem Zue {B b:Nat} {W:World} {L:List Int} (hb:b<B):Above B W (Zme W b L):=by
 have one:∀(V:World) (j:Nat) (v:Value),Above B V (V.setCell ⟨b,j,none⟩ v):=fun V j v=>⟨rfl,rfl,rfl,by simp,fun i hi _=>Below.heap_setCell _ _ _ _ (fun e=>by simp only at e;omega)⟩
 unfold Zme
 exact(((((one _ _ _).trans (one _ _ _)).trans (one _ _ _)).trans (one _ _ _)).trans (one _ _ _)).trans (one _ _ _)
theorem Z2w {T t:TypeId} {B b:Nat} {W:World} {L L2:List Int} (h:W.heap[b]?=some (.cells (Zat L2) t (0,0))) (ht:t≠T) (hb:B≤b):Bel T B W (Zme W b L):=
 ⟨Zul (Below.refl _ _) hb,fun k ds y hk=>by
  by_cases e:k=b
  ·subst e;rw[h] at hk;cases hk;exact absurd rfl ht
  ·exact(Zji e).trans hk⟩
attribute [irreducible] Zme
structure FaiO (A:World) (yb bt l:Nat) (q:List Int):Prop where
 y:A.heap[yb]?=some (.cells #[.func (.yield l) #[] #[]] 172 (0,0))
 p:A.heap[yb+1]?=some (.cells (Zat q) 109 (0,0))
 c:A.heap[yb+1+1]?=some (.cells #[.pointer (some ⟨bt,0,none⟩)] 100 (0,0))
theorem FaiO.above {A A':World} {yb bt l B:Nat} {q:List Int} (h:FaiO A yb bt l q) (hb:Above B A A') (hB:B≤yb):FaiO A' yb bt l q:=⟨(hb.block _ hB (lt_of_block h.y)).trans h.y,(hb.block _ (by omega) (lt_of_block h.p)).trans h.p,(hb.block _ (by omega) (lt_of_block h.c)).trans h.c⟩
theorem FaiO.below {A A':World} {yb bt l:Nat} {q:List Int} (h:FaiO A yb bt l q) (hb:Below (yb+1+1+1) A A'):FaiO A' yb bt l q:=⟨(hb.block _ (by omega)).trans h.y,(hb.block _ (by omega)).trans h.p,(hb.block _ (by omega)).trans h.c⟩
theorem FaiO.lrn {A A':World} {yb bt l bt' bc bk:Nat} {q:List Int} {a1 a2 a3 a4:Option Addr} {k1 k2 k3 k4:Nat} {t:PeW} {but:Nat} (h:FaiO A yb bt l q) (k:TownW A bt' bc bk a1 a2 a3 a4 k1 k2 k3 k4 t but) (hb:Lrn bc bk A A'):FaiO A' yb bt l q:=⟨hb.cellsB k h.y,hb.cellsB k h.p,hb.cellsB k h.c⟩
theorem FaiO.set {A:World} {yb bt l:Nat} {q:List Int} (h:FaiO A yb bt l q) (r:List Int):FaiO (Zme A (yb+1) r) yb bt l r:=⟨(Zji (by omega)).trans h.y,Z4c h.p,(Zji (by omega)).trans h.c⟩
theorem Zza (a1 a2 a3 a4:Option Addr) (k1 k2 k3 k4:Nat) (t:PeW) (bt bc bk but p1 l0 B:Nat) (J Jx:List (List Int × Nat)→World→Prop) (W:World) (hv:PeOk t) (hbut:but<16) (hB:B≤W.heap.size) (hR:∀A A',(Lrn bc bk A A'∧TownW A' bt bc bk a1 a2 a3 a4 k1 k2 k3 k4 t but)→Above B A A') (hJ:∀s A A',J s A→Bel 3 W.heap.size A A'→J s A') (hJx:∀s A A',Jx s A→Bel 3 W.heap.size A A'→Jx s A') (hJR:∀s A A',J s A→Lrn bc bk A A'∧TownW A' bt bc bk a1 a2 a3 a4 k1 k2 k3 k4 t but→J s A') (hJZ:∀s A,J s A→TruZ A p1 bt bc bk a1 a2 a3 a4 k1 k2 k3 k4 t but)
  (hY:∀pre x W1,J pre W1→pre++[x] <+: Za6 t but→YieldAt Fence.wide 0 Tryz.prog l0 (encP x) W1 fun e W'=>(e=.returned (.bool true)∧J (pre++[x]) W'∧Above B W1 W')∨(e=.returned (.bool false)∧Jx (pre++[x]) W'∧Above W.heap.size W1 W')) (hj:J [] W):
  Calls Tryz.prog 93 #[.func (.yield l0) #[] #[],.pointer (some ⟨p1,0,none⟩)] W fun e W'=>(∃v,e=.returned v)∧(J (Za6 t but) W'∨∃s,Jx s W'):=by
 have TR:=LH (fun V:World=>Zus bt V)
 have hSE:=Zv0 a1 a2 a3 a4 k1 k2 k3 k4 t bt bc bk but (W.heap.size+1+1) hv
 have NA:=LH (fun(q:List Int) (hq:PsOk (padP q)) (V:World) (h:TownW V bt bc bk a1 a2 a3 a4 k1 k2 k3 k4 t but)=>(show Calls Tryz.prog 95 #[.pointer (some ⟨bt,0,none⟩),psV q] V fun e w'=>e=.returned (.bool (Zev t q))∧Lrn bc bk V w'∧TownW w' bt bc bk a1 a2 a3 a4 k1 k2 k3 k4 t but from by
  have:=Zzf a1 a2 a3 a4 k1 k2 k3 k4 t bt bc bk but (padP q) V h hv hq
  rw[Zk7 (Zdq q),Zx0 (Zdq q)] at this
  exact this))
 have TI:=LH (fun(q:List Int) (hq:PsOk (padP q)) (V:World) (h:TownW V bt bc bk a1 a2 a3 a4 k1 k2 k3 k4 t but)=>(show Calls Tryz.prog 96 #[.pointer (some ⟨bt,0,none⟩),psV q] V fun e w'=>e=.returned (.bool (Zhk t but q))∧Below V.heap.size V w' from by
  have:=Z1i a1 a2 a3 a4 k1 k2 k3 k4 t bt bc bk but (padP q) V h hv hbut hq
  rw[Zk7 (Zdq q),Z05 but (Zdq q)] at this
  exact this))
 have hz:=hJZ _ _ hj
 have hlo1:=hz.tw.bc_lt
 have hlo2:=hz.tw.bk_lt
 have p0:=Zaa 0 hz.c rfl
 have pz:=lt_of_block hz.c
 simp only[List.getElem_toArray,List.getElem_cons_zero] at p0
 have HJR:=LH hJR
 have HJ:=LH hJ
 have HJX:=LH hJx
 have HJZ:=LH hJZ
 have HY:=LH hY
 have HR:=LH hR
 have HJ0:=LH hj
 have HV:=LH hv
 clear hJR hJ hJZ hY hj hz hJx hR hv
 refine(callsIn_wide (n:=0)).1 ?_
 refine callsIn_of_wp_marks Tryz.func93 rfl trivial ?_ rfl
 simp only[Tryz.ntmps93,List.size_toArray,List.length_cons,List.length_nil,Nat.reduceAdd,Nat.reduceSub,Array.replicate_succ,Array.replicate_zero,List.push_toArray,List.append_toArray,List.nil_append,List.cons_append]
 refine(wpIn_wide (n:=0)).2 ?_
 go_wp2_with (go_at_call 94;go_must ((with_reducible refine(TR.out _).mono ?_);rintro e w3 ⟨rfl,rfl⟩;dsimp only))
 obtain⟨X,hX⟩:∃X:World,X=((W.alloc (.cells #[.func (.yield l0) #[] #[]] 172)).alloc (.cells #[.int .i64 0,.int .i64 0,.int .i64 0,.int .i64 0,.int .i64 0,.int .i64 0] 109)).alloc (.cells #[.pointer (some ⟨bt,0,none⟩)] 100):=⟨_,rfl⟩
 have hsz:X.heap.size=W.heap.size+1+1+1:=by rw[hX];simp
 have hb0:Below W.heap.size W X:=by rw[hX];exact(((Below.refl _ W).alloc (Nat.le_refl _) _).alloc (by simp) _).alloc (by simp;omega) _
 have hO0:FaiO X W.heap.size bt l0 []:=by
  rw[hX]
  exact⟨(heap_alloc_old _ _ (by simp;omega)).trans ((heap_alloc_old _ _ (by simp)).trans (Zac _ _ rfl)),(heap_alloc_old _ _ (by simp)).trans (Zac _ _ (by simp)),Zac _ _ (by simp)⟩
 have hrc:((W.alloc (.cells #[.func (.yield l0) #[] #[]] 172)).alloc (.cells #[.int .i64 0,.int .i64 0,.int .i64 0,.int .i64 0,.int .i64 0,.int .i64 0] 109)).heap.size=W.heap.size+1+1:=by simp
 rw[←hX,hrc]
 have hj0:=HJ.out _ _ _ HJ0.out (Bel.grow hb0 (Nat.le_refl _))
 clear hX hrc
 refine(wpIn_wide (n:=0)).1 ?_
 refine Zbw (gf:=141) (lb:=#[.pointer (some ⟨W.heap.size+1+1,0,none⟩)]) (by go_simp) (enters_of Tryz.func141 (by kernel_rfl) rfl) hSE (Nat.le_refl X.heap.size)
  (fun A A' h=>h.1.above (by omega) (by omega)) (fun _=>rfl)
  (fun pre A=>J (pre.filter (Zfh t but)) A∧FaiO A W.heap.size bt l0 (Zjd t but pre))
  (fun c _ A=>c=.ret∧∃s,Jx s A)
  (fun s A A' h hb=>⟨HJ.out _ _ _ h.1 (hb.mono (by omega)),h.2.below (hb.below.mono (by omega))⟩)
  (fun c s A A' h hb=>⟨h.1,h.2.elim fun s h=>⟨s,HJX.out _ _ _ h (hb.mono (by omega))⟩⟩)
  (fun s A A' h hR=>⟨HJR.out _ _ _ h.1 hR,h.2.lrn (HJZ.out _ _ h.1).tw hR.1⟩)
  (fun s A h=>⟨(HJZ.out _ _ h.1).tw,h.2.c⟩)
  ⟨hj0,hO0⟩ ?round ?done ?stop
 case round=>
  intro l pre x V hl1 hl2 hI hpre
  have hxo:=Zfc (hpre.subset (by simp:x∈pre++[x]))
  have hxq:PsOk (padP x.1):=(Zuk hxo).ps (by have:=HV.out.nm;rw[hxo.len];omega)
  have hlq:PsOk (padP (Zjd t but pre)):=Z81 HV.out ((List.prefix_append _ _).trans hpre)
  have hxv:x.1.length≤6:=by have:=HV.out.nm;rw[hxo.len];omega
  have hq:=fun V=>Z9z hxq hlq V
  rw[Zk7 (Zdq x.1),Zk7 (Zdq (Zjd t but pre))] at hq
  have HLE:=LH (fun e=>Z8t (but:=but) hpre e)
  have NX:=LH (NA.out x.1 hxq)
  have TX:=LH (TI.out x.1 hxq)
  have HLY:=LH (fun h=>Z2c (t:=t) (but:=but) (pre:=pre) (x:=x) h)
  have HLN:=LH (fun h=>Z5c (t:=t) (but:=but) (pre:=pre) (x:=x) h)
  have HFY:=LH (fun h=>Z7n (t:=t) (but:=but) (pre:=pre) (x:=x) h)
  have HFN:=LH (fun h=>Z9f (t:=t) (but:=but) (pre:=pre) (x:=x) h)
  have HFP:=LH (Z8k (but:=but) hpre)
  have HB:Hid (Zfh t but x=(Zev t x.1&&Zhk t but x.1)):=LH rfl
  have hx2:(x.2:Int)≤6:=by have:=HV.out.nm;have:=hxo.many;omega
  clear hpre hxo hxq hlq hxv
  obtain⟨xp,xm⟩:=x
  simp only at hq HLE NX TX HLY HLN HFY HFN HFP HB hx2
  generalize Zjd t but pre=lp at *
  simp only[encP,psV]
  gi_wp2
  have hbV:Below V.heap.size V (V.alloc (.cells #[.int .i64 (pAt xp 0),.int .i64 (pAt xp 1),.int .i64 (pAt xp 2),.int .i64 (pAt xp 3),.int .i64 (pAt xp 4),.int .i64 (pAt xp 5)] 109)):=(Below.refl _ _).alloc (Nat.le_refl _) _
  refine⟨Above.of_below hbV,⟨HJ.out _ _ _ hI.1 (Bel.grow hbV (by omega)),hI.2.below (hbV.mono (by omega))⟩,?_⟩
  intro Wb hs2 hblk hIb
  obtain⟨hj1,hO1⟩:=hIb
  have hP1:Wb.heap[V.heap.size]?=some (.cells (Zat xp) 109 (0,0)):=(hblk _ (by omega)).trans (Zac _ _ rfl)
  have hz1:Wb.heap.size=V.heap.size+1:=by rw[hs2];simp
  clear hI hblk hs2 hbV
  have hz:=HJZ.out _ _ hj1
  have NW:=LH (NX.out Wb hz.tw)
  have HTW:=LH hz.tw
  have c0:=Zaa 0 hP1 rfl
  have c1:=Zaa 1 hP1 rfl
  have c2:=Zaa 2 hP1 rfl
  have c3:=Zaa 3 hP1 rfl
  have c4:=Zaa 4 hP1 rfl
  have c5:=Zaa 5 hP1 rfl
  have cz:=lt_of_block hP1
  have d0:=Zaa 0 hO1.p rfl
  have d1:=Zaa 1 hO1.p rfl
  have d2:=Zaa 2 hO1.p rfl
  have d3:=Zaa 3 hO1.p rfl
  have d4:=Zaa 4 hO1.p rfl
  have d5:=Zaa 5 hO1.p rfl
  have dz:=lt_of_block hO1.p
  have p0:=Zaa 0 hz.c rfl
  have pz:=lt_of_block hz.c
  simp only[Zat,List.getElem_toArray,List.getElem_cons_zero,List.getElem_cons_succ] at c0 c1 c2 c3 c4 c5 d0 d1 d2 d3 d4 d5 p0
  unfold psV at hq
  have HJ1:=LH hj1
  have HO1:=LH hO1
  have HP1:=LH hP1
  clear hj1 hO1 hP1 hz
  generalize hnb:Zev t xp=nb at NW HB
  clear hnb
  have hcase:decide (padP xp=padP lp)=false∨(decide (padP xp=padP lp)=true∧¬(1:Int)<(xm:Int)∧decide (1<xm)=false):=by
   by_cases he:padP xp=padP lp
   ·have:=HLE.out he
    exact .inr ⟨decide_eq_true he,by omega,by simp;omega⟩
   ·exact .inl (decide_eq_false he)
  rcases hcase with hc|⟨hc,hm1,hm2⟩
  all_goals
   rw[hc] at hq
   clear hc
   cases nb
   ·have HF:Hid (Zfh t but (xp,xm)=false):=LH (by rw[HB.out];rfl)
    gi_wp2
    refine⟨trivial,rfl,((CallsIn.inRound l (callsIn_wide.2 NW.out)).mono ?_)⟩
    rintro e w2 ⟨rfl,hl2,ht2⟩
    gi_wp2
    refine⟨trivial,?_⟩
    gi_wp2
    exact⟨hl2.above (by omega) (by omega),by rw[HFN.out HF.out];exact HJR.out _ _ _ HJ1.out ⟨hl2,ht2⟩,by rw[HLN.out HF.out];exact HO1.out.lrn HTW.out hl2⟩
   ·gi_wp2
    refine⟨trivial,rfl,((CallsIn.inRound l (callsIn_wide.2 NW.out)).mono ?_)⟩
    rintro e w2 ⟨rfl,hl2,ht2⟩
    have hj2:=HJR.out _ _ _ HJ1.out ⟨hl2,ht2⟩
    have hO2:=HO1.out.lrn HTW.out hl2
    have hP2:=hl2.cellsB HTW.out HP1.out
    have TW2:=LH (TX.out w2 ht2)
    have hz2:=HJZ.out _ _ hj2
    clear c0 c1 c2 c3 c4 c5 cz d0 d1 d2 d3 d4 d5 dz p0 pz hq
    have c0:=Zaa 0 hP2 rfl
    have c1:=Zaa 1 hP2 rfl
    have c2:=Zaa 2 hP2 rfl
    have c3:=Zaa 3 hP2 rfl
    have c4:=Zaa 4 hP2 rfl
    have c5:=Zaa 5 hP2 rfl
    have cz:=lt_of_block hP2
    have p0:=Zaa 0 hz2.c rfl
    have pz:=lt_of_block hz2.c
    simp only[Zat,List.getElem_toArray,List.getElem_cons_zero,List.getElem_cons_succ] at c0 c1 c2 c3 c4 c5 p0
    have hs2:=hl2.size
    have HAB2:=LH (show Above X.heap.size Wb w2 from hl2.above (by omega) (by omega))
    have HJ2:=LH hj2
    have HO2:=LH hO2
    have HP2:=LH hP2
    clear hj2 hO2 hP2 hz2 ht2 hl2 HJ1 HO1 HP1 HTW NW
    generalize htb:Zhk t but xp=tb at TW2 HB
    clear htb
    cases tb
    ·have HF:Hid (Zfh t but (xp,xm)=false):=LH (by rw[HB.out];rfl)
     gi_wp2
     refine⟨trivial,rfl,((CallsIn.inRound l (callsIn_wide.2 TW2.out)).mono ?_)⟩
     rintro e w3 ⟨rfl,hb3⟩
     gi_wp2
     exact⟨HAB2.out.trans (Above.of_below hb3),by rw[HFN.out HF.out];exact HJ.out _ _ _ HJ2.out (Bel.grow hb3 (by omega)),by rw[HLN.out HF.out];exact HO2.out.below (hb3.mono (by omega))⟩
    ·have HF:Hid (Zfh t but (xp,xm)=true):=LH (by rw[HB.out];rfl)
     have HFP2:=LH (show pre.filter (Zfh t but)++[(xp,xm)] <+: Za6 t but from by rw[←HFY.out HF.out];exact HFP.out)
     gi_wp2
     refine⟨trivial,rfl,((CallsIn.inRound l (callsIn_wide.2 TW2.out)).mono ?_)⟩
     rintro e w3 ⟨rfl,hb3⟩
     have hj3:=HJ.out _ _ _ HJ2.out (Bel.grow hb3 (by omega))
     have hO3:=HO2.out.below (hb3.mono (by omega))
     have hP3:=(hb3.block _ (lt_of_block HP2.out)).trans HP2.out
     have hs3:=hb3.size
     have HAB3:=LH (HAB2.out.trans (Above.of_below hb3))
     obtain⟨fn,tmps,assign,body,hyr,hRI⟩:=HY.out (pre.filter (Zfh t but)) (xp,xm) w3 hj3 HFP2.out
     have HRI:=LH hRI
     clear hRI hj3 c0 c1 c2 c3 c4 c5 cz p0 pz hb3 HJ2 HO2 HP2 HAB2 TW2
     have c0:=Zaa 0 hP3 rfl
     have c1:=Zaa 1 hP3 rfl
     have c2:=Zaa 2 hP3 rfl
     have c3:=Zaa 3 hP3 rfl
     have c4:=Zaa 4 hP3 rfl
     have c5:=Zaa 5 hP3 rfl
     have cz:=lt_of_block hP3
     have y0:=Zaa 0 hO3.y rfl
     have yz:=lt_of_block hO3.y
     simp only[Zat,List.getElem_toArray,List.getElem_cons_zero,List.getElem_cons_succ] at c0 c1 c2 c3 c4 c5 y0
     have HO3:=LH hO3
     have HP3:=LH hP3
     clear hO3 hP3
     dsimp only[encP,psV] at hyr
     gi_wp2
     refine⟨rfl,HRI.out.mono ?_⟩
     rintro e W4 (⟨rfl,hj4,hab4⟩|⟨rfl,hq,hab4⟩)
     ·have hO4:=HO3.out.above hab4 hB
      have hP4:=(hab4.block _ (by omega) (lt_of_block HP3.out)).trans HP3.out
      have hs4:=hab4.size
      clear c0 c1 c2 c3 c4 c5 cz y0 yz hyr
      have c0:=Zaa 0 hP4 rfl
      have c1:=Zaa 1 hP4 rfl
      have c2:=Zaa 2 hP4 rfl
      have c3:=Zaa 3 hP4 rfl
      have c4:=Zaa 4 hP4 rfl
      have c5:=Zaa 5 hP4 rfl
      have cz:=lt_of_block hP4
      have d0:=Zaa 0 hO4.p rfl
      have d1:=Zaa 1 hO4.p rfl
      have d2:=Zaa 2 hO4.p rfl
      have d3:=Zaa 3 hO4.p rfl
      have d4:=Zaa 4 hO4.p rfl
      have d5:=Zaa 5 hO4.p rfl
      have dz:=lt_of_block hO4.p
      have f0:=Zad 0 hO4.p
      have f1:=Zad 1 hO4.p
      have f2:=Zad 2 hO4.p
      have f3:=Zad 3 hO4.p
      have f4:=Zad 4 hO4.p
      have f5:=Zad 5 hO4.p
      simp only[Zat,List.getElem_toArray,List.getElem_cons_zero,List.getElem_cons_succ] at c0 c1 c2 c3 c4 c5 d0 d1 d2 d3 d4 d5
      have HS:=LH (hO4.set xp)
      have HSJ:=LH (HJ.out _ _ (Zme W4 (W.heap.size+1) xp) hj4 (Z2w hO4.p (by decide) (by omega)))
      have HSA:=LH ((HAB3.out.trans (hab4.mono (by omega))).trans (Zue (L:=xp) (b:=W.heap.size+1) (W:=W4) (B:=X.heap.size) (by omega)))
      clear hj4 hO4 hP4 hab4
      gi_wp2
      have hA:=HSA.out
      have hJ5:=HSJ.out
      have hO5:=HS.out
      unfold Zme at hA hJ5 hO5
      exact⟨hA,by rw[HFY.out HF.out];exact hJ5,by rw[HLY.out HF.out];exact hO5⟩
     ·gi_wp2
      exact⟨HAB3.out.trans (hab4.mono (by omega)),rfl,_,hq⟩
 case done=>
  intro D V hD hI hK
  obtain⟨hj1,hO1⟩:=hI
  have hJ2:=HJ.out _ _ (V.putObj D (.deferred none)) hj1 (Bel.put hK (fun _ _ e=>by cases e) (by omega))
  refine⟨by simp,.inl ⟨_,_,rfl,run_takeDeferred hK,?_⟩⟩
  exact⟨_,results_none rfl _ _ _,⟨_,rfl⟩,.inl hJ2⟩
 case stop=>
  intro D c pre V hD hI hK
  obtain⟨rfl,s,hs⟩:=hI
  have hs2:=HJX.out _ _ (V.putObj D (.deferred none)) hs (Bel.put hK (fun _ _ e=>by cases e) (by omega))
  gi_wp2
  refine⟨by simp,.inl ⟨_,_,rfl,run_takeDeferred hK,?_⟩⟩
  exact⟨_,results_none rfl _ _ _,⟨_,rfl⟩,.inr ⟨s,hs2⟩⟩
theorem Zgm (bt:Nat) (w:World):
  Calls Tryz.prog 44 #[.pointer (some ⟨bt,0,none⟩)] w fun e w'=>e=.returned (.func (.func 93) #[] #[.pointer (some ⟨w.heap.size,0,none⟩)])∧w'=w.alloc (.cells #[.pointer (some ⟨bt,0,none⟩)] 100):=by
 go_enter Tryz.func44,Tryz.ntmps44
 go_wp2
 go_ret
 exact⟨rfl,rfl⟩
theorem Zf7 (a1 a2 a3 a4:Option Addr) (k1 k2 k3 k4:Nat) (t:PeW) (bt bc bk but p1:Nat) (hv:PeOk t) (hbut:but<16):
  SeqY Tryz.prog 3 93 #[.pointer (some ⟨p1,0,none⟩)] encP (fun A A'=>Lrn bc bk A A'∧TownW A' bt bc bk a1 a2 a3 a4 k1 k2 k3 k4 t but) (fun A=>TruZ A p1 bt bc bk a1 a2 a3 a4 k1 k2 k3 k4 t but) (Za6 t but):=
 fun B l J Jx W hB hR hJ hJx hJR hJZ hY hj=>callsIn_wide.2 (Zza a1 a2 a3 a4 k1 k2 k3 k4 t bt bc bk but p1 l B J Jx W hv hbut hB hR hJ hJx hJR hJZ hY hj)
end
section
open Go Go.RowKit
theorem Z3t (n lo hi:Int) (p q:Nat) (w:World) (h1:w.cell? ⟨p,0,none⟩=some (.int .i64 lo)) (h2:w.cell? ⟨q,0,none⟩=some (.int .i64 hi)):
  Calls Tryz.prog 124 #[.int .i64 n,.pointer (some ⟨p,0,none⟩),.pointer (some ⟨q,0,none⟩)] w fun e w'=>e=.returned (.bool (outB lo hi n))∧w'=w:=by
 have hp:=Zag h1
 have hq:=Zag h2
 have HO:Hid (outB lo hi n=(decide (n<lo)||decide (hi<n))):=rfl
 generalize outB lo hi n=r at HO ⊢
 by_cases a1:n<lo
 ·go_enter Tryz.func124,Tryz.ntmps124
  go_wp2
  go_ret
  exact⟨Zaq (by rw[HO.out];simp[a1]),rfl⟩
 ·by_cases a2:hi<n
  all_goals
   go_enter Tryz.func124,Tryz.ntmps124
   go_wp2
   go_ret
   exact⟨Zaq (by rw[HO.out];simp[a1,a2]<;>omega),rfl⟩
theorem Zqk (a:Option Addr) (l:List Int) (c:Nat) (lo hi:Int) (p q:Nat) (w:World) (hl:l.length≤9223372036854775807) (hi':Zaw w a l) (h1:w.cell? ⟨p,0,none⟩=some (.int .i64 lo)) (h2:w.cell? ⟨q,0,none⟩=some (.int .i64 hi)):
  Calls Tryz.prog 164 #[.slice a l.length c,.func (.func 124) #[] #[.pointer (some ⟨p,0,none⟩),.pointer (some ⟨q,0,none⟩)]] w fun e w'=>∃k:Int,e=.returned (.int .i64 k)∧Hid (decide (0≤k)=l.any (outB lo hi))∧w'=w:=by
 go_enter Tryz.func164,Tryz.ntmps164
 go_wp2
 go_loop [8] (fun i=>∃k:Nat,k≤l.length∧i=.int .i64 k∧Hid (∀j (_:j<k) (h:j<l.length),outB lo hi l[j]=false)) (fun i=>l.length-(intOf i).toNat)
 case atStart=>exact⟨0,Nat.zero_le _,rfl,LH (fun j h=>absurd h (Nat.not_lt_zero j))⟩
 case round=>
  obtain⟨k,hk,rfl,HR⟩:=hrel
  by_cases hlt:k<l.length
  ·obtain⟨b,off,rfl,hb,hx⟩:=hi' k hlt
   have B:=Z3t l[k] lo hi p q w h1 h2
   have HT:=LH (fun(h:outB lo hi l[k]=true)=>(Zo0 hlt h:l.any (outB lo hi)=true))
   have HN:=LH (fun(h:outB lo hi l[k]=false)=>show ∀j (_:j<k+1) (h:j<l.length),outB lo hi l[j]=false from fun j hj hjl=>if hjk:j<k then HR.out j hjk hjl else (by have e:j=k:=(by omega);subst e;exact h))
   generalize outB lo hi l[k]=br at B HT HN
   have B:=LH B
   cases br
   ·go_wp2_with (go_at_call 124;go_must (refine B.out.mono ?_;rintro e w2 ⟨rfl,hw2⟩;obtain rfl:=hw2.symm;dsimp only))
    go_round
    case rel=>exact⟨k+1,by omega,by go_num,LH (HN.out (by trivial))⟩
    case measure=>simp[intOf];omega
   ·go_wp2_with (go_at_call 124;go_must (refine B.out.mono ?_;rintro e w2 ⟨rfl,hw2⟩;obtain rfl:=hw2.symm;dsimp only))
    go_ret
    exact⟨_,rfl,LH (by rw[HT.out (by trivial)];simp),rfl⟩
  ·obtain rfl:k=l.length:=by omega
   go_wp2
   go_ret
   exact⟨_,rfl,LH (by rw[Zlc (fun j h=>HR.out j h h)];simp),rfl⟩
theorem Zmc (a:Option Addr) (l:List Int) (c:Nat) (lo hi:Int) (p q:Nat) (w:World) (hl:l.length≤9223372036854775807) (hi':Zaw w a l) (h1:w.cell? ⟨p,0,none⟩=some (.int .i64 lo)) (h2:w.cell? ⟨q,0,none⟩=some (.int .i64 hi)):
  Calls Tryz.prog 122 #[.slice a l.length c,.func (.func 124) #[] #[.pointer (some ⟨p,0,none⟩),.pointer (some ⟨q,0,none⟩)]] w fun e w'=>e=.returned (.bool (l.any (outB lo hi)))∧w'=w:=by
 have I:=LH (Zqk a l c lo hi p q w hl hi' h1 h2)
 go_enter Tryz.func122,Tryz.ntmps122
 by_cases ha:l.any (outB lo hi)=true
 ·go_wp2_with (go_at_call 164;go_must (refine I.out.mono ?_;rintro e w2 ⟨k,rfl,hk,hw2⟩;obtain rfl:=hw2.symm;have hk2:0≤k:=of_decide_eq_true (hk.out.trans ha);dsimp only))
  go_ret
  exact⟨rfl,rfl⟩
 ·go_wp2_with (go_at_call 164;go_must (refine I.out.mono ?_;rintro e w2 ⟨k,rfl,hk,hw2⟩;obtain rfl:=hw2.symm;have hk2:¬0≤k:=of_decide_eq_false (hk.out.trans (Bool.eq_false_iff.2 ha));dsimp only))
  go_ret
  exact⟨rfl,rfl⟩
theorem Zpw (a:Option Addr) (l:List Int) (c:Nat) (lo hi:Int) (w:World) (hl:l.length≤9223372036854775807) (hi':Zaw w a l):
  Calls Tryz.prog 81 #[.int .i64 lo,.int .i64 hi,.slice a l.length c] w fun e w'=>e=.returned (.bool (l.any (outB lo hi)))∧Below w.heap.size w w':=by
 have g1:((w.alloc (.cells #[.int .i64 lo] 3)).alloc (.cells #[.int .i64 hi] 3)).cell? ⟨w.heap.size,0,none⟩=some (.int .i64 lo):=Zaa 0 (Zhr ((Below.refl (w.heap.size+1) _).alloc (by simp) _) (by omega) (Ze3 w _)) rfl
 have g2:((w.alloc (.cells #[.int .i64 lo] 3)).alloc (.cells #[.int .i64 hi] 3)).cell? ⟨w.heap.size+1,0,none⟩=some (.int .i64 hi):=by simp
 have C:=LH (Zmc a l c lo hi _ _ _ hl (hi'.mono (((Below.refl _ w).alloc (Nat.le_refl _) _).alloc (by simp) _)) g1 g2)
 clear g1 g2
 go_enter Tryz.func81,Tryz.ntmps81
 go_wp2_with (go_at_call 122;go_must (refine C.out.mono ?_;rintro e w2 ⟨rfl,hw2⟩;obtain rfl:=hw2.symm;dsimp only))
 go_ret
 exact⟨rfl,by go_grown⟩
theorem Zmr (x lo hi:Int) (a:Nat) (w:World) (h:w.cell? ⟨a,0,none⟩=some (.int .i64 x)):
  Calls Tryz.prog 81 #[.int .i64 lo,.int .i64 hi,.slice (some ⟨a,0,none⟩) 1 1] w fun e w'=>e=.returned (.bool (!inB x lo hi))∧Below w.heap.size w w':=by
 have:=Zpw (some ⟨a,0,none⟩) [x] 1 lo hi w (by simp) (fun i hi=>by have e:i=0:=(by simp at hi;omega);subst e;exact⟨a,0,rfl,Zag h,by simpa using h⟩)
 simpa[Zvl] using this
end
section
open Go Go.RowKit Go.Shelf
theorem Ztr (x lo hi:Int) (hx:lo≤x∧x≤hi) (a:Nat) (w:World) (h:w.cell? ⟨a,0,none⟩=some (.int .i64 x)):
  Calls Tryz.prog 81 #[.int .i64 lo,.int .i64 hi,.slice (some ⟨a,0,none⟩) 1 1] w fun e w'=>e=.returned (.bool false)∧Below w.heap.size w w':=by
 have:=Zmr x lo hi a w h
 rwa [Zbx.2 hx] at this
theorem Zuq (x y lo hi:Int) (hx:lo≤x∧x≤hi) (hy:lo≤y∧y≤hi) (a:Nat) (w:World) (h:w.cell? ⟨a,0,none⟩=some (.int .i64 x)) (h1:w.cell? ⟨a,1,none⟩=some (.int .i64 y)):
  Calls Tryz.prog 81 #[.int .i64 lo,.int .i64 hi,.slice (some ⟨a,0,none⟩) 2 2] w fun e w'=>e=.returned (.bool false)∧Below w.heap.size w w':=by
 have:=Zpw (some ⟨a,0,none⟩) [x,y] 2 lo hi w (by simp) (fun k hk=>by
  have e:k=0∨k=1:=(by have hk2:k<2:=(by simpa using hk);omega)
  rcases e with rfl|rfl
  ·exact⟨a,0,rfl,Zag h,by simpa using h⟩
  ·exact⟨a,0,rfl,Zag h1,by simpa using h1⟩)
 have e:([x,y].any (outB lo hi))=false:=by
  rw[List.any_eq_false]
  intro z hz
  unfold outB
  simp only[List.mem_cons,List.not_mem_nil,or_false] at hz
  rcases hz with rfl|rfl<;>simp<;>omega
 rwa [e] at this
theorem Zl3 (a1 a2 a3 a4:Option Addr) (k1 k2 k3 k4:Nat) (t:PeW) (at_:Int) (x:PeM) (w:World) (hm:TownC w a1 a2 a3 a4 k1 k2 k3 k4 t) (hvl:1≤t.vills∧t.vills≤4) (hx:Zbc t at_ x=0):
  Calls Tryz.prog 57 #[(.agg #[.int .i64 t.ear.sounds,.slice a1 t.ear.alphas.length k1,.slice a2 t.ear.spells.length k2,.int .i64 t.vills,.slice a3 t.ments.length k3,.slice a4 t.ties.length k4]),.int .i64 at_,Zqv x] w fun e w'=>e=.returned (.int .i64 0)∧Below w.heap.size w w':=by
 obtain⟨g1,g2,g3,g4,g5,g6,g7,g8,g9,g10⟩:=Zip hx
 obtain⟨xs,xv,xl,xh,xp⟩:=x
 simp only at g1 g2 g3 g4 g5 g6 g7 g8 g9 g10
 obtain⟨Z,hZ⟩:∃Z:World,Z=(w.alloc (.cells #[.int .i64 t.ear.sounds,.slice a1 t.ear.alphas.length k1,.slice a2 t.ear.spells.length k2,.int .i64 t.vills,.slice a3 t.ments.length k3,.slice a4 t.ties.length k4] 29)).alloc (.cells #[.int .i64 xs,.int .i64 xv,.int .i64 xl,.int .i64 xh,.int .i64 xp] 38):=⟨_,rfl⟩
 have hz1:Z.heap[w.heap.size]?=some (.cells #[.int .i64 t.ear.sounds,.slice a1 t.ear.alphas.length k1,.slice a2 t.ear.spells.length k2,.int .i64 t.vills,.slice a3 t.ments.length k3,.slice a4 t.ties.length k4] 29 (0,0)):=by rw[hZ];exact(heap_alloc_old _ _ (by simp)).trans (Zac _ _ rfl)
 have hz2:Z.heap[w.heap.size+1]?=some (.cells #[.int .i64 xs,.int .i64 xv,.int .i64 xl,.int .i64 xh,.int .i64 xp] 38 (0,0)):=by rw[hZ];exact Zac _ _ (by simp)
 have hbZ:Below w.heap.size w Z:=by rw[hZ];exact((Below.refl _ _).alloc (Nat.le_refl _) _).alloc (by simp) _
 have HZ:=LH hZ
 have ls:=hm.book.oks.len
 have lm:=hm.okm.len
 have lv:t.vills-1<9223372036854775807∧-9223372036854775808≤t.vills-1:=by omega
 have B1:=LH (fun a V h=>Ztr xs 0 ((t.ear.spells.length:Int)-1) ⟨g1,by omega⟩ a V h)
 have B2:=LH (fun a V h=>Ztr xv (-1) (t.vills-1) ⟨g3,by omega⟩ a V h)
 have B3:=LH (fun a V h=>Ztr xp (-1) ((t.ments.length:Int)-1) ⟨g5,by omega⟩ a V h)
 have B4:=LH (fun a V h=>Zuq xl xh 0 199 ⟨g7,by omega⟩ ⟨by omega,g9⟩ a V h)
 have g8':¬xh<xl:=by omega
 have g10':(xp==at_)=false:=by simpa using g10
 have KE:=LH (fun(V:World) (h:Below Z.heap.size Z V)=>(show V.cell? ⟨w.heap.size,2,none⟩=some (.slice a2 t.ear.spells.length k2)∧V.cell? ⟨w.heap.size,3,none⟩=some (.int .i64 t.vills)∧V.cell? ⟨w.heap.size,4,none⟩=some (.slice a3 t.ments.length k3)∧V.cell? ⟨w.heap.size+1,0,none⟩=some (.int .i64 xs)∧V.cell? ⟨w.heap.size+1,1,none⟩=some (.int .i64 xv)∧V.cell? ⟨w.heap.size+1,2,none⟩=some (.int .i64 xl)∧V.cell? ⟨w.heap.size+1,3,none⟩=some (.int .i64 xh)∧V.cell? ⟨w.heap.size+1,4,none⟩=some (.int .i64 xp)∧w.heap.size<V.heap.size∧w.heap.size+1<V.heap.size from by
  have e1:=(h.block _ (lt_of_block hz1)).trans hz1
  have e2:=(h.block _ (lt_of_block hz2)).trans hz2
  exact⟨Zaa 2 e1 rfl,Zaa 3 e1 rfl,Zaa 4 e1 rfl,Zaa 0 e2 rfl,Zaa 1 e2 rfl,Zaa 2 e2 rfl,Zaa 3 e2 rfl,Zaa 4 e2 rfl,lt_of_block e1,lt_of_block e2⟩))
 have hQ0:=Below.refl Z.heap.size Z
 clear hm hx hZ
 go_enter Tryz.func57,Tryz.ntmps57
 go_upto_region 1 with(fail)
 rw[←HZ.out]
 obtain⟨x2,x3,x4,y0,y1,y2,y3,y4,xz,yz⟩:=KE.out _ hQ0
 clear HZ hz1 hz2
 go_wp2_with (first
  |(go_at_call 81;((with_reducible refine(B4.out _ _ ?_ ?_ ).mono ?_);(simp);(simp);rintro e w6 ⟨rfl,hb6⟩;have hQ4:=(hQ3.alloc hQ3.size (.cells #[.int .i64 xl,.int .i64 xh] 3)).trans (hb6.mono (by have:=hQ3.size;simp<;>omega));obtain⟨x2,x3,x4,y0,y1,y2,y3,y4,xz,yz⟩:=KE.out _ hQ4;dsimp only))
  |(go_at_call 81;((with_reducible refine(B3.out _ _ ?_ ).mono ?_);(simp);rintro e w5 ⟨rfl,hb5⟩;have hQ3:=(hQ2.alloc hQ2.size (.cells #[.int .i64 xp] 3)).trans (hb5.mono (by have:=hQ2.size;simp<;>omega));obtain⟨x2,x3,x4,y0,y1,y2,y3,y4,xz,yz⟩:=KE.out _ hQ3;dsimp only))
  |(go_at_call 81;((with_reducible refine(B2.out _ _ ?_ ).mono ?_);(simp);rintro e w4 ⟨rfl,hb4⟩;have hQ2:=(hQ1.alloc hQ1.size (.cells #[.int .i64 xv] 3)).trans (hb4.mono (by have:=hQ1.size;simp<;>omega));obtain⟨x2,x3,x4,y0,y1,y2,y3,y4,xz,yz⟩:=KE.out _ hQ2;dsimp only))
  |(go_at_call 81;((with_reducible refine(B1.out _ _ ?_ ).mono ?_);(simp);rintro e w3 ⟨rfl,hb3⟩;have hQ1:=(hQ0.alloc hQ0.size (.cells #[.int .i64 xs] 3)).trans (hb3.mono (by have:=hQ0.size;simp<;>omega));obtain⟨x2,x3,x4,y0,y1,y2,y3,y4,xz,yz⟩:=KE.out _ hQ1;dsimp only)))
 go_ret
 exact⟨rfl,hbZ.trans (hQ4.mono hbZ.size)⟩
theorem Z0b (a:Option Addr) (l:List PeM) (c F:Nat) (caps:Array Value) (w:World) (hl:l.length≤9223372036854775807) (hi:Zb5 w a l)
  (hCF:∀(xs:Array Value) (W:World),(callFunc F xs).run Tryz.prog W=.ok (.enter F xs) W)
  (hK:∀(k:Nat) (h:k<l.length) (W:World),Below w.heap.size w W→Calls Tryz.prog F (#[.int .i64 (k:Int),Zqv l[k]]++caps) W fun e W'=>e=.returned (.int .i64 0)∧Below W.heap.size W W'):
  Calls Tryz.prog 87 #[.slice a l.length c,.func (.func F) #[] caps] w fun e w'=>e=.returned (.tuple #[.int .i64 0,.int .i64 0])∧Below w.heap.size w w':=by
 replace hK:=LH hK
 go_enter Tryz.func87,Tryz.ntmps87
 go_wp2
 go_loopw [11] (fun i wr=>∃k:Nat,k≤l.length∧i=.int .i64 k∧Below w.heap.size w wr) (fun i _=>l.length-(intOf i).toNat)
 case atStart=>exact⟨0,Nat.zero_le _,rfl,Below.refl _ _⟩
 case round=>
  obtain⟨k,hk,rfl,hbw⟩:=hrel
  by_cases hlt:k<l.length
  ·have K:=LH (fun(W:World) (h:Below w.heap.size w W)=>hK.out k hlt W h)
   obtain⟨b,off,rfl,hb,h1,h2,h3,h4,h5⟩:=(hi.mono hbw) k hlt
   generalize l[k]=x at K h1 h2 h3 h4 h5
   obtain⟨xs,xv,xl,xh,xp⟩:=x
   simp only at K h1 h2 h3 h4 h5
   go_wp2_with ((with_reducible refine(K.out _ (hbw.alloc hbw.size _)).mono ?_);rintro e w2 ⟨rfl,hb2⟩;have hbn:=(hbw.alloc hbw.size (.cells #[.int .i64 xs,.int .i64 xv,.int .i64 xl,.int .i64 xh,.int .i64 xp] 38)).trans (hb2.mono (by have:=hbw.size;simp;omega));dsimp only)
   go_roundw
   case rel=>exact⟨k+1,by omega,by go_num,hbn⟩
   case measure=>simp[intOf];omega
  ·obtain rfl:k=l.length:=by omega
   go_wp2
   go_ret2
   exact⟨rfl,hbw⟩
theorem Zz2 (a:Option Addr) (l:List PeT) (c F:Nat) (caps:Array Value) (w:World) (hl:l.length≤9223372036854775807) (hi:Zby w a l)
  (hCF:∀(xs:Array Value) (W:World),(callFunc F xs).run Tryz.prog W=.ok (.enter F xs) W)
  (hK:∀(k:Nat) (h:k<l.length) (W:World),Below w.heap.size w W→Calls Tryz.prog F (#[.int .i64 (k:Int),Z62 l[k]]++caps) W fun e W'=>e=.returned (.int .i64 0)∧Below W.heap.size W W'):
  Calls Tryz.prog 89 #[.slice a l.length c,.func (.func F) #[] caps] w fun e w'=>e=.returned (.tuple #[.int .i64 0,.int .i64 0])∧Below w.heap.size w w':=by
 replace hK:=LH hK
 go_enter Tryz.func89,Tryz.ntmps89
 go_wp2
 go_loopw [11] (fun i wr=>∃k:Nat,k≤l.length∧i=.int .i64 k∧Below w.heap.size w wr) (fun i _=>l.length-(intOf i).toNat)
 case atStart=>exact⟨0,Nat.zero_le _,rfl,Below.refl _ _⟩
 case round=>
  obtain⟨k,hk,rfl,hbw⟩:=hrel
  by_cases hlt:k<l.length
  ·have K:=LH (fun(W:World) (h:Below w.heap.size w W)=>hK.out k hlt W h)
   obtain⟨b,off,rfl,hb,h1,h2,h3⟩:=(hi.mono hbw) k hlt
   generalize l[k]=x at K h1 h2 h3
   obtain⟨xa,xb,xs⟩:=x
   simp only at K h1 h2 h3
   go_wp2_with ((with_reducible refine(K.out _ (hbw.alloc hbw.size _)).mono ?_);rintro e w2 ⟨rfl,hb2⟩;have hbn:=(hbw.alloc hbw.size (.cells #[.int .i64 xa,.int .i64 xb,.bool xs] 44)).trans (hb2.mono (by have:=hbw.size;simp;omega));dsimp only)
   go_roundw
   case rel=>exact⟨k+1,by omega,by go_num,hbn⟩
   case measure=>simp[intOf];omega
  ·obtain rfl:k=l.length:=by omega
   go_wp2
   go_ret2
   exact⟨rfl,hbw⟩
theorem Z2p (a1 a2 a3 a4:Option Addr) (k1 k2 k3 k4:Nat) (t:PeW) (i B:Nat) (w:World) (hm:TownC w a1 a2 a3 a4 k1 k2 k3 k4 t) (hv:PeValid t) (hi:i<t.ments.length) (hB:w.heap[B]?=some (.cells #[.int .i64 t.ear.sounds,.slice a1 t.ear.alphas.length k1,.slice a2 t.ear.spells.length k2,.int .i64 t.vills,.slice a3 t.ments.length k3,.slice a4 t.ties.length k4] 29 (0,0))):
  Calls Tryz.prog 88 #[.int .i64 (i:Int),Zqv t.ments[i],.pointer (some ⟨B,0,none⟩)] w fun e w'=>e=.returned (.int .i64 0)∧Below w.heap.size w w':=by
 have hx:=hv.ment i hi
 have hvl:=hv.vills
 have ME:=LH (fun(V:World) (h:Below w.heap.size w V)=>Zl3 a1 a2 a3 a4 k1 k2 k3 k4 t (i:Int) t.ments[i] V (hm.mono h) hvl hx)
 generalize t.ments[i]=x at ME
 obtain⟨xs,xv,xl,xh,xp⟩:=x
 have c0:=Zaa 0 hB rfl
 have c1:=Zaa 1 hB rfl
 have c2:=Zaa 2 hB rfl
 have c3:=Zaa 3 hB rfl
 have c4:=Zaa 4 hB rfl
 have c5:=Zaa 5 hB rfl
 have cz:=lt_of_block hB
 simp only[List.getElem_toArray,List.getElem_cons_zero,List.getElem_cons_succ] at c0 c1 c2 c3 c4 c5
 clear hB hm hx hvl
 go_enter Tryz.func88,Tryz.ntmps88
 go_wp2_with (go_at_call 57;go_must ((with_reducible refine(ME.out _ ((Below.refl _ w).alloc (Nat.le_refl _) _)).mono ?_);rintro e w2 ⟨rfl,hb2⟩;dsimp only))
 go_ret
 exact⟨rfl,((Below.refl _ w).alloc (Nat.le_refl _) _).trans (hb2.mono (by simp))⟩
theorem Z3u (a1 a2 a3 a4:Option Addr) (k1 k2 k3 k4:Nat) (t:PeW) (i B:Nat) (w:World) (hv:PeValid t) (hi:i<t.ties.length) (hB:w.cell? ⟨B,4,none⟩=some (.slice a3 t.ments.length k3)):
  Calls Tryz.prog 90 #[.int .i64 (i:Int),Z62 t.ties[i],.pointer (some ⟨B,0,none⟩)] w fun e w'=>e=.returned (.int .i64 0)∧Below w.heap.size w w':=by
 have hx:=hv.tie i hi
 have hnm:=hv.nm
 generalize t.ties[i]=x at hx
 obtain⟨xa,xb,xs⟩:=x
 simp only at hx
 have B4:=LH (fun a V h=>Zuq xa xb 0 ((t.ments.length:Int)-1) ⟨hx.1,by omega⟩ ⟨hx.2.2.1,by omega⟩ a V h)
 have hab:(xa==xb)=false:=by simpa using hx.2.2.2.2
 have bz:=Zag hB
 have hQ0:=Below.refl (w.heap.size+1) (w.alloc (.cells #[.int .i64 xa,.int .i64 xb,.bool xs] 44))
 have KE:Hid (∀V,Below (w.heap.size+1) (w.alloc (.cells #[.int .i64 xa,.int .i64 xb,.bool xs] 44)) V→(V.cell? ⟨w.heap.size,0,none⟩=some (.int .i64 xa)∧V.cell? ⟨w.heap.size,1,none⟩=some (.int .i64 xb)∧w.heap.size<V.heap.size)):=LH (fun V hV=>⟨Zaj hV 0 _ rfl,Zaj hV 1 _ rfl,Zai hV⟩)
 clear hx hv
 go_enter Tryz.func90,Tryz.ntmps90
 go_wp2_with (go_at_call 81;go_must ((with_reducible refine(B4.out _ _ ?_ ?_).mono ?_);(simp);(simp);rintro e w3 ⟨rfl,hb3⟩;have hQ3:=(hQ0.alloc (by simp) (.cells #[.int .i64 xa,.int .i64 xb] 3)).trans (hb3.mono (by simp));obtain⟨x0,x1,xz⟩:=KE.out _ hQ3;dsimp only))
 go_ret
 exact⟨rfl,Zaf hQ3⟩
theorem Zig (a1 a2 a3 a4:Option Addr) (k1 k2 k3 k4:Nat) (t:PeW) (w:World) (hm:TownC w a1 a2 a3 a4 k1 k2 k3 k4 t) (hv:PeValid t):
  Calls Tryz.prog 39 #[(.agg #[.int .i64 t.ear.sounds,.slice a1 t.ear.alphas.length k1,.slice a2 t.ear.spells.length k2,.int .i64 t.vills,.slice a3 t.ments.length k3,.slice a4 t.ties.length k4])] w fun e w'=>e=.returned (.tuple #[.int .i64 0,.int .i64 0,.int .i64 0])∧Below w.heap.size w w':=by
 have hX:(w.alloc (.cells #[.int .i64 t.ear.sounds,.slice a1 t.ear.alphas.length k1,.slice a2 t.ear.spells.length k2,.int .i64 t.vills,.slice a3 t.ments.length k3,.slice a4 t.ties.length k4] 29)).heap[w.heap.size]?=some (.cells #[.int .i64 t.ear.sounds,.slice a1 t.ear.alphas.length k1,.slice a2 t.ear.spells.length k2,.int .i64 t.vills,.slice a3 t.ments.length k3,.slice a4 t.ties.length k4] 29 (0,0)):=Zac _ _ rfl
 have hQ0:=Below.refl (w.heap.size+1) (w.alloc (.cells #[.int .i64 t.ear.sounds,.slice a1 t.ear.alphas.length k1,.slice a2 t.ear.spells.length k2,.int .i64 t.vills,.slice a3 t.ments.length k3,.slice a4 t.ties.length k4] 29))
 have HB:=LH (fun(V:World) (h:Below (w.heap.size+1) (w.alloc (.cells #[.int .i64 t.ear.sounds,.slice a1 t.ear.alphas.length k1,.slice a2 t.ear.spells.length k2,.int .i64 t.vills,.slice a3 t.ments.length k3,.slice a4 t.ties.length k4] 29)) V)=>(h.block _ (by omega)).trans hX)
 have HM:=LH (fun(V:World) (h:Below (w.heap.size+1) (w.alloc (.cells #[.int .i64 t.ear.sounds,.slice a1 t.ear.alphas.length k1,.slice a2 t.ear.spells.length k2,.int .i64 t.vills,.slice a3 t.ments.length k3,.slice a4 t.ties.length k4] 29)) V)=>hm.mono (Zaf h))
 have KE:Hid (∀V,Below (w.heap.size+1) (w.alloc (.cells #[.int .i64 t.ear.sounds,.slice a1 t.ear.alphas.length k1,.slice a2 t.ear.spells.length k2,.int .i64 t.vills,.slice a3 t.ments.length k3,.slice a4 t.ties.length k4] 29)) V→(V.cell? ⟨w.heap.size,0,none⟩=some (.int .i64 t.ear.sounds)∧V.cell? ⟨w.heap.size,1,none⟩=some (.slice a1 t.ear.alphas.length k1)∧V.cell? ⟨w.heap.size,2,none⟩=some (.slice a2 t.ear.spells.length k2)∧V.cell? ⟨w.heap.size,3,none⟩=some (.int .i64 t.vills)∧V.cell? ⟨w.heap.size,4,none⟩=some (.slice a3 t.ments.length k3)∧V.cell? ⟨w.heap.size,5,none⟩=some (.slice a4 t.ties.length k4)∧w.heap.size<V.heap.size)):=LH (fun V hV=>⟨Zaj hV 0 _ rfl,Zaj hV 1 _ rfl,Zaj hV 2 _ rfl,Zaj hV 3 _ rfl,Zaj hV 4 _ rfl,Zaj hV 5 _ rfl,Zai hV⟩)
 have CK:=LH (fun(V:World) (h:Below (w.heap.size+1) (w.alloc (.cells #[.int .i64 t.ear.sounds,.slice a1 t.ear.alphas.length k1,.slice a2 t.ear.spells.length k2,.int .i64 t.vills,.slice a3 t.ments.length k3,.slice a4 t.ties.length k4] 29)) V)=>Zo1 a1 a2 k1 k2 t.ear V (HM.out V h).book hv.ear)
 have hvl:=hv.vills
 have hnm:=hv.nm
 have hnt:=hv.nt
 have lm:=hm.okm.len
 have lt:=hm.okt.len
 have BV:=LH (fun a V h=>Ztr t.vills 1 4 hvl a V h)
 have FM:=LH (fun(V:World) (h:Below (w.heap.size+1) (w.alloc (.cells #[.int .i64 t.ear.sounds,.slice a1 t.ear.alphas.length k1,.slice a2 t.ear.spells.length k2,.int .i64 t.vills,.slice a3 t.ments.length k3,.slice a4 t.ties.length k4] 29)) V)=>Z0b a3 t.ments k3 88 #[.pointer (some ⟨w.heap.size,0,none⟩)] V lm (HM.out V h).ments (enters_of Tryz.func88 (by kernel_rfl) rfl) (fun k hk W hW=>by
  have hQ:=h.trans (hW.mono (Zai h))
  exact Z2p a1 a2 a3 a4 k1 k2 k3 k4 t k w.heap.size W (HM.out W hQ) hv hk (HB.out W hQ)))
 have FT:=LH (fun(V:World) (h:Below (w.heap.size+1) (w.alloc (.cells #[.int .i64 t.ear.sounds,.slice a1 t.ear.alphas.length k1,.slice a2 t.ear.spells.length k2,.int .i64 t.vills,.slice a3 t.ments.length k3,.slice a4 t.ties.length k4] 29)) V)=>Zz2 a4 t.ties k4 90 #[.pointer (some ⟨w.heap.size,0,none⟩)] V lt (HM.out V h).ties (enters_of Tryz.func90 (by kernel_rfl) rfl) (fun k hk W hW=>by
  have hQ:=h.trans (hW.mono (Zai h))
  exact Z3u a1 a2 a3 a4 k1 k2 k3 k4 t k w.heap.size W hv hk (KE.out W hQ).2.2.2.2.1))
 have hnmI:¬(5:Int)<(t.ments.length:Int):=by omega
 have hntI:¬(4:Int)<(t.ties.length:Int):=by omega
 clear hX hm hv
 go_enter Tryz.func39,Tryz.ntmps39
 go_wp2_with (first
  |(go_at_call 89;go_must ((with_reducible refine(FT.out _ hQ4).mono ?_);rintro e w5 ⟨rfl,hb5⟩;have hQ5:=hQ4.trans (hb5.mono (Zai hQ4));dsimp only))
  |(go_at_call 87;go_must ((with_reducible refine(FM.out _ hQ3).mono ?_);rintro e w4 ⟨rfl,hb4⟩;have hQ4:=hQ3.trans (hb4.mono (Zai hQ3));obtain⟨x0,x1,x2,x3,x4,x5,xz⟩:=KE.out _ hQ4;dsimp only))
  |(go_at_call 81;go_must ((with_reducible refine(BV.out _ _ ?_).mono ?_);(simp);rintro e w3 ⟨rfl,hb3⟩;have hQ3:=(hQ2.alloc (Zai hQ2) (.cells #[.int .i64 t.vills] 3)).trans (hb3.mono (by have:=Zai hQ2;simp;omega));obtain⟨x0,x1,x2,x3,x4,x5,xz⟩:=KE.out _ hQ3;dsimp only))
  |(go_at_call 84;go_must ((with_reducible refine(CK.out _ hQ0).mono ?_);rintro e w2 ⟨rfl,hb2⟩;have hQ2:=hQ0.trans (hb2.mono (by simp));obtain⟨x0,x1,x2,x3,x4,x5,xz⟩:=KE.out _ hQ2;dsimp only)))
 go_ret3
 exact⟨rfl,Zaf hQ5⟩
end
end Go.Proofs.YtklconegomgjaaaGreat
