/- What is proved here: the contract of Born of layer 3. Conditions: the town is valid; one of its mentions. -/
import Derived.Test.YtklconegomgjaaaGreatPeWhoG
import Derived.Test.YtklconegomgjaaaGreatPeYears
set_option linter.all false
set_option maxRecDepth 100000
set_option maxHeartbeats 16000000
namespace Go.Proofs.YtklconegomgjaaaGreat
section
open Go Go.RowKit Go.Shelf
attribute [local go_sem] Oper.semAt_some
theorem Zd5 {P:Program} {Q:Exit→Act→World→Prop} {l:Nat} {id:Nat} {ops:Array Oper} {a:Act} {w:World} (S':World→Prop) (z:Nat) (hL:¬LetsOut Q) (hm:P.follows .mixedOrders=true) (hd:∀o∈ops.toList,∀c,o.op≠.defer c) (hS:S' w.drew)
  (h:S' w.drew→wpZ P .any ops Q S' z ops.size (Array.replicate ops.size false) a w.drew):(Code.region id ops true).wpIn (Fence.wide.inRound l) 0 P Q a w:=
 wpIn_region_any hm (Zeq hL hd _ _ _ _ (Zu2 _ _ _ _ (h hS)))
theorem Zjm {t:PeW}:∀(k:Nat) (pre:List Int) (many:Nat) (x:List Int × Nat),x∈Zbi t k pre many→(Zbr t x.1).isSome=true
 |0,pre,many,x,hx=>by
  rw[Zbi] at hx
  split at hx
  ·next h=>
   have:x=(pre,many):=by simpa using hx
   subst this
   rw[Bool.and_eq_true] at h
   exact h.1
  ·cases hx
 |k+1,pre,many,x,hx=>by
  rw[Zbi,List.mem_flatMap] at hx
  obtain⟨n,_,hx⟩:=hx
  split at hx
  ·exact Zjm k _ _ x hx
  ·cases hx
theorem Zy1 (a1 a2 a3 a4:Option Addr) (k1 k2 k3 k4:Nat) (t:PeW) (p0 p1 m:Nat) (w:World) (hm:m<t.ments.length) (hn:t.ments.length≤6) (h0:w.cell? ⟨p0,4,none⟩=some (.slice a3 t.ments.length k3)) (h1:w.cell? ⟨p1,0,none⟩=some (.int .i64 (m:Int))):
  Calls Tryz.prog 80 #[.pointer (some ⟨p0,0,none⟩),.pointer (some ⟨p1,0,none⟩)] w fun e w'=>e=.returned (.int .i64 0)∧Below w.heap.size w w':=by
 have B4:=LH (fun x V h=>Ztr (m:Int) 0 ((t.ments.length:Int)-1) ⟨by omega,by omega⟩ x V h)
 have z0:=Zag h0
 have z1:=Zag h1
 clear hm
 go_enter Tryz.func80,Tryz.ntmps80
 go_wp2_with (go_at_call 81;go_must ((with_reducible refine(B4.out _ _ ?_).mono ?_);(simp);rintro e w3 ⟨rfl,hb3⟩;have hB3:=((Below.refl _ w).alloc (Nat.le_refl _) (.cells #[.int .i64 (m:Int)] 3)).trans (hb3.mono (by simp));dsimp only))
 go_ret
 exact⟨rfl,hB3⟩
structure BorO (A:World) (w0 b0 bt m:Nat) (s:Int × Int) (first:Bool):Prop where
 fm:A.heap[w0+1]?=some (.cells #[.int .i64 (m:Int)] 3 (0,0))
 fs:A.heap[w0+1+1]?=some (.cells #[.int .i64 s.1,.int .i64 s.2] 36 (0,0))
 ft:A.heap[b0]?=some (.cells #[.pointer (some ⟨bt,0,none⟩)] 100 (0,0))
 ff:A.heap[b0+1]?=some (.cells #[.bool first] 4 (0,0))
 fc:A.heap[b0+1+1]?=some (.cells #[.pointer (some ⟨bt,0,none⟩)] 100 (0,0))
section
variable {A A':World} {w0 b0 bt bc bk m B:Nat} {s:Int × Int} {f:Bool}
theorem BorO.below (h:BorO A w0 b0 bt m s f) (hb:Below B A A') (h1:w0+1+1<b0) (h2:b0+1+1<B):BorO A' w0 b0 bt m s f:=⟨(hb.block _ (by omega)).trans h.fm,(hb.block _ (by omega)).trans h.fs,(hb.block _ (by omega)).trans h.ft,(hb.block _ (by omega)).trans h.ff,(hb.block _ (by omega)).trans h.fc⟩
theorem BorO.lrn (h:BorO A w0 b0 bt m s f) (hb:Lrn bc bk A A') (h1:bc<b0) (h2:bk<b0) (h3:w0+1+1<bc) (h4:w0+1+1<bk):BorO A' w0 b0 bt m s f:=⟨hb.cellsN h.fm (by omega) (by omega),hb.cellsN h.fs (by omega) (by omega),hb.cellsN h.ft (by omega) (by omega),hb.cellsN h.ff (by omega) (by omega),hb.cellsN h.fc (by omega) (by omega)⟩
theorem BorO.sets (h:BorO A w0 b0 bt m s f) (h1:w0+1+1<b0) (x:Int × Int):BorO ((A.setCell ⟨w0+1+1,0,none⟩ (.int .i64 x.1)).setCell ⟨w0+1+1,1,none⟩ (.int .i64 x.2)) w0 b0 bt m x f:=by
 refine⟨?_,Zak 1 _ (Zak 0 _ h.fs),?_,?_,?_⟩
 ·rw[Zae (by omega),Zae (by omega)];exact h.fm
 ·rw[Zae (by omega),Zae (by omega)];exact h.ft
 ·rw[Zae (by omega),Zae (by omega)];exact h.ff
 ·rw[Zae (by omega),Zae (by omega)];exact h.fc
theorem BorO.setf (h:BorO A w0 b0 bt m s f) (h1:w0+1+1<b0) (g:Bool):BorO (A.setCell ⟨b0+1,0,none⟩ (.bool g)) w0 b0 bt m s g:=by
 refine⟨?_,?_,?_,Zak 0 _ h.ff,?_⟩
 ·rw[Zae (by omega)];exact h.fm
 ·rw[Zae (by omega)];exact h.fs
 ·rw[Zae (by omega)];exact h.ft
 ·rw[Zae (by omega)];exact h.fc
end
theorem Z2q (a1 a2 a3 a4:Option Addr) (k1 k2 k3 k4:Nat) (t:PeW) (m:Nat) (w:World) (hm:TownC w a1 a2 a3 a4 k1 k2 k3 k4 t) (hv:PeValid t) (hmm:m<t.ments.length):
  Calls Tryz.prog 33 #[(.agg #[.int .i64 t.ear.sounds,.slice a1 t.ear.alphas.length k1,.slice a2 t.ear.spells.length k2,.int .i64 t.vills,.slice a3 t.ments.length k3,.slice a4 t.ties.length k4]),.int .i64 (m:Int)] w fun e w'=>e=.returned (if Za6 t 0=[] then .tuple #[.agg #[.int .i64 0,.int .i64 0],.int .i64 8] else .tuple #[.agg #[.int .i64 (Z5f t m).1,.int .i64 (Z5f t m).2],.int .i64 0])∧Below w.heap.size w w':=by
 have hnm:=hv.nm
 obtain⟨Y,hY⟩:∃Y:World,Y=((w.alloc (.cells #[.int .i64 t.ear.sounds,.slice a1 t.ear.alphas.length k1,.slice a2 t.ear.spells.length k2,.int .i64 t.vills,.slice a3 t.ments.length k3,.slice a4 t.ties.length k4] 29)).alloc (.cells #[.int .i64 (m:Int)] 3)).alloc (.cells #[.int .i64 0,.int .i64 0] 36):=⟨_,rfl⟩
 have hbY:Below w.heap.size w Y:=by rw[hY];exact(((Below.refl _ _).alloc (Nat.le_refl _) _).alloc (by simp) _).alloc (by simp;omega) _
 have h1:Y.heap[w.heap.size]?=some (.cells #[.int .i64 t.ear.sounds,.slice a1 t.ear.alphas.length k1,.slice a2 t.ear.spells.length k2,.int .i64 t.vills,.slice a3 t.ments.length k3,.slice a4 t.ties.length k4] 29 (0,0)):=by rw[hY];exact(heap_alloc_old _ _ (by simp;omega)).trans ((heap_alloc_old _ _ (by simp)).trans (Zac _ _ rfl))
 have h2:Y.heap[w.heap.size+1]?=some (.cells #[.int .i64 (m:Int)] 3 (0,0)):=by rw[hY];exact(heap_alloc_old _ _ (by simp)).trans (Zac _ _ (by simp))
 have h3:Y.heap[w.heap.size+1+1]?=some (.cells #[.int .i64 0,.int .i64 0] 36 (0,0)):=by rw[hY];exact Zac _ _ (by simp)
 have HY:=LH hY
 clear hY
 have x0:=Zaa 0 h1 rfl
 have x1:=Zaa 1 h1 rfl
 have x2:=Zaa 2 h1 rfl
 have x3:=Zaa 3 h1 rfl
 have x4:=Zaa 4 h1 rfl
 have x5:=Zaa 5 h1 rfl
 have xz:=lt_of_block h1
 simp only[List.getElem_toArray,List.getElem_cons_zero,List.getElem_cons_succ] at x0 x1 x2 x3 x4 x5
 have HBY:=LH hbY
 have HB2:=LH h2
 have HB3:=LH h3
 have hmY:=hm.mono hbY
 have HM:=LH hm
 have HV:=LH hv
 have hOT:∀U,Below Y.heap.size Y U→Calls Tryz.prog 80 #[.pointer (some ⟨w.heap.size,0,none⟩),.pointer (some ⟨w.heap.size+1,0,none⟩)] U fun e w'=>e=.returned (.int .i64 0)∧Below U.heap.size U w':=fun U hU=>
  Zy1 a1 a2 a3 a4 k1 k2 k3 k4 t _ _ m U hmm (by omega) (Zaa 4 ((hU.block _ (lt_of_block h1)).trans h1) rfl) (Zaa 0 ((hU.block _ (lt_of_block h2)).trans h2) rfl)
 by_cases hne:Za6 t 0=[]
 ·rw[if_pos hne]
  have EN:=LH (Zff a1 a2 a3 a4 k1 k2 k3 k4 t 80 #[.pointer (some ⟨w.heap.size,0,none⟩),.pointer (some ⟨w.heap.size+1,0,none⟩)] Y hmY hv (enters_of Tryz.func80 (by kernel_rfl) rfl) hOT hne)
  clear hne hm hmY h1 h2 h3 hbY hOT hmm hv
  go_enter Tryz.func33,Tryz.ntmps33
  go_upto_region 1 with(fail)
  rw[←HY.out]
  go_upto_region 3 with(go_at_call 43;go_must ((with_reducible refine EN.out.mono ?_);rintro e w3 ⟨rfl,hb3⟩;dsimp only))
  have hlt3:=Nat.lt_of_lt_of_le (lt_of_block HB3.out) hb3.size
  have h3:=(heap_alloc_old w3 (.cells #[.pointer none] 100) hlt3).trans ((hb3.block _ (lt_of_block HB3.out)).trans HB3.out)
  have hbX:Below w.heap.size w (w3.alloc (.cells #[.pointer none] 100)):=(HBY.out.trans (hb3.mono HBY.out.size)).alloc (Nat.le_trans HBY.out.size hb3.size) _
  generalize w3.alloc (.cells #[.pointer none] 100)=X at h3 hbX ⊢
  have s0:=Zaa 0 h3 rfl
  have s1:=Zaa 1 h3 rfl
  have f0:=Zad 0 h3
  have f1:=Zad 1 h3
  have sz:=lt_of_block h3
  simp only[List.getElem_toArray,List.getElem_cons_zero,List.getElem_cons_succ] at s0 s1
  clear x0 x1 x2 x3 x4 x5 xz hlt3 hb3
  have HE:=LH ((hbX.setCell (p:=⟨w.heap.size+1+1,0,none⟩) (by simp;omega) (.int .i64 0)).setCell (p:=⟨w.heap.size+1+1,1,none⟩) (by simp;omega) (.int .i64 0))
  have h4:=Zak 1 (.int .i64 0) (Zak 0 (.int .i64 0) h3)
  simp only[List.setIfInBounds_toArray,List.set_cons_zero,List.set_cons_succ] at h4
  clear h3 hbX
  go_wp2
  obtain⟨Z,hZ⟩:∃Z:World,Z=(X.setCell ⟨w.heap.size+1+1,0,none⟩ (.int .i64 0)).setCell ⟨w.heap.size+1+1,1,none⟩ (.int .i64 0):=⟨_,rfl⟩
  rw[←hZ] at h4 HE ⊢
  clear hZ s0 s1 f0 f1 sz
  have s0:=Zaa 0 h4 rfl
  have s1:=Zaa 1 h4 rfl
  simp only[List.getElem_toArray,List.getElem_cons_zero,List.getElem_cons_succ] at s0 s1
  refine bodyPost_ret (v:=.tuple #[.agg #[.int .i64 0,.int .i64 0],.int .i64 8]) ?_ rfl ⟨rfl,HE.out⟩
  rw[results_cell_tmp rfl]
  go_simp
 ·rw[if_neg hne]
  have EN:=LH (Zfa a1 a2 a3 a4 k1 k2 k3 k4 t 80 #[.pointer (some ⟨w.heap.size,0,none⟩),.pointer (some ⟨w.heap.size+1,0,none⟩)] Y hmY hv (enters_of Tryz.func80 (by kernel_rfl) rfl) hOT hne)
  have FR:=LH (fun(bt:Nat) (W:World)=>Zgm bt W)
  have WI0:=LH (fun(a b c d:Int) (W:World)=>Zw0 a b c d W)
  have WI1:=LH (fun(a b c d:Int) (W:World)=>Zt2 a b c d W)
  obtain⟨q,hq⟩:∃q,q=Z5f t m:=⟨_,rfl⟩
  rw[←hq]
  have HQ0:=LH hq
  clear hne hm hmY h1 h2 h3 hbY hq hOT hv
  refine(callsIn_wide (n:=0)).1 ?_
  refine callsIn_of_wp_marks Tryz.func33 rfl trivial ?_ rfl
  simp only[Tryz.ntmps33,List.size_toArray,List.length_cons,List.length_nil,Nat.reduceAdd,Nat.reduceSub,Array.replicate_succ,Array.replicate_zero,List.push_toArray,List.append_toArray,List.nil_append,List.cons_append]
  refine(wpIn_wide (n:=0)).2 ?_
  go_upto_region 1 with(fail)
  rw[←HY.out]
  go_wp2_with (first
   |(go_at_call 44;go_must ((with_reducible refine(FR.out _ _).mono ?_);rintro e w4 ⟨rfl,rfl⟩;dsimp only))
   |(go_at_call 43;go_must ((with_reducible refine EN.out.mono ?_);rintro e w3 ⟨bt,bc,bk,rfl,ht3,hb3,g1,g2,g3⟩;dsimp only)))
  have hbw3:=HBY.out.trans (hb3.mono HBY.out.size)
  have h2:=(hb3.block _ (lt_of_block HB2.out)).trans HB2.out
  have h3:=(hb3.block _ (lt_of_block HB3.out)).trans HB3.out
  have hlt1:=lt_of_block HB3.out
  have hlo0:=ht3.bt_lt
  have hlo1:=ht3.bc_lt
  have hlo2:=ht3.bk_lt
  have hyz:=HBY.out.size
  have hzb:=hb3.size
  have hP3:=TwP.of hbw3 ht3 (by omega) (by omega) (by omega)
  have hSE:=Zf7 a1 a2 a3 a4 k1 k2 k3 k4 t bt bc bk 0 (w3.heap.size+1+1) HV.out.ok (by omega)
  obtain⟨f,hf⟩:∃f:List Int × Nat→Int × Int,f=fun x=>bAt ((Zbr t x.1).getD []) (pAt x.1 m).toNat:=⟨_,rfl⟩
  have hs0:q=Zdu ((Za6 t 0).map f):=by rw[hf,HQ0.out];rfl
  have HF0:=LH hf
  have HS0:=LH hs0
  clear hs0 hf EN x0 x1 x2 x3 x4 x5 xz
  obtain⟨X,hX⟩:∃X:World,X=((w3.alloc (.cells #[.pointer (some ⟨bt,0,none⟩)] 100)).alloc (.cells #[.bool true] 4)).alloc (.cells #[.pointer (some ⟨bt,0,none⟩)] 100):=⟨_,rfl⟩
  have hsz:X.heap.size=w3.heap.size+1+1+1:=by rw[hX];simp
  have hb0:Below w3.heap.size w3 X:=by rw[hX];exact(((Below.refl _ w3).alloc (Nat.le_refl _) _).alloc (by simp) _).alloc (by simp;omega) _
  have hO0:BorO X w.heap.size w3.heap.size bt m (0,0) true:=by
   refine⟨(hb0.block _ (by omega)).trans h2,(hb0.block _ (by omega)).trans h3,?_,?_,?_⟩
   ·rw[hX];exact(heap_alloc_old _ _ (by simp;omega)).trans ((heap_alloc_old _ _ (by simp)).trans (Zac _ _ rfl))
   ·rw[hX];exact(heap_alloc_old _ _ (by simp)).trans (Zac _ _ (by simp))
   ·rw[hX];exact Zac _ _ (by simp)
  have hrc:((w3.alloc (.cells #[.pointer (some ⟨bt,0,none⟩)] 100)).alloc (.cells #[.bool true] 4)).heap.size=w3.heap.size+1+1:=by simp
  rw[←hX,hrc]
  clear hX hrc
  refine(wpIn_wide (n:=0)).1 ?_
  refine Zbw (gf:=93) (lb:=#[.pointer (some ⟨w3.heap.size+1+1,0,none⟩)]) (by go_simp) (enters_of Tryz.func93 (by kernel_rfl) rfl) hSE (Nat.le_refl X.heap.size)
   (fun A A' h=>h.1.above (by omega) (by omega)) (fun _=>rfl)
   (fun pre A=>TwP w A bt bc bk a1 a2 a3 a4 k1 k2 k3 k4 t∧BorO A w.heap.size w3.heap.size bt m (Zdu (pre.map f)) (pre.map f).isEmpty)
   (fun c pre A=>False)
   (fun s A A' h ⟨hb,_⟩=>⟨h.1.belowB hb (by omega) (by omega) (by omega) (by omega),h.2.below hb (by omega) (by omega)⟩)
   (fun c s A A' h hb=>h.elim)
   (fun s A A' h hR=>⟨h.1.step hR.1 hR.2,h.2.lrn hR.1 (by omega) (by omega) (by omega) (by omega)⟩)
   (fun s A h=>⟨h.1.town HM.out,h.2.fc⟩)
   ⟨hP3.belowB hb0 (by omega) (by omega) (by omega) (by omega),hO0⟩ ?round ?done ?stop
  case stop=>
   intro D c pre V hD hI hK
   exact hI.elim
  case round=>
   intro l pre x V hl1 hl2 hI hpre
   have hxt:x∈Zb7 t:=(List.mem_filter.1 (hpre.subset (by simp:x∈pre++[x]))).1
   have hxo:=Zfc hxt
   have hxq:PsOk (padP x.1):=(Zuk hxo).ps (by rw[hxo.len];omega)
   obtain⟨yl,hyl⟩:∃yl,Zbr t x.1=some yl:=Option.isSome_iff_exists.1 (Zjm _ _ _ x hxt)
   obtain⟨n0,hn0⟩:∃n:Nat,pAt x.1 m=(n:Int):=⟨(pAt x.1 m).toNat,by have:=(hxo.at_ m).1;omega⟩
   have hn6:n0<6:=by have h1:=(hxo.at_ m).2 hmm;have h2:=hxo.many;omega
   have HH:Hid (Zdu ((pre++[x]).map f)=if (pre.map f).isEmpty=true then bAt yl n0 else (min (Zdu (pre.map f)).1 (bAt yl n0).1,max (Zdu (pre.map f)).2 (bAt yl n0).2)):=LH (by rw[List.map_append,List.map_singleton,Zts,HF0.out];simp only[hyl,hn0,Option.getD_some,Int.toNat_natCast])
   have HNE1:Hid ((pre++[x]).isEmpty=false):=LH (by simp)
   have YE:=LH (fun(U:World) (h:TownW U bt bc bk a1 a2 a3 a4 k1 k2 k3 k4 t 0)=>(show Calls Tryz.prog 82 #[.pointer (some ⟨bt,0,none⟩),psV x.1] U fun e w'=>e=.returned (.tuple #[bnV yl,.bool true])∧Lrn bc bk U w'∧TownW w' bt bc bk a1 a2 a3 a4 k1 k2 k3 k4 t 0 from by
    have:=Zou a1 a2 a3 a4 k1 k2 k3 k4 t bt bc bk 0 (padP x.1) U h HV.out.ok hxq
    rw[Zk7 (Zdq x.1),Zpv (Zdq x.1),hyl] at this
    exact this.mono fun e w' ⟨L,h1,h2,h3⟩=>⟨by rw[h1,h2 _ rfl];rfl,h3⟩))
   obtain⟨xp,xm⟩:=x
   simp only at HH YE hn0
   simp only[encP,psV]
   clear hxt hxo hxq hyl hpre
   generalize Zdu (pre.map f)=s at *
   generalize (pre.map f).isEmpty=fi at *
   obtain⟨sl,sh⟩:=s
   have HI:=LH hI
   clear hI
   gi_wp2
   have hbV:Below V.heap.size V (V.alloc (.cells #[.int .i64 (pAt xp 0),.int .i64 (pAt xp 1),.int .i64 (pAt xp 2),.int .i64 (pAt xp 3),.int .i64 (pAt xp 4),.int .i64 (pAt xp 5)] 109)):=(Below.refl _ _).alloc (Nat.le_refl _) _
   have hI2:TwP w (V.alloc (.cells #[.int .i64 (pAt xp 0),.int .i64 (pAt xp 1),.int .i64 (pAt xp 2),.int .i64 (pAt xp 3),.int .i64 (pAt xp 4),.int .i64 (pAt xp 5)] 109)) bt bc bk a1 a2 a3 a4 k1 k2 k3 k4 t∧BorO (V.alloc (.cells #[.int .i64 (pAt xp 0),.int .i64 (pAt xp 1),.int .i64 (pAt xp 2),.int .i64 (pAt xp 3),.int .i64 (pAt xp 4),.int .i64 (pAt xp 5)] 109)) w.heap.size w3.heap.size bt m (sl,sh) fi:=⟨HI.out.1.belowB hbV (by omega) (by omega) (by omega) (by omega),HI.out.2.below hbV (by omega) (by omega)⟩
   refine⟨Above.of_below hbV,hI2,?_⟩
   intro Wb hs2 hblk hG1 hO1
   have hP1:Wb.heap[V.heap.size]?=some (.cells (Zat xp) 109 (0,0)):=(hblk _ (by omega)).trans (Zac _ _ rfl)
   have hz1:Wb.heap.size=V.heap.size+1:=by rw[hs2]
   clear hblk hs2 hbV hI2 HI
   have ht1:=hG1.town HM.out
   have YW:=LH (YE.out Wb ht1)
   have hXW:X.heap.size≤Wb.heap.size:=by omega
   have t0:=Zaa 0 hO1.ft rfl
   have tz:=lt_of_block hO1.ft
   have c0:=Zaa 0 hP1 rfl
   have c1:=Zaa 1 hP1 rfl
   have c2:=Zaa 2 hP1 rfl
   have c3:=Zaa 3 hP1 rfl
   have c4:=Zaa 4 hP1 rfl
   have c5:=Zaa 5 hP1 rfl
   have cz:=lt_of_block hP1
   simp only[Zat,List.getElem_toArray,List.getElem_cons_zero,List.getElem_cons_succ] at t0 c0 c1 c2 c3 c4 c5
   have HT1:=LH ht1
   have HG1:=LH hG1
   have HO1:=LH hO1
   have HP1:=LH hP1
   clear ht1 hG1 hO1 hP1 YE
   gi_wp2
   refine⟨trivial,rfl,((CallsIn.inRound l (callsIn_wide.2 YW.out)).mono ?_)⟩
   rintro e w5 ⟨rfl,hl5,ht5⟩
   have hO5:=HO1.out.lrn hl5 (by omega) (by omega) (by omega) (by omega)
   have hG5:=HG1.out.step hl5 ht5
   have hP5:=hl5.cellsB HT1.out HP1.out
   have hA5:Above X.heap.size Wb w5:=hl5.above (by omega) (by omega)
   have hs5:=hl5.size
   clear t0 tz c0 c1 c2 c3 c4 c5 cz hl5 ht5 HO1 HG1 HP1 HT1 YW
   gi_upto_region 8 with(fail)
   obtain⟨Z,hZ⟩:∃Z:World,Z=w5.alloc (.cells (Za3 yl) 154):=⟨_,rfl⟩
   rw[show w5.alloc (.cells #[.int .i64 (bAt yl 0).1,.int .i64 (bAt yl 0).2,.int .i64 (bAt yl 1).1,.int .i64 (bAt yl 1).2,.int .i64 (bAt yl 2).1,.int .i64 (bAt yl 2).2,.int .i64 (bAt yl 3).1,.int .i64 (bAt yl 3).2,.int .i64 (bAt yl 4).1,.int .i64 (bAt yl 4).2,.int .i64 (bAt yl 5).1,.int .i64 (bAt yl 5).2] 154)=Z from hZ.symm]
   have hbZ:Below w5.heap.size w5 Z:=by rw[hZ];exact(Below.refl _ _).alloc (Nat.le_refl _) _
   have hBN:Z.heap[w5.heap.size]?=some (.cells (Za3 yl) 154 (0,0)):=by rw[hZ];exact Zac _ _ rfl
   clear hZ
   have hO6:=hO5.below hbZ (by omega) (by omega)
   have hG6:=hG5.belowB hbZ (by omega) (by omega) (by omega) (by omega)
   have hP6:=(hbZ.block _ (lt_of_block hP5)).trans hP5
   have hA6:=hA5.trans (Above.of_below hbZ)
   have hs6:=hbZ.size
   clear hO5 hG5 hP5 hA5 hbZ
   have hy6:=Zfv hBN n0 hn6
   have hp6:=Zcm hP6 m (by omega)
   rw[hn0] at hp6
   generalize hbn:bAt yl n0=yy at hy6 HH
   obtain⟨yo,yh⟩:=yy
   simp only at hy6 HH
   clear hbn
   have hm6:(m:Int)<6:=by omega
   have hm0:(0:Int)≤(m:Int):=by omega
   have hn6i:(n0:Int)<6:=by omega
   have hn0i:(0:Int)≤(n0:Int):=by omega
   have KZ:=LH (fun(U:World) (h:Below Z.heap.size Z U)=>(show Below Z.heap.size Z U∧U.cell? ⟨w.heap.size+1+1,0,none⟩=some (.int .i64 sl)∧U.cell? ⟨w.heap.size+1+1,1,none⟩=some (.int .i64 sh)∧U.cell? ⟨w.heap.size+1,0,none⟩=some (.int .i64 (m:Int))∧U.cell? ⟨V.heap.size,m,none⟩=some (.int .i64 (n0:Int))∧U.cell? ⟨w5.heap.size,n0*2,none⟩=some (.int .i64 yo)∧U.cell? ⟨w5.heap.size,n0*2+1,none⟩=some (.int .i64 yh)∧U.cell? ⟨w3.heap.size+1,0,none⟩=some (.bool fi)∧w.heap.size+1+1<U.heap.size∧V.heap.size<U.heap.size∧w5.heap.size<U.heap.size∧w3.heap.size+1<U.heap.size from by
    have q1:=(h.block _ (lt_of_block hO6.fs)).trans hO6.fs
    have q2:=(h.block _ (lt_of_block hO6.fm)).trans hO6.fm
    have q3:=(h.block _ (lt_of_block hO6.ff)).trans hO6.ff
    have z1:=lt_of_block hP6
    have z2:=lt_of_block hBN
    exact⟨h,Zaa 0 q1 rfl,Zaa 1 q1 rfl,Zaa 0 q2 rfl,Zab h hp6,Zab h hy6.1,Zab h hy6.2,Zaa 0 q3 rfl,lt_of_block q1,Nat.lt_of_lt_of_le z1 h.size,Nat.lt_of_lt_of_le z2 h.size,lt_of_block q3⟩))
   have hZ0:=Zah (Below.refl Z.heap.size Z)
   have HO6:=LH hO6
   have HG6:=LH hG6
   have HP6:=LH hP6
   have HA6:=LH hA6
   clear hO6 hG6 hP6 hBN hy6 hp6 hn0 hA6
   cases fi
   ·have HR2:=LH (show Zdu ((pre++[(xp,xm)]).map f)=(min sl yo,max sh yh) from by rw[HH.out];rfl)
    apply Zfr _ (fun U=>∃U5,Below Z.heap.size Z U5∧U=(U5.setCell ⟨w.heap.size+1+1,0,none⟩ (.int .i64 (min sl yo))).setCell ⟨w.heap.size+1+1,1,none⟩ (.int .i64 (max sh yh)))
    ·refine Zd5 (fun U=>Below Z.heap.size Z U∧U.cell? ⟨w.heap.size+1+1,0,none⟩=some (.int .i64 sl)∧U.cell? ⟨w.heap.size+1+1,1,none⟩=some (.int .i64 sh)∧U.cell? ⟨w.heap.size+1,0,none⟩=some (.int .i64 (m:Int))∧U.cell? ⟨V.heap.size,m,none⟩=some (.int .i64 (n0:Int))∧U.cell? ⟨w5.heap.size,n0*2,none⟩=some (.int .i64 yo)∧U.cell? ⟨w5.heap.size,n0*2+1,none⟩=some (.int .i64 yh)∧U.cell? ⟨w3.heap.size+1,0,none⟩=some (.bool false)∧w.heap.size+1+1<U.heap.size∧V.heap.size<U.heap.size∧w5.heap.size<U.heap.size∧w3.heap.size+1<U.heap.size) 8 ?_ (by kernel_rfl) (Zcg (by kernel_rfl)) (KZ.out _ hZ0) (fun hHeld=>?_)
     ·intro h
      obtain⟨_,_,h⟩:=h
      exact h
     (refine tkZ 0 ?_;simp only[frT])
     (refine tkZ 1 ?_;simp only[frT])
     (refine tkZ 2 ?_;simp only[frT])
     (refine tkZ 3 ?_;simp only[frT])
     (refine tkZ 4 ?_;simp only[frT])
     (refine tkZ 5 ?_;simp only[frT])
     (refine tkZ 6 ?_;simp only[frT])
     refine Zap (rs:=[7]) (by kernel_rfl) (by simp) (AllZ.cons rfl (fun K hK=>?_) AllZ.nil)
     go_simp
     refine(WI0.out sl sh yo yh _).mono ?_
     rintro e w6 ⟨rfl,hb6⟩
     dsimp only
     have hZ6:=hZ0.trans (hb6.mono hZ0.size)
     have hHeld6:=KZ.out _ hZ6
     refine hK.out _ _ (fun _=>hHeld6) ?_
     (try simp only[frT])
     clear hK
     have kk2:=Zad 0 ((hZ6.block _ (lt_of_block HO6.out.fs)).trans HO6.out.fs)
     have kk3:=Zad 1 ((hZ6.block _ (lt_of_block HO6.out.fs)).trans HO6.out.fs)
     obtain⟨-,kk0,kk1,-,-,-,-,-,kkz,-⟩:=hHeld6
     refine Zap (rs:=[8]) (by kernel_rfl) (by simp) (AllZ.cons rfl (fun K hK=>?_) AllZ.nil)
     (go_simp;refine hK.out _ _ (fun h=>absurd rfl h) ?_;(try simp only[frT]);clear hK;refine Zc3 (by kernel_rfl) ?_ _)
     exact⟨rfl,_,hZ6,rfl⟩
    rintro U ⟨U5,hU5,hUe⟩
    have hO7:=((HO6.out.below hU5 (by omega) (by omega)).sets (by omega) (min sl yo,max sh yh))
    rw[←hUe] at hO7
    have hG7:=(((HG6.out.belowB hU5 (by omega) (by omega) (by omega) (by omega)).set (w.heap.size+1+1) 0 (.int .i64 (min sl yo)) (by omega) (by omega) (by omega) (by omega)).set (w.heap.size+1+1) 1 (.int .i64 (max sh yh)) (by omega) (by omega) (by omega) (by omega))
    rw[←hUe] at hG7
    have hA7:=((HA6.out.trans (Above.of_below hU5)).trans (Above.of_set X.heap.size U5 (w.heap.size+1+1) 0 (.int .i64 (min sl yo)) (by omega))).trans (Above.of_set X.heap.size _ (w.heap.size+1+1) 1 (.int .i64 (max sh yh)) (by omega))
    rw[←hUe] at hA7
    have b0:=Zaa 0 hO7.ff rfl
    have bz:=lt_of_block hO7.ff
    have bf:=Zad 0 hO7.ff
    simp only[List.getElem_toArray,List.getElem_cons_zero] at b0
    have HO8:=LH (hO7.setf (by omega) false)
    have HG8:=LH (hG7.set (w3.heap.size+1) 0 (.bool false) (by omega) (by omega) (by omega) (by omega))
    have HA8:=LH (hA7.trans (Above.of_set X.heap.size U (w3.heap.size+1) 0 (.bool false) (by omega)))
    clear hUe hU5 hO7 hG7 hA7 KZ hZ0
    gi_wp2
    exact⟨by rw[←hsz];exact HA8.out,HG8.out,by rw[HR2.out,HNE1.out];exact HO8.out⟩
   ·have HR2:=LH (show Zdu ((pre++[(xp,xm)]).map f)=(yo,yh) from by rw[HH.out];rfl)
    apply Zfr _ (fun U=>∃U5,Below Z.heap.size Z U5∧U=(U5.setCell ⟨w.heap.size+1+1,0,none⟩ (.int .i64 (yo))).setCell ⟨w.heap.size+1+1,1,none⟩ (.int .i64 (yh)))
    ·refine Zd5 (fun U=>Below Z.heap.size Z U∧U.cell? ⟨w.heap.size+1+1,0,none⟩=some (.int .i64 sl)∧U.cell? ⟨w.heap.size+1+1,1,none⟩=some (.int .i64 sh)∧U.cell? ⟨w.heap.size+1,0,none⟩=some (.int .i64 (m:Int))∧U.cell? ⟨V.heap.size,m,none⟩=some (.int .i64 (n0:Int))∧U.cell? ⟨w5.heap.size,n0*2,none⟩=some (.int .i64 yo)∧U.cell? ⟨w5.heap.size,n0*2+1,none⟩=some (.int .i64 yh)∧U.cell? ⟨w3.heap.size+1,0,none⟩=some (.bool true)∧w.heap.size+1+1<U.heap.size∧V.heap.size<U.heap.size∧w5.heap.size<U.heap.size∧w3.heap.size+1<U.heap.size) 8 ?_ (by kernel_rfl) (Zcg (by kernel_rfl)) (KZ.out _ hZ0) (fun hHeld=>?_)
     ·intro h
      obtain⟨_,_,h⟩:=h
      exact h
     (refine tkZ 0 ?_;simp only[frT])
     (refine tkZ 1 ?_;simp only[frT])
     (refine tkZ 2 ?_;simp only[frT])
     (refine tkZ 3 ?_;simp only[frT])
     (refine tkZ 4 ?_;simp only[frT])
     (refine tkZ 5 ?_;simp only[frT])
     (refine tkZ 6 ?_;simp only[frT])
     refine Zap (rs:=[7]) (by kernel_rfl) (by simp) (AllZ.cons rfl (fun K hK=>?_) AllZ.nil)
     go_simp
     refine(WI1.out sl sh yo yh _).mono ?_
     rintro e w6 ⟨rfl,hb6⟩
     dsimp only
     have hZ6:=hZ0.trans (hb6.mono hZ0.size)
     have hHeld6:=KZ.out _ hZ6
     refine hK.out _ _ (fun _=>hHeld6) ?_
     (try simp only[frT])
     clear hK
     have kk2:=Zad 0 ((hZ6.block _ (lt_of_block HO6.out.fs)).trans HO6.out.fs)
     have kk3:=Zad 1 ((hZ6.block _ (lt_of_block HO6.out.fs)).trans HO6.out.fs)
     obtain⟨-,kk0,kk1,-,-,-,-,-,kkz,-⟩:=hHeld6
     refine Zap (rs:=[8]) (by kernel_rfl) (by simp) (AllZ.cons rfl (fun K hK=>?_) AllZ.nil)
     (go_simp;refine hK.out _ _ (fun h=>absurd rfl h) ?_;(try simp only[frT]);clear hK;refine Zc3 (by kernel_rfl) ?_ _)
     exact⟨rfl,_,hZ6,rfl⟩
    rintro U ⟨U5,hU5,hUe⟩
    have hO7:=((HO6.out.below hU5 (by omega) (by omega)).sets (by omega) (yo,yh))
    rw[←hUe] at hO7
    have hG7:=(((HG6.out.belowB hU5 (by omega) (by omega) (by omega) (by omega)).set (w.heap.size+1+1) 0 (.int .i64 (yo)) (by omega) (by omega) (by omega) (by omega)).set (w.heap.size+1+1) 1 (.int .i64 (yh)) (by omega) (by omega) (by omega) (by omega))
    rw[←hUe] at hG7
    have hA7:=((HA6.out.trans (Above.of_below hU5)).trans (Above.of_set X.heap.size U5 (w.heap.size+1+1) 0 (.int .i64 (yo)) (by omega))).trans (Above.of_set X.heap.size _ (w.heap.size+1+1) 1 (.int .i64 (yh)) (by omega))
    rw[←hUe] at hA7
    have b0:=Zaa 0 hO7.ff rfl
    have bz:=lt_of_block hO7.ff
    have bf:=Zad 0 hO7.ff
    simp only[List.getElem_toArray,List.getElem_cons_zero] at b0
    have HO8:=LH (hO7.setf (by omega) false)
    have HG8:=LH (hG7.set (w3.heap.size+1) 0 (.bool false) (by omega) (by omega) (by omega) (by omega))
    have HA8:=LH (hA7.trans (Above.of_set X.heap.size U (w3.heap.size+1) 0 (.bool false) (by omega)))
    clear hUe hU5 hO7 hG7 hA7 KZ hZ0
    gi_wp2
    exact⟨by rw[←hsz];exact HA8.out,HG8.out,by rw[HR2.out,HNE1.out];exact HO8.out⟩
  case done=>
   intro D V hD hI hK
   obtain⟨hG1,hO1⟩:=hI
   rw[←HS0.out] at hO1
   have s0:=Zaa 0 hO1.fs rfl
   have s1:=Zaa 1 hO1.fs rfl
   have sz:=lt_of_block hO1.fs
   have f0:=Zad 0 hO1.fs
   have f1:=Zad 1 hO1.fs
   simp only[List.getElem_toArray,List.getElem_cons_zero,List.getElem_cons_succ] at s0 s1
   have h4:=Zak 1 (.int .i64 q.2) (Zak 0 (.int .i64 q.1) hO1.fs)
   simp only[List.setIfInBounds_toArray,List.set_cons_zero,List.set_cons_succ] at h4
   obtain⟨Z,hZ⟩:∃Z:World,Z=(V.setCell ⟨w.heap.size+1+1,0,none⟩ (.int .i64 q.1)).setCell ⟨w.heap.size+1+1,1,none⟩ (.int .i64 q.2):=⟨_,rfl⟩
   have HZ:=LH hZ
   have hKs:Z.heap[D]?=some (.deferred (some [])):=by rw[hZ,Zae (by omega),Zae (by omega)];exact hK
   have hBZ:Below w.heap.size w Z:=by rw[hZ];exact(hG1.below.setCell (by simp;omega) _).setCell (by simp;omega) _
   have hE:Below w.heap.size w (Z.putObj D (.deferred none)):=hBZ.trans (Zeb _ _ _ _ (by omega))
   rw[←hZ] at h4
   have h5:=(show(Z.putObj D (.deferred none)).heap[w.heap.size+1+1]?=_ from World.putObj_heap_other (by omega)).trans h4
   clear hZ hO1 hG1 h4 hBZ
   go_wp2
   rw[←HZ.out]
   refine⟨by simp,.inl ⟨_,_,rfl,run_takeDeferred hKs,?_⟩⟩
   clear s0 s1 f0 f1 sz
   have s0:=Zaa 0 h5 rfl
   have s1:=Zaa 1 h5 rfl
   simp only[List.getElem_toArray,List.getElem_cons_zero,List.getElem_cons_succ] at s0 s1
   refine⟨.tuple #[.agg #[.int .i64 q.1,.int .i64 q.2],.int .i64 0],?_,rfl,hE⟩
   rw[results_cell_tmp rfl]
   go_simp
end
section
open Go Go.RowKit Go.Shelf
theorem Zbt (Y:World):Y.drew.heap=Y.heap:=rfl
def Zl9 (Q:Exit→Act→World→Prop):Exit→Act→World→Prop
 |.normal,a,w=>Q .normal a w
 |_,_,_=>False
theorem Zgq {P:Program} {C:Code} {Q:Exit→Act→World→Prop} {a:Act} {w:World} (h:C.wp P (Zl9 Q) a w):C.wp P Q a w:=
 Code.wp_mono (fun e a' w' h'=>by
  cases e with
  |normal=>exact h'
  |ret=>exact h'.elim
  |exit id=>exact h'.elim
  |goto t=>exact h'.elim
  |panic c=>exact h'.elim
  |outgrown=>exact h'.elim) h
end
end Go.Proofs.YtklconegomgjaaaGreat
