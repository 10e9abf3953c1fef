/- What is proved here: a region that draws its order, within a round of a range over a function: as elsewhere, under a small post. Over any program. -/
import Derived.Test.YtklconegomgjaaaGreatMidG
import Derived.Test.YtklconegomgjaaaGreatMoLook2G
import Derived.OrdersIn
import Derived.Test.YtklconegomgjaaaGreatKeyG
import Derived.Test.YtklconegomgjaaaGreatProg
import Derived.Test.YtklconegomgjaaaGreatMoFactsG
set_option linter.all false
set_option maxRecDepth 100000
set_option maxHeartbeats 16000000
namespace Go.Proofs.YtklconegomgjaaaGreat
section
open Go Go.RowKit
variable {P:Program} {l:Nat} {Q:Exit→Act→World→Prop}
theorem Zup {row:String} {args:Array Value} {w:World} {R:Value→World→Prop} (h:Rows P row args w R):RowsIn Fence.wide 0 P row args w R:=by
 intro c cs _
 obtain⟨v,w',r,s⟩:=h c cs
 exact⟨v,w',r,stepsIn_wide.2 s⟩
theorem Oper.wpIn_of_wp {o:Oper} {a:Act} {w:World} {K:Act→World→Prop} (hd:∀c,o.op≠.defer c) (h:o.wp P a w K Q):o.wpIn (Fence.wide.inRound l) 0 P a w K Q:=by
 unfold Oper.wpIn
 refine⟨fun _ _=>trivial,?_⟩
 rw[Oper.semAt_eq _ _ _ hd]
 unfold Oper.wp at h
 generalize (execOp a.eval o).run P w=r at h
 cases r with
 |ok x w'=>
  cases x with
  |value v=>exact h
  |skip=>exact h
  |defer d=>exact h
  |enter f args=>exact⟨fun h=>(by cases h),CallsIn.inRound l (callsIn_wide.2 h)⟩
  |row row args=>exact⟨fun h=>(by cases h),Zup h⟩
  |round l f tmps assign body=>exact h.elim
  |_=>exact h.elim
 |halt x w'=>cases x<;>exact h
theorem Zod {ops:Array Oper} (hL:¬LetsOut Q) (hd:∀o∈ops.toList,∀c,o.op≠.defer c) {i:Nat} {a:Act} {w:World} {K:Act→World→Prop} (h:wpOp P ops Q i K a w):wpOpIn (Fence.wide.inRound l) 0 P ops Q i K a w:=by
 unfold wpOp at h
 unfold wpOpIn
 cases ho:ops[i]? with
 |none=>rw[ho] at h;exact h
 |some o=>
  rw[ho] at h
  simp only at h ⊢
  by_cases hw:Region.wanted o (yielded ops a.tmps)=true
  ·rw[if_pos hw] at h ⊢
   have hm:o∈ops.toList:=by
    have:=Array.mem_of_getElem? ho
    simpa using this
   rcases h with h|⟨_,h⟩
   ·exact Oper.wpIn_of_wp (hd o hm) h
   ·exact absurd h hL
  ·rw[if_neg hw] at h ⊢
   exact⟨fun _ _=>trivial,h⟩
theorem Zeq {ops:Array Oper} {md:Region.Mode} (hL:¬LetsOut Q) (hd:∀o∈ops.toList,∀c,o.op≠.defer c):∀(fuel:Nat) (listed:Array Bool) (a:Act) (w:World),wpAny P md ops Q fuel listed a w→wpAnyIn (Fence.wide.inRound l) 0 P md ops Q fuel listed a w
 |0,_,_,_,h=>h
 |fuel+1,_,_,_,h=>⟨h.1,fun i hi=>Zod hL hd (wpOp_mono (fun a' w' h'=>Zeq hL hd fuel _ a' w' h') (h.2 i hi))⟩
def Z17 (ops:Array Oper):Bool:=ops.toList.all fun o=>match o.op with|.defer _=>false|_=>true
theorem Zcg {ops:Array Oper} (h:Z17 ops=true):∀o∈ops.toList,∀c,o.op≠.defer c:=by
 intro o ho c hc
 unfold Z17 at h
 rw[List.all_eq_true] at h
 have:=h o ho
 rw[hc] at this
 cases this
theorem Zbz {id:Nat} {ops:Array Oper} {a:Act} {w:World} (S':World→Prop) (hL:¬LetsOut Q) (hm:P.follows .mixedOrders=true) (hd:∀o∈ops.toList,∀c,o.op≠.defer c) (hS:S' w.drew)
  (h:S' w.drew→wpAnyH P .any ops Q S' ops.size (Array.replicate ops.size false) a w.drew):(Code.region id ops true).wpIn (Fence.wide.inRound l) 0 P Q a w:=
 wpIn_region_any hm (Zeq hL hd _ _ _ _ (wpAny_of_held _ _ _ _ (h hS)))
theorem Zeh {W V:World} (row:Option Nat) (h:Below W.heap.size W V):W.grownBy V row:=⟨h.os,h.tape,h.output,h.size,fun i hi _=>h.block i hi⟩
end
section
open Go Go.RowKit Go.Shelf
attribute [local go_sem] Oper.semAt_some
def LBlk (W:World) (bm:Nat) (ac az aw ap:Option Addr) (cc cz cw cp:Nat) (m:MoList) (c bo:Nat) (E:List Int):Prop:=
 W.heap[bm]?=some (.cells ((([.slice ac m.claimants.length cc,.slice az m.sums.length cz,.slice aw m.words.length cw,.slice ap m.paid.length cp,.int .i64 (c:Int),.map (some bo)]:List Value)++E.map (Value.int .i64)).toArray) 126 (0,0))
theorem LBlk.cells {W:World} {bm:Nat} {ac az aw ap:Option Addr} {cc cz cw cp:Nat} {m:MoList} {c bo:Nat} {E:List Int} (h:LBlk W bm ac az aw ap cc cz cw cp m c bo E):
  W.cell? ⟨bm,0,none⟩=some (.slice ac m.claimants.length cc)∧W.cell? ⟨bm,1,none⟩=some (.slice az m.sums.length cz)∧W.cell? ⟨bm,2,none⟩=some (.slice aw m.words.length cw)∧W.cell? ⟨bm,3,none⟩=some (.slice ap m.paid.length cp)∧
  W.cell? ⟨bm,4,none⟩=some (.int .i64 (c:Int))∧W.cell? ⟨bm,5,none⟩=some (.map (some bo)):=
 ⟨Zaa 0 h rfl,Zaa 1 h rfl,Zaa 2 h rfl,Zaa 3 h rfl,Zaa 4 h rfl,Zaa 5 h rfl⟩
theorem LBlk.free {W:World} {bm:Nat} {ac az aw ap:Option Addr} {cc cz cw cp:Nat} {m:MoList} {c bo:Nat} {E:List Int} (h:LBlk W bm ac az aw ap cc cz cw cp m c bo E) (j:Nat):W.frozen? ⟨bm,j,none⟩=false:=Zad j h
theorem LBlk.set4 {W:World} {bm:Nat} {ac az aw ap:Option Addr} {cc cz cw cp:Nat} {m:MoList} {c bo:Nat} {E:List Int} (h:LBlk W bm ac az aw ap cc cz cw cp m c bo E) (d:Nat):LBlk (W.setCell ⟨bm,4,none⟩ (.int .i64 (d:Int))) bm ac az aw ap cc cz cw cp m d bo E:=by
 have:=Zak 4 (.int .i64 (d:Int)) h
 unfold LBlk
 rw[this]
 simp
theorem LBlk.set6 {W:World} {bm:Nat} {ac az aw ap:Option Addr} {cc cz cw cp:Nat} {m:MoList} {c bo:Nat} {E:List Int} (h:LBlk W bm ac az aw ap cc cz cw cp m c bo E) (j:Nat) (x:Int):LBlk (W.setCell ⟨bm,6+j,none⟩ (.int .i64 x)) bm ac az aw ap cc cz cw cp m c bo (E.set j x):=by
 have:=Zak (6+j) (.int .i64 x) h
 unfold LBlk
 rw[this]
 congr 2
 simp only[List.setIfInBounds_toArray]
 rw[List.set_append_right _ _ (by simp)]
 simp
theorem LBlk.cell6 {W:World} {bm:Nat} {ac az aw ap:Option Addr} {cc cz cw cp:Nat} {m:MoList} {c bo:Nat} {E:List Int} (h:LBlk W bm ac az aw ap cc cz cw cp m c bo E) (j:Nat) {x:Int} (hj:E[j]?=some x):W.cell? ⟨bm,6+j,none⟩=some (.int .i64 x):=
 Zaa (6+j) h (by
  simp only[List.getElem?_toArray]
  rw[List.getElem?_append_right (by simp)]
  simp[hj])
theorem LBlk.same {W W':World} {bm:Nat} {ac az aw ap:Option Addr} {cc cz cw cp:Nat} {m:MoList} {c bo:Nat} {E:List Int} (h:LBlk W bm ac az aw ap cc cz cw cp m c bo E) (e:W'.heap[bm]?=W.heap[bm]?):LBlk W' bm ac az aw ap cc cz cw cp m c bo E:=e.trans h
theorem LBlk.lt {W:World} {bm:Nat} {ac az aw ap:Option Addr} {cc cz cw cp:Nat} {m:MoList} {c bo:Nat} {E:List Int} (h:LBlk W bm ac az aw ap cc cz cw cp m c bo E):bm<W.heap.size:=lt_of_block h
theorem LBlk.look {W:World} {bm:Nat} {ac az aw ap:Option Addr} {cc cz cw cp:Nat} {m:MoList} {c bo:Nat} {E:List Int} (h:LBlk W bm ac az aw ap cc cz cw cp m c bo E) (hl:ListC W ac az aw ap cc cz cw cp m):LookC W bm ac az aw ap cc cz cw cp m c:=
 ⟨hl,h.cells.1,h.cells.2.1,h.cells.2.2.1,h.cells.2.2.2.1,h.cells.2.2.2.2.1⟩
@[reducible] def four (m:MoList) (t:List Int):Value:=.agg #[.int .i64 (Zb6 m (pad 5 t) 0 m.sums.length),.int .i64 (Zb6 m (pad 5 t) 1 m.sums.length),.int .i64 (Zb6 m (pad 5 t) 2 m.sums.length),.int .i64 (Zb6 m (pad 5 t) 3 m.sums.length)]
def ents (m:MoList) (T:List (List Int)):List (Value × Value):=T.map fun t=>(five (pad 5 t),four m t)
structure LookW (W:World) (bm bo:Nat) (ac az aw ap:Option Addr) (cc cz cw cp:Nat) (m:MoList) (c:Nat):Prop where
 blk:LBlk W bm ac az aw ap cc cz cw cp m c bo (Zc9 m (Zao (Zam m c)))
 map:MapV W Tryz.prog 183 bo (ents m (Zao (Zam m c)))
theorem Qab:∀e:Nat,e<16→∀x:Nat,x<4→bits BinOp.or .i64 (e:Int) (IntKind.i64.wrap (2^x))=((e|||(1 <<< x):Nat):Int):=by decide +kernel
theorem Z65:∀c:Nat,c<64→∀k:Nat,k<6→bits BinOp.or .i64 (c:Int) (wrap64 (2^k))=((c|||(1 <<< k):Nat):Int):=by decide +kernel
theorem Ztd (ac az aw ap:Option Addr) (cc cz cw cp:Nat) (m:MoList) (more:Nat) (w:World) (hm:ListC w ac az aw ap cc cz cw cp m) (hv:Valid m) (hmo:more<64):
  Calls Tryz.prog 107 #[(.agg #[.slice ac m.claimants.length cc,.slice az m.sums.length cz,.slice aw m.words.length cw,.slice ap m.paid.length cp]),.int .i64 (more:Int)] w fun e w'=>∃bm bo:Nat,e=.returned (.pointer (some ⟨bm,0,none⟩))∧LookW w' bm bo ac az aw ap cc cz cw cp m (Zau m more)∧Below w.heap.size w w':=by
 have l1:=hm.okc.len
 have l2:=hm.okz.len
 have l3:=hm.okw.len
 have v3:=hv.nw
 have hW0:=Below.refl (w.heap.size+1) (w.alloc (.cells #[.slice ac m.claimants.length cc,.slice az m.sums.length cz,.slice aw m.words.length cw,.slice ap m.paid.length cp] 54))
 have hmm:=@run_makeMap Tryz.prog
 refine(callsIn_wide (n:=0)).1 ?_
 refine callsIn_of_wp_marks Tryz.func107 rfl trivial ?_ rfl
 simp only[Tryz.ntmps107,List.size_toArray,List.length_cons,List.length_nil,Nat.reduceAdd,Nat.reduceSub,Array.replicate_succ,Array.replicate_zero,List.push_toArray,List.append_toArray,List.nil_append,List.cons_append]
 refine(wpIn_wide (n:=0)).2 ?_
 go_wp2
 go_loopw [18] (fun i wr=>∃k:Nat,k≤m.words.length∧i=.int .i64 k∧LBlk wr (w.heap.size+1+1) ac az aw ap cc cz cw cp m (Zb4 m more k) (w.heap.size+1) [0,0,0,0,0]∧Below (w.heap.size+1+1) (((w.alloc (.cells #[.slice ac m.claimants.length cc,.slice az m.sums.length cz,.slice aw m.words.length cw,.slice ap m.paid.length cp] 54))).alloc (.map #[] 0)) wr∧wr.heap[w.heap.size+1+1+1]?=some (.cells #[.pointer (some ⟨w.heap.size+1+1,0,none⟩)] 120 (0,0))) (fun i _=>m.words.length-(intOf i).toNat)
 case atStart=>exact⟨0,Nat.zero_le _,rfl,(heap_alloc_old _ _ (by simp)).trans (Zbj _ _ (by simp)),((Below.refl _ _).alloc (by simp) _).alloc (by simp) _,Zbj _ _ (by simp)⟩
 case round=>
  obtain⟨k,hk,rfl,hL,hbr,hp⟩:=hrel
  have hbw:Below w.heap.size w wr:=(((Below.refl _ w).alloc (Nat.le_refl _) _).alloc (by simp) _).trans (hbr.mono (by omega))
  by_cases hlt:k<m.words.length
  ·obtain⟨b,off,rfl,hb,h1,h2,h3,h4,h5⟩:=(hm.mono hbw).words k hlt
   have HY:=LH (Zl5 m more k hlt)
   have HN:=LH (Zm5 m more k hlt)
   have hc:=Zgx m more hmo k (by omega)
   have c4:=hL.cells.2.2.2.2.1
   have f4:=hL.free 4
   have p0:=Zaa 0 hp rfl
   simp only[List.getElem_toArray,List.getElem_cons_zero] at p0
   have hbm:=hL.lt
   have hbp:=lt_of_block hp
   have HO:=LH (Z65 (Zb4 m more k) hc k (by omega))
   have HS:=LH (hL.set4 (Zb4 m more k|||(1 <<< k)))
   generalize m.words[k]=wd at h1 h2 h3 h4 h5 HY HN
   obtain⟨says,sum,of,back,came⟩:=wd
   simp only at h1 h2 h3 h4 h5 HY HN
   cases came
   ·go_wp2
    go_roundw
    case rel=>exact⟨k+1,by omega,by go_num,by rw[HN.out rfl];exact hL.same (heap_alloc_old _ _ hbm),hbr.alloc (by have:=hbr.size;simp at this;omega) _,(heap_alloc_old _ _ hbp).trans hp⟩
    case measure=>simp[intOf];omega
   ·go_wp2
    apply Zdh _ (fun W'=>LBlk W' (w.heap.size+1+1) ac az (some ⟨b,off,none⟩) ap cc cz cw cp m (Zb4 m more (k+1)) (w.heap.size+1) [0,0,0,0,0]∧Below (w.heap.size+1+1) ((w.alloc (.cells #[.slice ac m.claimants.length cc,.slice az m.sums.length cz,.slice (some ⟨b,off,none⟩) m.words.length cw,.slice ap m.paid.length cp] 54)).alloc (.map #[] 0)) W'∧W'.heap[w.heap.size+1+1+1]?=some (.cells #[.pointer (some ⟨w.heap.size+1+1,0,none⟩)] 120 (0,0)))
    ·(focus go_region)
     all_goals
      refine⟨rfl,?_⟩
      rw[HO.out,HY.out trivial]
      exact⟨HS.out.same (heap_alloc_old _ _ (by simpa using hbm)),Zah ((hbr.setCell (Nat.le_refl _) _).alloc (by have:=hbr.size;simp at this ⊢;omega) _),(heap_alloc_old _ _ (by simpa using hbp)).trans ((Below.heap_setCell _ _ _ _ (by simp)).trans hp)⟩
    rintro W' ⟨hL',hbr',hp'⟩
    go_wp2
    go_roundw
    case rel=>exact⟨k+1,by omega,by go_num,hL',hbr',hp'⟩
    case measure=>simp[intOf];omega
  ·obtain rfl:k=m.words.length:=by omega
   obtain⟨wo,hwo⟩:∃wo:World,wo=wr:=⟨_,rfl⟩
   subst hwo
   have TR:=LH (Zvm (w.heap.size+1+1) wo)
   have p0:=Zaa 0 hp rfl
   simp only[List.getElem_toArray,List.getElem_cons_zero] at p0
   go_wp2_with (go_at_call 146;go_must ((with_reducible refine TR.out.mono ?_);rintro e w3 ⟨rfl,rfl⟩;dsimp only))
   have hx:(wo.alloc (.cells #[.pointer (some ⟨w.heap.size+1+1,0,none⟩)] 120)).heap[wo.heap.size]?=some (.cells #[.pointer (some ⟨w.heap.size+1+1,0,none⟩)] 120 (0,0)):=Zbj _ _ rfl
   have hc:Zau m more<64:=Zgx m more hmo _ (by omega)
   have hM0:MapV (((w.alloc (.cells #[.slice ac m.claimants.length cc,.slice az m.sums.length cz,.slice aw m.words.length cw,.slice ap m.paid.length cp] 54))).alloc (.map #[] 0)) Tryz.prog 183 (w.heap.size+1) []:=by have:=MapV.made ((w.alloc (.cells #[.slice ac m.claimants.length cc,.slice az m.sums.length cz,.slice aw m.words.length cw,.slice ap m.paid.length cp] 54))) Tryz.prog 183;simpa using this
   have hMp:MapV wo Tryz.prog 183 (w.heap.size+1) []:=hM0.same (hbr.block (w.heap.size+1) (by omega))
   have hbm:=hL.lt
   have hbp:=lt_of_block hp
   have hW1:Below (w.heap.size+1) (w.alloc (.cells #[.slice ac m.claimants.length cc,.slice az m.sums.length cz,.slice aw m.words.length cw,.slice ap m.paid.length cp] 54)) wo:=((Below.refl _ _).alloc (by simp) _).trans (hbr.mono (by omega))
   refine(wpIn_wide (n:=0)).1 ?_
   refine Zhe (gf:=175) (lb:=#[.pointer (some ⟨wo.heap.size,0,none⟩)]) rfl (enters_of Tryz.func175 (by kernel_rfl) rfl)
    (Zvq ac az aw ap cc cz cw cp m (Zau m more) (w.heap.size+1+1) wo.heap.size wo.heap.size hv hc (Nat.le_refl _) _ hx) (Below.refl _ _) (by simp) (fun _=>rfl)
    (fun pre W=>LBlk W (w.heap.size+1+1) ac az aw ap cc cz cw cp m (Zau m more) (w.heap.size+1) (Zc9 m pre)∧MapV W Tryz.prog 183 (w.heap.size+1) (ents m pre)∧W.heap[w.heap.size+1+1+1]?=some (.cells #[.pointer (some ⟨w.heap.size+1+1,0,none⟩)] 120 (0,0))∧Below (w.heap.size+1) (w.alloc (.cells #[.slice ac m.claimants.length cc,.slice az m.sums.length cz,.slice aw m.words.length cw,.slice ap m.paid.length cp] 54)) W)
    (fun s A A' h hb=>⟨h.1.same (hb.block _ hbm),h.2.1.below hb (by omega),(hb.block _ hbp).trans h.2.2.1,h.2.2.2.trans (hb.mono (by omega))⟩)
    (fun s A h=>h.1.look (hm.mono (Zaf h.2.2.2)))
    ⟨(by rw[Zyj];exact hL.same (heap_alloc_old _ _ hbm)),hMp.same (heap_alloc_old _ _ (by omega)),(heap_alloc_old _ _ hbp).trans hp,hW1.alloc (by omega) _⟩ ?round ?done
   case round=>
    intro l pre x W hl1 hl2 hI hpre
    obtain⟨hL,hM,hp,hbr⟩:=hI
    have hxm:x∈Zao (Zam m (Zau m more)):=by
     obtain⟨r,hr⟩:=hpre
     rw[←hr];simp
    have hxl:x.length=m.sums.length:=Zcw (Zam m (Zau m more)) x hxm
    have hxb:=Zgh (Zam m (Zau m more)) x hxm
    have v1:=hv.nc
    have v2:=hv.nz
    obtain⟨t0,t1,t2,t3,t4,hTT⟩:=Zpz (pad 5 x) (Zfz 5 x (by omega))
    simp only[hTT,five,List.getElem?_cons_zero,List.getElem?_cons_succ,Option.getD_some]
    gi_wp2
    refine⟨Above.of_below ((Below.refl _ _).alloc (Nat.le_refl _) _),⟨hL.same (heap_alloc_old _ _ hL.lt),hM.same (heap_alloc_old _ _ hM.lt),(heap_alloc_old _ _ (lt_of_block hp)).trans hp,hbr.alloc (by have:=hL.lt;omega) _⟩,?_⟩
    intro Wb hsz hblk hIb
    have hT8:BlkI Wb W.heap.size 183 [t0,t1,t2,t3,t4]:=(hblk _ (by omega)).trans (Zbj _ _ rfl)
    have hAb:Wb.heap.size=W.heap.size+1:=by rw[hsz];simp
    clear hsz hblk hL hM hp hbr
    obtain⟨hL,hM,hp,hbr⟩:=hIb
    have hmW:=hL.look (hm.mono (Zaf hbr))
    have hxr:∀j,j<m.sums.length→0≤(pad 5 x)[j]?.getD 0∧(pad 5 x)[j]?.getD 0<4:=fun j hj=>by
     rw[Zfw 5 x j (by omega),List.getElem?_eq_getElem (by omega)]
     have hb:=hxb _ (List.getElem_mem (l:=x) (n:=j) (by omega))
     have hb2:x[j]<(m.claimants.length:Int):=hb.2
     exact⟨hb.1,by simp only[Option.getD_some];omega⟩
    have hdue:=fun(V:World) (hV:LookC V (w.heap.size+1+1) ac az aw ap cc cz cw cp m (Zau m more))=>Z59 ac az aw ap cc cz cw cp m (Zau m more) (w.heap.size+1+1) (pad 5 x) t0 t1 t2 t3 t4 hTT hxr V hV hv
    have hokx:∀y∈pad 5 x,okI y:=fun y hy=>by
     unfold pad at hy
     rcases List.mem_append.1 hy with hy|hy
     ·have hb:=hxb y hy
      have hb2:y<(m.claimants.length:Int):=hb.2
      exact Zxh (by omega) (by omega)
     ·have:=List.eq_of_mem_replicate hy
      subst this
      exact Zxh (by decide) (by decide)
    rw[hTT] at hokx
    obtain⟨kl,hkey⟩:=Z9l t0 t1 t2 t3 t4 (hokx _ (by simp)) (hokx _ (by simp)) (hokx _ (by simp)) (hokx _ (by simp)) (hokx _ (by simp))
    have hnew:∀q∈ents m pre,q.1≠.agg #[.int .i64 t0,.int .i64 t1,.int .i64 t2,.int .i64 t3,.int .i64 t4]:=fun q hq e=>by
     unfold ents at hq
     obtain⟨t,ht,rfl⟩:=List.mem_map.1 hq
     have hne:=Zx6 (Zam m (Zau m more)) pre x hpre t ht
     have htm:t∈Zao (Zam m (Zau m more)):=by
      obtain⟨r,hr⟩:=hpre
      rw[←hr];simp[ht]
     have htl:t.length=m.sums.length:=Zcw (Zam m (Zau m more)) t htm
     obtain⟨s0,s1,s2,s3,s4,hSS⟩:=Zpz (pad 5 t) (Zfz 5 t (by omega))
     simp only[five,hSS,List.getElem?_cons_zero,List.getElem?_cons_succ,Option.getD_some] at e
     simp at e
     obtain⟨rfl,rfl,rfl,rfl,rfl⟩:=e
     exact hne (Z21 5 t x (by omega) (by rw[hSS,hTT]))
    have hroom:(ents m pre).length<maxLen:=by
     have h1:=hpre.length_le
     have h2:=Zja (Zam m (Zau m more)) v1 m.sums.length v2
     have h3:(Zao (Zam m (Zau m more))).length≤1024:=h2
     have hmx:maxLen=9223372036854775807:=rfl
     simp[ents] at h1 ⊢
     omega
    have hUP:=fun(V:World) (hV:MapV V Tryz.prog 183 (w.heap.size+1) (ents m pre))=>hV.update Z35 Zq3 hroom hkey hnew (val:=.agg #[.int .i64 (Zb6 m (pad 5 x) 0 m.sums.length),.int .i64 (Zb6 m (pad 5 x) 1 m.sums.length),.int .i64 (Zb6 m (pad 5 x) 2 m.sums.length),.int .i64 (Zb6 m (pad 5 x) 3 m.sums.length)])
    clear hokx hroom hnew hkey
    have HDU:=LH hdue
    have HUP:=LH hUP
    have HEN:Hid (ents m (pre++[x])=ents m pre++[(.agg #[.int .i64 t0,.int .i64 t1,.int .i64 t2,.int .i64 t3,.int .i64 t4],four m x)]):=by
     show _=_
     unfold ents
     rw[List.map_append]
     simp only[List.map_cons,List.map_nil]
     rw[show five (pad 5 x)=.agg #[.int .i64 t0,.int .i64 t1,.int .i64 t2,.int .i64 t3,.int .i64 t4] from by unfold five;rw[hTT];rfl]
    have HTT:=LH hTT
    clear hdue hUP hTT hxr
    have p0:=Zaa 0 hp rfl
    simp only[List.getElem_toArray,List.getElem_cons_zero] at p0
    have c5:=hL.cells.2.2.2.2.2
    have d0:=Zaa 0 hT8 rfl
    have d1:=Zaa 1 hT8 rfl
    have d2:=Zaa 2 hT8 rfl
    have d3:=Zaa 3 hT8 rfl
    have d4:=Zaa 4 hT8 rfl
    simp only[List.map_cons,List.map_nil,List.getElem_toArray,List.getElem_cons_succ,List.getElem_cons_zero] at d0 d1 d2 d3 d4
    have hbmb:=hL.lt
    have hwr:wo.heap.size<W.heap.size:=by simp at hl1;omega
    have KE:Hid (∀V,Wb.grownBy V (some (w.heap.size+1))→(fun V=>Wb.grownBy V (some (w.heap.size+1))∧V.cell? ⟨w.heap.size+1+1+1,0,none⟩=some (.pointer (some ⟨w.heap.size+1+1,0,none⟩))∧V.cell? ⟨w.heap.size+1+1,5,none⟩=some (.map (some (w.heap.size+1)))∧V.cell? ⟨W.heap.size,0,none⟩=some (.int .i64 t0)∧V.cell? ⟨W.heap.size,1,none⟩=some (.int .i64 t1)∧V.cell? ⟨W.heap.size,2,none⟩=some (.int .i64 t2)∧V.cell? ⟨W.heap.size,3,none⟩=some (.int .i64 t3)∧V.cell? ⟨W.heap.size,4,none⟩=some (.int .i64 t4)) V):=LH (fun V hg=>⟨hg,hg.cell p0 (by simp<;>omega),hg.cell c5 (by simp<;>omega),hg.cell d0 (by simp<;>omega),hg.cell d1 (by simp<;>omega),hg.cell d2 (by simp<;>omega),hg.cell d3 (by simp<;>omega),hg.cell d4 (by simp<;>omega)⟩)
    have hg0:Wb.grownBy Wb.drew (some (w.heap.size+1)):=⟨rfl,rfl,rfl,Nat.le_refl _,fun _ _ _=>rfl⟩
    have HD:=LH (HDU.out Wb.drew (hmW.mono (Zah (Below.refl _ _))))
    gi_wp2
    apply Zfr _ (fun V=>Wb.grownBy V (some (w.heap.size+1))∧MapV V Tryz.prog 183 (w.heap.size+1) (ents m (pre++[x])))
    ·refine Zbz (fun V=>Wb.grownBy V (some (w.heap.size+1))∧V.cell? ⟨w.heap.size+1+1+1,0,none⟩=some (.pointer (some ⟨w.heap.size+1+1,0,none⟩))∧V.cell? ⟨w.heap.size+1+1,5,none⟩=some (.map (some (w.heap.size+1)))∧V.cell? ⟨W.heap.size,0,none⟩=some (.int .i64 t0)∧V.cell? ⟨W.heap.size,1,none⟩=some (.int .i64 t1)∧V.cell? ⟨W.heap.size,2,none⟩=some (.int .i64 t2)∧V.cell? ⟨W.heap.size,3,none⟩=some (.int .i64 t3)∧V.cell? ⟨W.heap.size,4,none⟩=some (.int .i64 t4)) ?_ (by kernel_rfl) (Zcg (by kernel_rfl)) (KE.out _ hg0) (fun hHeld=>?_)
     ·intro h
      obtain⟨_,_,h⟩:=h
      exact h
     (refine tkH 0 ?_;simp only[frT])
     (refine tkH 1 ?_;simp only[frT])
     (refine tkH 2 ?_;simp only[frT])
     (refine tkH 3 ?_;simp only[frT])
     (refine tkH 4 ?_;simp only[frT])
     (refine tkH 5 ?_;simp only[frT])
     (refine tkH 6 ?_;simp only[frT])
     (refine wpAnyH_ready (rs:=[7]) (by kernel_rfl) (by simp) ?_;refine AllReadyH.cons rfl (fun K hK=>?_) AllReadyH.nil;go_simp)
     go_wp2_with (go_at_call 147;go_must ((with_reducible refine HD.out.mono ?_);rintro e w3 ⟨rfl,hb3⟩;dsimp only))
     have hb3':Below Wb.heap.size Wb w3:=⟨hb3.os,hb3.tape,hb3.output,hb3.size,hb3.block⟩
     have hg1:Wb.grownBy w3 (some (w.heap.size+1)):=Zeh _ hb3'
     have hM3:MapV w3 Tryz.prog 183 (w.heap.size+1) (ents m pre):=hM.same (hb3'.block _ hM.lt)
     refine hK.out _ _ (KE.out _ hg1) (fun hHeld=>?_)
     (try simp only[frT])
     clear hK
     obtain⟨V2,hrun,hMV2,hg2,hz2⟩:=HUP.out _ hM3
     (refine wpAnyH_ready (rs:=[8]) (by kernel_rfl) (by simp) ?_;refine AllReadyH.cons rfl (fun K hK=>?_) AllReadyH.nil;go_simp)
     refine hK.out _ _ (KE.out _ (hg1.andThen hg2 (fun j e=>.inr (by simpa using e)))) (fun hHeld=>?_)
     (try simp only[frT])
     refine wpAnyH_done (by kernel_rfl) ⟨rfl,hg1.andThen hg2 (fun j e=>.inr (by simpa using e)),?_⟩ _
     rw[HEN.out]
     exact hMV2
    rintro V ⟨hgV,hMV⟩
    have q1:=hgV.cell (Zaj hbr 1 _ rfl) (by simp)
    have qlt:=Zag q1
    have hLV:LBlk V (w.heap.size+1+1) ac az aw ap cc cz cw cp m (Zau m more) (w.heap.size+1) (Zdc m pre x 0):=by
     rw[Zq6]
     exact hL.same (hgV.block _ hL.lt (by simp<;>omega))
    have hR0:LBlk V (w.heap.size+1+1) ac az aw ap cc cz cw cp m (Zau m more) (w.heap.size+1) (Zdc m pre x 0)∧MapV V Tryz.prog 183 (w.heap.size+1) (ents m (pre++[x]))∧V.heap[w.heap.size+1+1+1]?=some (.cells #[.pointer (some ⟨w.heap.size+1+1,0,none⟩)] 120 (0,0))∧Below (w.heap.size+1) (w.alloc (.cells #[.slice ac m.claimants.length cc,.slice az m.sums.length cz,.slice aw m.words.length cw,.slice ap m.paid.length cp] 54)) V∧Above wo.heap.size Wb V∧BlkI V W.heap.size 183 [t0,t1,t2,t3,t4]:=⟨hLV,hMV,(hgV.block _ (lt_of_block hp) (by simp<;>omega)).trans hp,hbr.grown hgV (by omega) (fun k e=>by have:=Option.some.inj e;omega),Above.of_grown hgV (fun r e=>by have:=Option.some.inj e;omega),hT8.same (hgV.block _ hT8.lt (by simp<;>omega))⟩
    clear d0 d1 d2 d3 d4 p0 c5 KE hg0 HD hLV
    gi_wp2
    gi_loopw [49] (fun i vr=>∃j:Nat,j≤m.sums.length∧i=.int .i64 j∧LBlk vr (w.heap.size+1+1) ac az aw ap cc cz cw cp m (Zau m more) (w.heap.size+1) (Zdc m pre x j)∧MapV vr Tryz.prog 183 (w.heap.size+1) (ents m (pre++[x]))∧vr.heap[w.heap.size+1+1+1]?=some (.cells #[.pointer (some ⟨w.heap.size+1+1,0,none⟩)] 120 (0,0))∧Below (w.heap.size+1) (w.alloc (.cells #[.slice ac m.claimants.length cc,.slice az m.sums.length cz,.slice aw m.words.length cw,.slice ap m.paid.length cp] 54)) vr∧Above wo.heap.size Wb vr∧BlkI vr W.heap.size 183 [t0,t1,t2,t3,t4]) (fun i _=>m.sums.length-(intOf i).toNat)
    case atStart=>exact⟨0,Nat.zero_le _,rfl,hR0⟩
    case round=>
     clear hR0
     obtain⟨j,hj,rfl,hL1,hM1,hp1,hbr1,hab1,hT1⟩:=hrel
     by_cases hlt1:j<m.sums.length
     ·obtain⟨xj,hxj⟩:∃xj:Nat,x[j]?.getD 0=(xj:Int):=by
       rw[List.getElem?_eq_getElem (by omega)]
       exact Int.eq_ofNat_of_zero_le (hxb _ (List.getElem_mem (l:=x) (n:=j) (by omega))).1
      have hxj4:xj<4:=by
       have hb:=hxb _ (List.getElem_mem (l:=x) (n:=j) (by omega))
       rw[List.getElem?_eq_getElem (by omega)] at hxj
       simp only[Option.getD_some] at hxj
       have hb2:x[j]<(m.claimants.length:Int):=hb.2
       omega
      have hp0':=Zaa 0 hp1 rfl
      simp only[List.getElem_toArray,List.getElem_cons_zero] at hp0'
      have htj:wr.cell? ⟨W.heap.size,j,none⟩=some (.int .i64 (xj:Int)):=by
       rw[←HTT.out] at hT1
       refine Zaa j hT1 ?_
       simp only[List.getElem?_toArray,List.getElem?_map]
       rw[Zfw 5 x j (by omega),List.getElem?_eq_getElem (by omega)]
       rw[List.getElem?_eq_getElem (by omega)] at hxj
       simp only[Option.getD_some] at hxj
       simp[hxj]
      have he16:Zcu pre j<16:=Zxb j pre (fun t ht=>by
       have htm:t∈Zao (Zam m (Zau m more)):=by
        obtain⟨r,hr⟩:=hpre
        rw[←hr];simp[ht]
       have htl:t.length=m.sums.length:=Zcw (Zam m (Zau m more)) t htm
       have hb:=Zgh (Zam m (Zau m more)) t htm t[j] (List.getElem_mem (by omega))
       have hb2:t[j]<(m.claimants.length:Int):=hb.2
       rw[List.getElem?_eq_getElem (by omega)]
       simp only[Option.getD_some]
       omega)
      have hev:=hL1.cell6 j (Zuv m pre x j (by omega) hlt1)
      have hfr:=hL1.free (6+j)
      have HOR:=LH (Qab (Zcu pre j) he16 xj hxj4)
      have hSU:=Zpy m pre x j (by omega) hlt1
      rw[hxj,Int.toNat_natCast] at hSU
      have HSU:=LH hSU
      clear hSU hxj
      have hbm1:=hL1.lt
      have hT1lt:=hT1.lt
      have hj5:j<5:=by omega
      have hj5i:(j:Int)<5:=by omega
      have hx4i:(xj:Int)<64:=by omega
      have KE:Hid (∀V,wr.grownBy V (some (w.heap.size+1+1))→(fun V=>wr.grownBy V (some (w.heap.size+1+1))∧V.cell? ⟨w.heap.size+1+1+1,0,none⟩=some (.pointer (some ⟨w.heap.size+1+1,0,none⟩))∧V.cell? ⟨W.heap.size,j,none⟩=some (.int .i64 (xj:Int))) V):=LH (fun V hg=>⟨hg,hg.cell hp0' (by simp<;>omega),hg.cell htj (by simp<;>omega)⟩)
      have hg0:wr.grownBy wr.drew (some (w.heap.size+1+1)):=⟨rfl,rfl,rfl,Nat.le_refl _,fun _ _ _=>rfl⟩
      gi_wp2
      apply Zfr _ (fun V=>LBlk V (w.heap.size+1+1) ac az aw ap cc cz cw cp m (Zau m more) (w.heap.size+1) (Zdc m pre x (j+1))∧MapV V Tryz.prog 183 (w.heap.size+1) (ents m (pre++[x]))∧V.heap[w.heap.size+1+1+1]?=some (.cells #[.pointer (some ⟨w.heap.size+1+1,0,none⟩)] 120 (0,0))∧Below (w.heap.size+1) (w.alloc (.cells #[.slice ac m.claimants.length cc,.slice az m.sums.length cz,.slice aw m.words.length cw,.slice ap m.paid.length cp] 54)) V∧Above wo.heap.size Wb V∧BlkI V W.heap.size 183 [t0,t1,t2,t3,t4])
      ·refine Zbz (fun V=>wr.grownBy V (some (w.heap.size+1+1))∧V.cell? ⟨w.heap.size+1+1+1,0,none⟩=some (.pointer (some ⟨w.heap.size+1+1,0,none⟩))∧V.cell? ⟨W.heap.size,j,none⟩=some (.int .i64 (xj:Int))) ?_ (by kernel_rfl) (Zcg (by kernel_rfl)) (KE.out _ hg0) (fun hHeld=>?_)
       ·intro h
        obtain⟨_,_,h⟩:=h
        exact h
       (refine tkH 0 ?_;simp only[frT])
       (refine tkH 1 ?_;simp only[frT])
       (refine tkH 2 ?_;simp only[frT])
       (refine tkH 3 ?_;simp only[frT])
       (refine tkH 4 ?_;simp only[frT])
       (refine tkH 6 ?_;simp only[frT])
       (refine tkH 7 ?_;simp only[frT])
       (refine tkH 8 ?_;simp only[frT])
       (refine tkH 9 ?_;simp only[frT])
       (refine tkH 11 ?_;simp only[frT])
       (refine tkH 12 ?_;simp only[frT])
       (refine wpAnyH_ready (rs:=[5]) (by kernel_rfl) (by simp) ?_;refine AllReadyH.cons rfl (fun K hK=>?_) AllReadyH.nil;go_simp)
       refine hK.out _ _ (KE.out _ hg0) (fun hHeld=>?_)
       (try simp only[frT])
       clear hK
       (refine tkH 10 ?_;simp only[frT])
       (refine tkH 13 ?_;simp only[frT])
       (refine wpAnyH_ready (rs:=[14]) (by kernel_rfl) (by simp) ?_;refine AllReadyH.cons rfl (fun K hK=>?_) AllReadyH.nil;go_simp)
       rw[HOR.out]
       have hgs:wr.grownBy (wr.setCell ⟨w.heap.size+1+1,6+j,none⟩ (.int .i64 ((Zcu pre j|||(1 <<< xj):Nat):Int))).drew (some (w.heap.size+1+1)):=⟨rfl,rfl,rfl,by simp,fun i _ hne=>Below.heap_setCell _ _ _ _ (fun e=>hne (by rw[e]))⟩
       refine hK.out _ _ (KE.out _ hgs) (fun hHeld=>?_)
       (try simp only[frT])
       refine wpAnyH_done (by kernel_rfl) ⟨rfl,?_,hM1.same (hgs.block _ hM1.lt (by simp<;>omega)),(hgs.block _ (lt_of_block hp1) (by simp<;>omega)).trans hp1,Zah (hbr1.setCell (by simp) _),hab1.trans (Above.of_grown hgs (fun r e=>by have:=Option.some.inj e;omega)),hT1.same (hgs.block _ hT1.lt (by simp<;>omega))⟩ _
       rw[HSU.out]
       exact hL1.set6 j _
      rintro V2 hR2
      gi_wp2
      go_roundw
      case rel=>exact⟨j+1,by omega,by go_num,hR2⟩
      case measure=>simp[intOf];omega
     ·obtain rfl:j=m.sums.length:=by omega
      rw[Zt3] at hL1
      gi_wp2
      exact⟨hab1,hL1,hM1,hp1,hbr1⟩
   case done=>
    intro D W hD hI hK
    obtain⟨hL,hM,hp,hbr⟩:=hI
    have p0:=Zaa 0 hp rfl
    simp only[List.getElem_toArray,List.getElem_cons_zero] at p0
    go_wp2
    refine⟨by simp,.inl ⟨_,_,rfl,run_takeDeferred hK,?_⟩⟩
    have hD2:wo.heap.size<D:=by simp at hD;omega
    refine⟨_,results_tmp rfl _ _ _,w.heap.size+1+1,w.heap.size+1,rfl,⟨hL.same (World.putObj_heap_other (by omega)),hM.same (World.putObj_heap_other (by omega))⟩,?_⟩
    exact(Zaf hbr).grown (grownBy_putObj' W D _) (by have:=hbr.size;simp at this;omega) (fun k e=>by have:=Option.some.inj e;omega)
end
section
open Go Go.RowKit
def outB (lo hi n:Int):Bool:=decide (n<lo)||decide (hi<n)
theorem Zo0 {α:Type} {f:α→Bool} {l:List α} {k:Nat} (h:k<l.length) (hf:f l[k]=true):l.any f=true:=by
 rw[List.any_eq_true];exact⟨_,List.getElem_mem h,hf⟩
theorem Zlc {α:Type} {f:α→Bool} {l:List α} (h:∀j (_:j<l.length),f l[j]=false):l.any f=false:=by
 rw[List.any_eq_false]
 intro x hx
 obtain⟨i,hi,rfl⟩:=List.getElem_of_mem hx
 simp[h i hi]
theorem Zrd (n lo hi:Int) (p q:Nat) (w:World) (h1:w.cell? ⟨p,0,none⟩=some (.int .i64 lo)) (h2:w.cell? ⟨q,0,none⟩=some (.int .i64 hi)):
  Calls Tryz.prog 160 #[.int .i64 n,.pointer (some ⟨p,0,none⟩),.pointer (some ⟨q,0,none⟩)] w fun e w'=>e=.returned (.bool (outB lo hi n))∧w'=w:=by
 have hp:=Zag h1
 have hq:=Zag h2
 have HO:Hid (outB lo hi n=(decide (n<lo)||decide (hi<n))):=rfl
 generalize outB lo hi n=r at HO ⊢
 by_cases a1:n<lo
 ·go_enter Tryz.func160,Tryz.ntmps160
  go_wp2
  go_ret
  exact⟨Zaq (by rw[HO.out];simp[a1]),rfl⟩
 ·by_cases a2:hi<n
  all_goals
   go_enter Tryz.func160,Tryz.ntmps160
   go_wp2
   go_ret
   exact⟨Zaq (by rw[HO.out];simp[a1,a2]<;>omega),rfl⟩
theorem Zmf (a:Option Addr) (l:List Int) (c:Nat) (lo hi:Int) (p q:Nat) (w:World) (hl:l.length≤9223372036854775807) (hi':Zaw w a l) (h1:w.cell? ⟨p,0,none⟩=some (.int .i64 lo)) (h2:w.cell? ⟨q,0,none⟩=some (.int .i64 hi)):
  Calls Tryz.prog 164 #[.slice a l.length c,.func (.func 160) #[] #[.pointer (some ⟨p,0,none⟩),.pointer (some ⟨q,0,none⟩)]] w fun e w'=>∃k:Int,e=.returned (.int .i64 k)∧Hid (decide (0≤k)=l.any (outB lo hi))∧w'=w:=by
 go_enter Tryz.func164,Tryz.ntmps164
 go_wp2
 go_loop [8] (fun i=>∃k:Nat,k≤l.length∧i=.int .i64 k∧Hid (∀j (_:j<k) (h:j<l.length),outB lo hi l[j]=false)) (fun i=>l.length-(intOf i).toNat)
 case atStart=>exact⟨0,Nat.zero_le _,rfl,LH (fun j h=>absurd h (Nat.not_lt_zero j))⟩
 case round=>
  obtain⟨k,hk,rfl,HR⟩:=hrel
  by_cases hlt:k<l.length
  ·obtain⟨b,off,rfl,hb,hx⟩:=hi' k hlt
   have B:=Zrd l[k] lo hi p q w h1 h2
   have HT:=LH (fun(h:outB lo hi l[k]=true)=>(Zo0 hlt h:l.any (outB lo hi)=true))
   have HN:=LH (fun(h:outB lo hi l[k]=false)=>show ∀j (_:j<k+1) (h:j<l.length),outB lo hi l[j]=false from fun j hj hjl=>if hjk:j<k then HR.out j hjk hjl else (by have e:j=k:=(by omega);subst e;exact h))
   generalize outB lo hi l[k]=br at B HT HN
   have B:=LH B
   cases br
   ·go_wp2_with (go_at_call 160;go_must (refine B.out.mono ?_;rintro e w2 ⟨rfl,hw2⟩;obtain rfl:=hw2.symm;dsimp only))
    go_round
    case rel=>exact⟨k+1,by omega,by go_num,LH (HN.out (by trivial))⟩
    case measure=>simp[intOf];omega
   ·go_wp2_with (go_at_call 160;go_must (refine B.out.mono ?_;rintro e w2 ⟨rfl,hw2⟩;obtain rfl:=hw2.symm;dsimp only))
    go_ret
    exact⟨_,rfl,LH (by rw[HT.out (by trivial)];simp),rfl⟩
  ·obtain rfl:k=l.length:=by omega
   go_wp2
   go_ret
   exact⟨_,rfl,LH (by rw[Zlc (fun j h=>HR.out j h h)];simp),rfl⟩
theorem Zjk (a:Option Addr) (l:List Int) (c:Nat) (lo hi:Int) (p q:Nat) (w:World) (hl:l.length≤9223372036854775807) (hi':Zaw w a l) (h1:w.cell? ⟨p,0,none⟩=some (.int .i64 lo)) (h2:w.cell? ⟨q,0,none⟩=some (.int .i64 hi)):
  Calls Tryz.prog 122 #[.slice a l.length c,.func (.func 160) #[] #[.pointer (some ⟨p,0,none⟩),.pointer (some ⟨q,0,none⟩)]] w fun e w'=>e=.returned (.bool (l.any (outB lo hi)))∧w'=w:=by
 have I:=LH (Zmf a l c lo hi p q w hl hi' h1 h2)
 go_enter Tryz.func122,Tryz.ntmps122
 by_cases ha:l.any (outB lo hi)=true
 ·go_wp2_with (go_at_call 164;go_must (refine I.out.mono ?_;rintro e w2 ⟨k,rfl,hk,hw2⟩;obtain rfl:=hw2.symm;have hk2:0≤k:=of_decide_eq_true (hk.out.trans ha);dsimp only))
  go_ret
  exact⟨rfl,rfl⟩
 ·go_wp2_with (go_at_call 164;go_must (refine I.out.mono ?_;rintro e w2 ⟨k,rfl,hk,hw2⟩;obtain rfl:=hw2.symm;have hk2:¬0≤k:=of_decide_eq_false (hk.out.trans (Bool.eq_false_iff.2 ha));dsimp only))
  go_ret
  exact⟨rfl,rfl⟩
theorem Zm0 (a:Option Addr) (l:List Int) (c:Nat) (lo hi:Int) (w:World) (hl:l.length≤9223372036854775807) (hi':Zaw w a l):
  Calls Tryz.prog 113 #[.int .i64 lo,.int .i64 hi,.slice a l.length c] w fun e w'=>e=.returned (.bool (l.any (outB lo hi)))∧Below w.heap.size w w':=by
 have g1:((w.alloc (.cells #[.int .i64 lo] 3)).alloc (.cells #[.int .i64 hi] 3)).cell? ⟨w.heap.size,0,none⟩=some (.int .i64 lo):=Zaa 0 (Zhr ((Below.refl (w.heap.size+1) _).alloc (by simp) _) (by omega) (Ze3 w _)) rfl
 have g2:((w.alloc (.cells #[.int .i64 lo] 3)).alloc (.cells #[.int .i64 hi] 3)).cell? ⟨w.heap.size+1,0,none⟩=some (.int .i64 hi):=by simp
 have C:=LH (Zjk a l c lo hi _ _ _ hl (hi'.mono (((Below.refl _ w).alloc (Nat.le_refl _) _).alloc (by simp) _)) g1 g2)
 clear g1 g2
 go_enter Tryz.func113,Tryz.ntmps113
 go_wp2_with (go_at_call 122;go_must (refine C.out.mono ?_;rintro e w2 ⟨rfl,hw2⟩;obtain rfl:=hw2.symm;dsimp only))
 go_ret
 exact⟨rfl,by go_grown⟩
theorem Zrt (n lo hi:Int) (p q:Nat) (w:World) (h1:w.cell? ⟨p,0,none⟩=some (.int .i64 lo)) (h2:w.cell? ⟨q,0,none⟩=some (.int .i64 hi)):
  Calls Tryz.prog 123 #[.int .i64 n,.pointer (some ⟨p,0,none⟩),.pointer (some ⟨q,0,none⟩)] w fun e w'=>e=.returned (.bool (outB lo hi n))∧w'=w:=by
 have hp:=Zag h1
 have hq:=Zag h2
 have HO:Hid (outB lo hi n=(decide (n<lo)||decide (hi<n))):=rfl
 generalize outB lo hi n=r at HO ⊢
 by_cases a1:n<lo
 ·go_enter Tryz.func123,Tryz.ntmps123
  go_wp2
  go_ret
  exact⟨Zaq (by rw[HO.out];simp[a1]),rfl⟩
 ·by_cases a2:hi<n
  all_goals
   go_enter Tryz.func123,Tryz.ntmps123
   go_wp2
   go_ret
   exact⟨Zaq (by rw[HO.out];simp[a1,a2]<;>omega),rfl⟩
theorem Zmd (a:Option Addr) (l:List Int) (c:Nat) (lo hi:Int) (p q:Nat) (w:World) (hl:l.length≤9223372036854775807) (hi':Zaw w a l) (h1:w.cell? ⟨p,0,none⟩=some (.int .i64 lo)) (h2:w.cell? ⟨q,0,none⟩=some (.int .i64 hi)):
  Calls Tryz.prog 164 #[.slice a l.length c,.func (.func 123) #[] #[.pointer (some ⟨p,0,none⟩),.pointer (some ⟨q,0,none⟩)]] w fun e w'=>∃k:Int,e=.returned (.int .i64 k)∧Hid (decide (0≤k)=l.any (outB lo hi))∧w'=w:=by
 go_enter Tryz.func164,Tryz.ntmps164
 go_wp2
 go_loop [8] (fun i=>∃k:Nat,k≤l.length∧i=.int .i64 k∧Hid (∀j (_:j<k) (h:j<l.length),outB lo hi l[j]=false)) (fun i=>l.length-(intOf i).toNat)
 case atStart=>exact⟨0,Nat.zero_le _,rfl,LH (fun j h=>absurd h (Nat.not_lt_zero j))⟩
 case round=>
  obtain⟨k,hk,rfl,HR⟩:=hrel
  by_cases hlt:k<l.length
  ·obtain⟨b,off,rfl,hb,hx⟩:=hi' k hlt
   have B:=Zrt l[k] lo hi p q w h1 h2
   have HT:=LH (fun(h:outB lo hi l[k]=true)=>(Zo0 hlt h:l.any (outB lo hi)=true))
   have HN:=LH (fun(h:outB lo hi l[k]=false)=>show ∀j (_:j<k+1) (h:j<l.length),outB lo hi l[j]=false from fun j hj hjl=>if hjk:j<k then HR.out j hjk hjl else (by have e:j=k:=(by omega);subst e;exact h))
   generalize outB lo hi l[k]=br at B HT HN
   have B:=LH B
   cases br
   ·go_wp2_with (go_at_call 123;go_must (refine B.out.mono ?_;rintro e w2 ⟨rfl,hw2⟩;obtain rfl:=hw2.symm;dsimp only))
    go_round
    case rel=>exact⟨k+1,by omega,by go_num,LH (HN.out (by trivial))⟩
    case measure=>simp[intOf];omega
   ·go_wp2_with (go_at_call 123;go_must (refine B.out.mono ?_;rintro e w2 ⟨rfl,hw2⟩;obtain rfl:=hw2.symm;dsimp only))
    go_ret
    exact⟨_,rfl,LH (by rw[HT.out (by trivial)];simp),rfl⟩
  ·obtain rfl:k=l.length:=by omega
   go_wp2
   go_ret
   exact⟨_,rfl,LH (by rw[Zlc (fun j h=>HR.out j h h)];simp),rfl⟩
theorem Zje (a:Option Addr) (l:List Int) (c:Nat) (lo hi:Int) (p q:Nat) (w:World) (hl:l.length≤9223372036854775807) (hi':Zaw w a l) (h1:w.cell? ⟨p,0,none⟩=some (.int .i64 lo)) (h2:w.cell? ⟨q,0,none⟩=some (.int .i64 hi)):
  Calls Tryz.prog 122 #[.slice a l.length c,.func (.func 123) #[] #[.pointer (some ⟨p,0,none⟩),.pointer (some ⟨q,0,none⟩)]] w fun e w'=>e=.returned (.bool (l.any (outB lo hi)))∧w'=w:=by
 have I:=LH (Zmd a l c lo hi p q w hl hi' h1 h2)
 go_enter Tryz.func122,Tryz.ntmps122
 by_cases ha:l.any (outB lo hi)=true
 ·go_wp2_with (go_at_call 164;go_must (refine I.out.mono ?_;rintro e w2 ⟨k,rfl,hk,hw2⟩;obtain rfl:=hw2.symm;have hk2:0≤k:=of_decide_eq_true (hk.out.trans ha);dsimp only))
  go_ret
  exact⟨rfl,rfl⟩
 ·go_wp2_with (go_at_call 164;go_must (refine I.out.mono ?_;rintro e w2 ⟨k,rfl,hk,hw2⟩;obtain rfl:=hw2.symm;have hk2:¬0≤k:=of_decide_eq_false (hk.out.trans (Bool.eq_false_iff.2 ha));dsimp only))
  go_ret
  exact⟨rfl,rfl⟩
theorem Zi7 (a:Option Addr) (l:List Int) (c:Nat) (lo hi:Int) (w:World) (hl:l.length≤9223372036854775807) (hi':Zaw w a l):
  Calls Tryz.prog 76 #[.int .i64 lo,.int .i64 hi,.slice a l.length c] w fun e w'=>e=.returned (.bool (l.any (outB lo hi)))∧Below w.heap.size w w':=by
 have g1:((w.alloc (.cells #[.int .i64 lo] 3)).alloc (.cells #[.int .i64 hi] 3)).cell? ⟨w.heap.size,0,none⟩=some (.int .i64 lo):=Zaa 0 (Zhr ((Below.refl (w.heap.size+1) _).alloc (by simp) _) (by omega) (Ze3 w _)) rfl
 have g2:((w.alloc (.cells #[.int .i64 lo] 3)).alloc (.cells #[.int .i64 hi] 3)).cell? ⟨w.heap.size+1,0,none⟩=some (.int .i64 hi):=by simp
 have C:=LH (Zje a l c lo hi _ _ _ hl (hi'.mono (((Below.refl _ w).alloc (Nat.le_refl _) _).alloc (by simp) _)) g1 g2)
 clear g1 g2
 go_enter Tryz.func76,Tryz.ntmps76
 go_wp2_with (go_at_call 122;go_must (refine C.out.mono ?_;rintro e w2 ⟨rfl,hw2⟩;obtain rfl:=hw2.symm;dsimp only))
 go_ret
 exact⟨rfl,by go_grown⟩
theorem Zvl (lo hi n:Int):outB lo hi n=!inB n lo hi:=by
 unfold outB inB
 rw[Bool.eq_iff_iff]
 simp
theorem Zay (x lo hi:Int) (a:Nat) (w:World) (h:w.cell? ⟨a,0,none⟩=some (.int .i64 x)):
  Calls Tryz.prog 113 #[.int .i64 lo,.int .i64 hi,.slice (some ⟨a,0,none⟩) 1 1] w fun e w'=>e=.returned (.bool (!inB x lo hi))∧Below w.heap.size w w':=by
 have:=Zm0 (some ⟨a,0,none⟩) [x] 1 lo hi w (by simp) (fun i hi=>by have e:i=0:=(by simp at hi;omega);subst e;exact⟨a,0,rfl,Zag h,by simpa using h⟩)
 simpa[Zvl] using this
end
end Go.Proofs.YtklconegomgjaaaGreat
