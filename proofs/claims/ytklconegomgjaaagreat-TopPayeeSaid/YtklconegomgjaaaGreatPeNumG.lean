/- What is proved here: sound strings as keys; what a book that is looked at knows, while it is looked at and behind it. No condition. -/
import Derived.Test.YtklconegomgjaaaGreatEaCanG
import Derived.Test.YtklconegomgjaaaGreatEaChkG
import Derived.WideKeyArr
import Derived.Test.YtklconegomgjaaaGreatPnBaseG
import Derived.Test.YtklconegomgjaaaGreatMoLook2G
import Derived.Test.YtklconegomgjaaaGreatMidG
set_option linter.all false
set_option maxRecDepth 100000
set_option maxHeartbeats 16000000
namespace Go.Proofs.YtklconegomgjaaaGreat
section
open Go Go.RowKit
theorem Zjy:Maps.Keyed Tryz.prog 95:=Maps.Keyed.of_law (deep_law (m:=3) (by omega) (by kernel_rfl) (by kernel_rfl) (by kernel_rfl))
theorem Zh9:Tryz.prog.underlying 142=some (.map 95 3):=by kernel_rfl
theorem Zej (w:World):(zeroValue 3).run Tryz.prog w=.ok (.int .i64 0) w:=by kernel_rfl
theorem Zid (n:Int) (h:0≤n) (h2:n<64000):(Lit.int .i64 n).wf=true:=by
 unfold Lit.wf
 have e1:IntKind.min .i64=-9223372036854775808:=by decide
 have e2:IntKind.max .i64=9223372036854775807:=by decide
 simp only[e1,e2,Bool.and_eq_true,decide_eq_true_eq]
 omega
theorem Z7o (a b c d e f:Int) (ha:0≤a∧a<64000) (hb:0≤b∧b<64000) (hc:0≤c∧c<64000) (hd:0≤d∧d<64000) (he:0≤e∧e<64000) (hf:0≤f∧f<64000):∃l,keyOf Tryz.prog 95 (.agg #[.int .i64 a,.int .i64 b,.int .i64 c,.int .i64 d,.int .i64 e,.int .i64 f])=some l:=by
 have h1:(match Tryz.prog.underlying 95 with|some (.struct fs)=>(fs.toList.map fun f=>(f.type,f.offset))==[(3,0),(93,1)]&&fs.all (fun f=>f.name != "_")|_=>false)=true:=by kernel_rfl
 have h2:Tryz.prog.keyType 95=true:=by kernel_rfl
 have h3:Value.formed Tryz.prog 95 (.agg #[.int .i64 a,.int .i64 b,.int .i64 c,.int .i64 d,.int .i64 e,.int .i64 f])=true:=by kernel_rfl
 have h4:Tryz.prog.underlying 3=some (.int .i64):=by kernel_rfl
 have h5:Tryz.prog.cellsOf 3=1:=by kernel_rfl
 have h6:Tryz.prog.cellsOf 95=6:=by kernel_rfl
 have h8:Tryz.prog.cellsOf 93=5:=by kernel_rfl
 have h9:Tryz.prog.underlying 93=some (.array 5 3):=by kernel_rfl
 obtain⟨n,h7⟩:∃n,Tryz.prog.types.size=n+1+1:=⟨Tryz.prog.types.size-2,by kernel_rfl⟩
 cases hu:Tryz.prog.underlying 95 with
 |none=>rw[hu] at h1;cases h1
 |some kd=>
  rw[hu] at h1
  cases kd with
  |struct fs=>
   simp only[Bool.and_eq_true,beq_iff_eq] at h1
   obtain⟨g1,g2⟩:=h1
   have e1:∀(m:Nat) (x:Int),0≤x∧x<64000→Tryz.prog.keyLits (m+1) 3 [.int .i64 x]=some [.int .i64 x]:=fun m x hx=>by
    unfold Program.keyLits
    simp only[h4,Zid x hx.1 hx.2,and_self,if_true]
   have e3:Tryz.prog.keyLits (n+1+1) 93 [.int .i64 b,.int .i64 c,.int .i64 d,.int .i64 e,.int .i64 f]=some [.int .i64 b,.int .i64 c,.int .i64 d,.int .i64 e,.int .i64 f]:=by
    unfold Program.keyLits
    rw[h9]
    simp only[h8,h5,List.length_cons,List.length_nil,Nat.zero_add,Nat.reduceAdd,if_true]
    rw[show List.range 5=[0,1,2,3,4] from rfl]
    simp only[List.mapM_cons,List.mapM_nil,Nat.zero_mul,Nat.one_mul,Nat.reduceMul,List.drop_zero,List.drop_succ_cons,List.take_succ_cons,List.take_zero,e1 n b hb,e1 n c hc,e1 n d hd,e1 n e he,e1 n f hf]
    rfl
   unfold keyOf
   rw[hu]
   simp only[h2,h3,Bool.and_self,if_true,h7]
   unfold Program.keyLits
   rw[hu]
   have g3:(Value.agg #[.int .i64 a,.int .i64 b,.int .i64 c,.int .i64 d,.int .i64 e,.int .i64 f]).cells.toList=[.int .i64 a,.int .i64 b,.int .i64 c,.int .i64 d,.int .i64 e,.int .i64 f]:=rfl
   rw[g3]
   obtain⟨L⟩:=fs
   simp only at g1 g2 ⊢
   match L,g1 with
   |[f0,f1],g1=>
    simp only[List.map_cons,List.map_nil,List.cons.injEq,Prod.mk.injEq,and_true] at g1
    obtain⟨⟨t0,o0⟩,t1,o1⟩:=g1
    simp only[h6,List.length_cons,List.length_nil,Nat.zero_add,Nat.reduceAdd,g2,and_self,if_true,List.mapM_cons,List.mapM_nil,t0,o0,t1,o1,h5,h8,List.drop_zero,List.drop_succ_cons,List.take_succ_cons,List.take_zero,e1 (n+1) a ha,e3]
    exact⟨_,rfl⟩
  |_=>simp at h1
def Zhx (S:Nat) (h:List Int):Prop:=h.length≤5∧∀x∈h,0≤x∧x<(S:Int)
theorem Ze8 {S:Nat} (hS:S≤4) {h:List Int} (ho:Zhx S h) (i:Nat):0≤hrd h i∧hrd h i<64000:=by
 unfold hrd
 by_cases hi:i<h.length
 ·rw[List.getElem?_eq_getElem hi,Option.getD_some]
  have:=ho.2 _ (List.getElem_mem hi)
  omega
 ·rw[List.getElem?_eq_none (by omega)]
  simp
theorem Z9w {S:Nat} (hS:S≤4) {h:List Int} (ho:Zhx S h):∃l,keyOf Tryz.prog 95 (Zb8 h)=some l:=
 Z7o _ _ _ _ _ _ (by have:=ho.1;omega) (Ze8 hS ho 0) (Ze8 hS ho 1) (Ze8 hS ho 2) (Ze8 hS ho 3) (Ze8 hS ho 4)
theorem Znl {g h:List Int} (hg:g.length≤5) (hh:h.length≤5) (e:Zb8 g=Zb8 h):g=h:=by
 simp only[Zb8,Value.agg.injEq,Array.mk.injEq,List.cons.injEq,Value.int.injEq,true_and,and_true] at e
 obtain⟨e0,e1,e2,e3,e4,e5⟩:=e
 refine List.ext_getElem (by omega) fun i h1 h2=>?_
 have key:hrd g i=hrd h i:=by
  obtain rfl|rfl|rfl|rfl|rfl:i=0∨i=1∨i=2∨i=3∨i=4:=by omega
  all_goals assumption
 unfold hrd at key
 rw[List.getElem?_eq_getElem h1,List.getElem?_eq_getElem h2] at key
 simpa using key
theorem Zhs {b:EaB} (hv:EaValid b) {i:Nat} (hi:i<b.spells.length) {h:List Int} (hh:h∈Zck b i):Zhx b.sounds.toNat h:=Zh1 hv hi hh
def Zcz (b:EaB) (k:Nat) (pre:List (List Int)) (h:List Int):Nat:=Zdi (fun i=>(Zck b i).contains h) k|||(if pre.contains h=true then 2^k else 0)
def Zha (b:EaB) (k:Nat) (pre:List (List Int)) (T:List (Value × Value)):Prop:=
 ∃E:List (List Int),T=E.map (fun h=>(Zb8 h,Value.int .i64 (Zcz b k pre h:Int)))∧E.Nodup∧∀h,h∈E↔(∃i,i<k∧h∈Zck b i)∨h∈pre
def Z6w (b:EaB) (T:List (Value × Value)):Prop:=
 ∃E:List (List Int),T=E.map (fun h=>(Zb8 h,Value.int .i64 (ofN b h:Int)))∧E.Nodup∧∀h,h∈E↔∃i,i<b.spells.length∧h∈Zck b i
theorem Z07 (b:EaB):Zha b 0 [] []:=⟨[],rfl,List.nodup_nil,fun h=>by simp⟩
theorem Zyl {b:EaB} {k:Nat} {T:List (Value × Value)} (h:Zha b k (Zck b k) T):Zha b (k+1) [] T:=by
 obtain⟨E,rfl,hn,hm⟩:=h
 refine⟨E,?_,hn,fun g=>?_⟩
 ·refine List.map_congr_left fun g _=>?_
  unfold Zcz
  rw[Zdi]
  simp
 ·rw[hm]
  constructor
  ·rintro(⟨i,h1,h2⟩|h1)
   ·exact .inl ⟨i,by omega,h2⟩
   ·exact .inl ⟨k,by omega,h1⟩
  ·rintro(⟨i,h1,h2⟩|h1)
   ·by_cases e:i=k
    ·subst e;exact .inr h2
    ·exact .inl ⟨i,by omega,h2⟩
   ·cases h1
theorem Z4f {b:EaB} {T:List (Value × Value)} (h:Zha b b.spells.length [] T):Z6w b T:=by
 obtain⟨E,rfl,hn,hm⟩:=h
 refine⟨E,?_,hn,fun g=>?_⟩
 ·refine List.map_congr_left fun g _=>?_
  unfold Zcz ofN
  simp
 ·rw[hm]
  simp
theorem Z94 {b:EaB} {k:Nat} (hk:k<5) (pre:List (List Int)) (h:List Int):Zcz b k pre h<32:=by
 have h1:=Zgf (fun i=>(Zck b i).contains h) k
 have h2:2^k≤2^4:=Nat.pow_le_pow_right (by omega) (by omega)
 unfold Zcz
 refine Nat.or_lt_two_pow (n:=5) (by omega) ?_
 split
 ·omega
 ·decide
theorem Z32 {b:EaB} {k:Nat} {pre:List (List Int)} {x:List Int}:Zcz b k (pre++[x]) x=Zcz b k pre x|||2^k:=by
 unfold Zcz
 have h1:(pre++[x]).contains x=true:=by simp
 rw[if_pos h1]
 split
 ·rw[Nat.or_assoc,Nat.or_self]
 ·rw[Nat.or_zero]
theorem Z7c {b:EaB} {k:Nat} {pre:List (List Int)} {x h:List Int} (e:h≠x):Zcz b k (pre++[x]) h=Zcz b k pre h:=by
 unfold Zcz
 have h1:(pre++[x]).contains h=pre.contains h:=by
  rw[Bool.eq_iff_iff]
  simp[e]
 rw[h1]
theorem Zii {b:EaB} (hv:EaValid b) {k:Nat} (hk:k<b.spells.length) {pre:List (List Int)} {x:List Int} (hx:x∈Zck b k) (hpre:∀y∈pre,y∈Zck b k) {T:List (Value × Value)} (h:Zha b k pre T):
  (∃(j:Nat),T[j]?=some (Zb8 x,Value.int .i64 (Zcz b k pre x:Int))∧Zha b k (pre++[x]) (T.set j (Zb8 x,Value.int .i64 ((Zcz b k pre x|||2^k:Nat):Int)))) ∨
  ((∀p∈T,p.1≠Zb8 x)∧Zcz b k pre x=0∧Zha b k (pre++[x]) ((T++[(Zb8 x,Value.int .i64 0)]).set T.length (Zb8 x,Value.int .i64 ((0|||2^k:Nat):Int)))):=by
 obtain⟨E,rfl,hn,hm⟩:=h
 have hxo:=Zhs hv hk hx
 have hEo:∀g∈E,g.length≤5:=fun g hg=>by
  rcases(hm g).1 hg with⟨i,h1,h2⟩|h1
  ·exact(Zhs hv (by omega) h2).1
  ·exact(Zhs hv hk (hpre g h1)).1
 by_cases hxE:x∈E
 ·obtain⟨j,hj,rfl⟩:=List.getElem_of_mem hxE
  refine .inl ⟨j,by rw[List.getElem?_map,List.getElem?_eq_getElem hj];rfl,E,?_,hn,fun g=>?_⟩
  ·rw[←Z32]
   refine List.ext_getElem (by simp) fun i h1 h2=>?_
   rw[List.getElem_set]
   split
   ·next e=>subst e;simp
   ·next e=>
    have h1':i<E.length:=by simpa using h1
    have hne:E[i]≠E[j]:=by
     have hp:=List.pairwise_iff_getElem.1 hn
     rcases Nat.lt_or_gt_of_ne e with g|g
     ·exact fun e2=>hp j i hj h1' g e2.symm
     ·exact hp i j h1' hj g
    have hmn:=Z7c (b:=b) (k:=k) (pre:=pre) hne
    rw[List.getElem_map,List.getElem_map]
    simp only[hmn]
  ·rw[hm,List.mem_append,List.mem_singleton]
   constructor
   ·rintro(h1|h1)
    ·exact .inl h1
    ·exact .inr (.inl h1)
   ·rintro(h1|h1|rfl)
    ·exact .inl h1
    ·exact .inr h1
    ·exact(hm _).1 hxE
 ·have hz:Zcz b k pre x=0:=by
   unfold Zcz
   have h1:Zdi (fun i=>(Zck b i).contains x) k=0:=by
    apply Nat.eq_of_testBit_eq
    intro i
    rw[Zcx,Nat.zero_testBit]
    by_cases hi:i<k
    ·have:(Zck b i).contains x=false:=by
      rw[Bool.eq_false_iff]
      intro hc
      exact hxE ((hm x).2 (.inl ⟨i,hi,by simpa using hc⟩))
     simp only[this,Bool.and_false]
    ·simp[hi]
   have h2:pre.contains x=false:=by
    rw[Bool.eq_false_iff]
    intro hc
    exact hxE ((hm x).2 (.inr (by simpa using hc)))
   rw[h1,h2]
   simp
  refine .inr ⟨fun p hp e=>?_,hz,E++[x],?_,?_,fun g=>?_⟩
  ·obtain⟨g,hg,rfl⟩:=List.mem_map.1 hp
   have:=Znl (hEo g hg) hxo.1 e
   subst this
   exact hxE hg
  ·rw[List.set_append_right _ _ (Nat.le_refl _),Nat.sub_self,List.set_cons_zero,List.map_append,List.map_singleton]
   congr 1
   ·refine List.map_congr_left fun g hg=>?_
    rw[Z7c (fun e=>by subst e;exact hxE hg)]
   ·rw[Z32,hz]
  ·rw[List.nodup_append]
   refine⟨hn,by simp,fun a ha c hc=>?_⟩
   have:c=x:=by simpa using hc
   subst this
   intro e
   subst e
   exact hxE ha
  ·rw[List.mem_append,List.mem_singleton,hm,List.mem_append,List.mem_singleton,or_assoc]
structure BookW (W:World) (bm bo:Nat) (a1 a2:Option Addr) (k1 k2:Nat) (b:EaB):Prop where
 book:BookC W a1 a2 k1 k2 b
 blk:BkB W bm bo a1 a2 k1 k2 b
 map:∃T,MapV W Tryz.prog 95 bo T∧Z6w b T
theorem BookW.bm_lt {W:World} {bm bo:Nat} {a1 a2:Option Addr} {k1 k2:Nat} {b:EaB} (h:BookW W bm bo a1 a2 k1 k2 b):bm<W.heap.size:=lt_of_block h.blk
theorem BookW.below {W W':World} {bm bo:Nat} {a1 a2:Option Addr} {k1 k2:Nat} {b:EaB} (h:BookW W bm bo a1 a2 k1 k2 b) (hb:Below W.heap.size W W'):BookW W' bm bo a1 a2 k1 k2 b:=by
 obtain⟨T,hT,hM⟩:=h.map
 exact⟨h.book.mono hb,h.blk.same (hb.block _ h.bm_lt),T,hT.below hb hT.lt,hM⟩
@[reducible] def Z3h (V:World) (bo:Nat) (x:List Int) (v:Nat):Prop:=(Instr.lookup 142 (.map (some bo)) (.agg #[.int .i64 (x.length:Int),.int .i64 (hrd x 0),.int .i64 (hrd x 1),.int .i64 (hrd x 2),.int .i64 (hrd x 3),.int .i64 (hrd x 4)]) false).run Tryz.prog V=.ok (.int .i64 (v:Int)) V
theorem Z2d {b:EaB} (hv:EaValid b) {k:Nat} (hk:k<b.spells.length) {pre:List (List Int)} {x:List Int} (hx:x∈Zck b k) (hpre:∀y∈pre,y∈Zck b k) {T:List (Value × Value)} (h:Zha b k pre T) (bo:Nat):
  ∃v0:Nat,v0<32∧(∀V,MapV V Tryz.prog 95 bo T→Z3h V bo x v0)∧
  ∀V,MapV V Tryz.prog 95 bo T→∃(T1:List (Value × Value)) (st:Nat) (V1:World),
   (Instr.mapEntry 142 (.map (some bo)) (.agg #[.int .i64 (x.length:Int),.int .i64 (hrd x 0),.int .i64 (hrd x 1),.int .i64 (hrd x 2),.int .i64 (hrd x 3),.int .i64 (hrd x 4)])).run Tryz.prog V=.ok (.tuple #[.int .i64 (v0:Int),.int .i64 ((st:Nat):Int)]) V1∧MapV V1 Tryz.prog 95 bo T1∧V.grownBy V1 (some bo)∧V1.heap.size=V.heap.size∧
   (∀U,MapV U Tryz.prog 95 bo T1→Z3h U bo x v0)∧
   ∀U:World,U.heap[bo]?=V1.heap[bo]?→∃U1,(Instr.entryStore 142 (.map (some bo)) (.int .i64 ((st:Nat):Int)) (.int .i64 ((v0|||2^k:Nat):Int))).run Tryz.prog U=.ok () U1∧(∃T2,MapV U1 Tryz.prog 95 bo T2∧Zha b k (pre++[x]) T2)∧U.grownBy U1 (some bo)∧U1.heap.size=U.heap.size:=by
 have hxo:=Zhs hv hk hx
 obtain⟨kl,hkey⟩:=Z9w (by have:=hv.sounds;omega) hxo
 have hml:=Z94 (b:=b) (k:=k) (by have:=hv.ns;omega) pre x
 -- a key stands once
 have hone:∀{T':List (Value × Value)},(T'.map Prod.fst).Nodup→∀{i j:Nat} {u v:Value},T'[i]?=some (Zb8 x,u)→T'[j]?=some (Zb8 x,v)→u=v:=by
  intro T' hn i j u v hi hj
  have hp:=List.pairwise_iff_getElem.1 hn
  obtain⟨hi1,hi2⟩:=List.getElem?_eq_some_iff.1 hi
  obtain⟨hj1,hj2⟩:=List.getElem?_eq_some_iff.1 hj
  by_cases e:i=j
  ·subst e
   rw[hi] at hj
   exact(Prod.mk.inj (Option.some.inj hj)).2
  ·have l1:i<(T'.map Prod.fst).length:=by simpa using hi1
   have l2:j<(T'.map Prod.fst).length:=by simpa using hj1
   rcases Nat.lt_or_gt_of_ne e with g|g
   ·exact absurd (by rw[List.getElem_map,List.getElem_map,hi2,hj2]) (hp i j l1 l2 g)
   ·exact absurd (by rw[List.getElem_map,List.getElem_map,hi2,hj2]) (hp j i l2 l1 g)
 have hnd:(T.map Prod.fst).Nodup:=by
  obtain⟨E,rfl,hn,hm⟩:=h
  rw[List.map_map,List.Nodup,List.pairwise_map]
  refine List.Pairwise.imp_of_mem (fun {g c} hg hc hne e=>hne ?_) hn
  have ok:∀g∈E,g.length≤5:=fun g hg=>by
   rcases(hm g).1 hg with⟨i,h1,h2⟩|h1
   ·exact(Zhs hv (by omega) h2).1
   ·exact(Zhs hv hk (hpre g h1)).1
  exact Znl (ok g hg) (ok c hc) e
 refine⟨Zcz b k pre x,hml,?_,?_⟩
 ·intro V hV
  rcases hV.get Zjy Zh9 hkey (Zej V) with⟨g1,g2⟩|⟨j,v,g1,g2⟩
  ·rcases Zii hv hk hx hpre h with⟨j,hj,_⟩|⟨_,hz,_⟩
   ·exact absurd rfl (g1 _ (List.mem_of_getElem? hj))
   ·unfold Z3h
    rw[hz]
    exact g2
  ·rcases Zii hv hk hx hpre h with⟨j',hj,_⟩|⟨hno,_,_⟩
   ·have:=hone hnd g1 hj
    subst this
    exact g2
   ·exact absurd rfl (hno _ (List.mem_of_getElem? g1))
 ·intro V hV
  rcases hV.entry Zjy Zh9 hkey (fun u=>Zej u) with⟨j,v0,st,V1,g1,g2,g3,g4,g5,g6⟩|⟨hno,st,V1,g2,g3,g4,g5,g6⟩
  ·rcases Zii hv hk hx hpre h with⟨j',hj,hK⟩|⟨hno,_,_⟩
   ·have:=hone hnd g1 hj
    subst this
    have hjj:j=j':=by
     have hp:=List.pairwise_iff_getElem.1 hnd
     obtain⟨hi1,hi2⟩:=List.getElem?_eq_some_iff.1 g1
     obtain⟨hj1,hj2⟩:=List.getElem?_eq_some_iff.1 hj
     apply Classical.byContradiction
     intro e
     have l1:j<(T.map Prod.fst).length:=by simpa using hi1
     have l2:j'<(T.map Prod.fst).length:=by simpa using hj1
     rcases Nat.lt_or_gt_of_ne e with g|g
     ·exact absurd (by rw[List.getElem_map,List.getElem_map,hi2,hj2]) (hp j j' l1 l2 g)
     ·exact absurd (by rw[List.getElem_map,List.getElem_map,hi2,hj2]) (hp j' j l2 l1 g)
    subst hjj
    refine⟨T,st,V1,g2,g3,g5,g6,fun U hU=>?_,fun U hU=>?_⟩
    ·rcases hU.get Zjy Zh9 hkey (Zej U) with⟨q1,q2⟩|⟨j2,v,q1,q2⟩
     ·exact absurd rfl (q1 _ (List.mem_of_getElem? g1))
     ·have:=hone hnd q1 g1
      subst this
      exact q2
    ·obtain⟨U1,r1,r2,r3,r4⟩:=(g3.same hU).entryStore (t:=142) (g4.same hU) g1 (val:=.int .i64 ((Zcz b k pre x|||2^k:Nat):Int))
     exact⟨U1,r1,⟨_,r2,hK⟩,r3,r4⟩
   ·exact absurd rfl (hno _ (List.mem_of_getElem? g1))
  ·rcases Zii hv hk hx hpre h with⟨j',hj,hK⟩|⟨_,hz,hK⟩
   ·exact absurd rfl (hno _ (List.mem_of_getElem? hj))
   ·have hat:(T++[(Zb8 x,Value.int .i64 0)])[T.length]?=some (Zb8 x,Value.int .i64 0):=by simp
    have hnd2:((T++[(Zb8 x,Value.int .i64 0)]).map Prod.fst).Nodup:=by
     rw[List.map_append,List.nodup_append]
     refine⟨hnd,by simp,fun a ha c hc=>?_⟩
     obtain⟨q,hq,rfl⟩:=List.mem_map.1 ha
     have:c=Zb8 x:=by simpa using hc
     subst this
     exact hno q hq
    rw[hz]
    refine⟨_,st,V1,g2,g3,g5,g6,fun U hU=>?_,fun U hU=>?_⟩
    ·rcases hU.get Zjy Zh9 hkey (Zej U) with⟨q1,q2⟩|⟨j2,v,q1,q2⟩
     ·exact absurd rfl (q1 _ (List.mem_of_getElem? hat))
     ·have:=hone hnd2 q1 hat
      subst this
      exact q2
    ·obtain⟨U1,r1,r2,r3,r4⟩:=(g3.same hU).entryStore (t:=142) (g4.same hU) hat (val:=.int .i64 ((0|||2^k:Nat):Int))
     exact⟨U1,r1,⟨_,r2,hK⟩,r3,r4⟩
end
section
open Go Go.RowKit Go.ChangeMaps Go.MapKept
open Go.Maps (Keyed)
theorem MapV.again {P:Program} {k:TypeId} {w:World} {b:Nat} {T:List (Value × Value)} {t e:TypeId} (h:MapV w P k b T) (K:Keyed P k) (ht:P.underlying t=some (.map k e)) {key val:Value} {kl:Lit} (hkey:keyOf P k key=some kl) (hold:∃p∈T,p.1=key):
  ∃j v0 w',T[j]?=some (key,v0)∧(Instr.mapUpdate t (.map (some b)) key val).run P w=.ok () w'∧MapV w' P k b (T.set j (key,val))∧w.grownBy w' (some b)∧w'.heap.size=w.heap.size:=by
 obtain⟨es,clock,hb,hst,hk,rfl⟩:=h
 rcases K.find w hkey es.toList hk with⟨h1,h2⟩|⟨j,e0,h1,h2,h3⟩
 ·obtain⟨p,hp,he⟩:=hold
  obtain⟨e1,he1,rfl⟩:=List.mem_map.1 hp
  exact absurd he (h2 e1 he1)
 ·have hel:es.toList[j]?=some e0:=h2
  have hj:es[j]?=some e0:=by simpa using h2
  have hmod:∀f:MapEntry→MapEntry,(es.modify j f).toList=es.toList.set j (f e0):=fun f=>by rw[Array.toList_modify,modify_eq_set _ _ _ _ h2]
  have hsame:es.modify j (fun e=>{e with key:=key,val:=val})=es.modify j (fun e=>{e with val:=val}):=by
   apply Array.ext'
   rw[hmod,hmod,←h3]
  refine⟨j,e0.val,setBlock w b (.map (es.modify j fun e=>{e with val:=val}) clock),by rw[List.getElem?_map,h2];simp[h3],?_,⟨es.modify j fun e=>{e with val:=val},clock,heap_setBlock_same hb _,stamped_modify hst j _ (fun e _=>rfl) (fun e _ _=>rfl),?_,?_⟩,Zef _ _ _,by simp[setBlock]⟩
  ·simp[Instr.mapUpdate,run_underlying ht,MapKept.run_getObj_map hb,K.check w false hkey,h1,MapKept.run_setObj_map _ hb,K.stays w hkey,hj,h3,Result.andThen,setBlock,hsame]
  ·intro x hx
   rcases MapFrom.mem_modify hx with h|⟨e,h1,rfl⟩
   ·exact hk x h
   ·have:e∈es.toList:=List.mem_of_getElem? (by simpa using h1)
    exact hk e this
  ·rw[hmod,List.map_set,h3]
theorem Zie:Maps.Keyed Tryz.prog 3:=Maps.int_keyed (q:=.i64) (by kernel_rfl)
theorem Zey:Tryz.prog.underlying 163=some (.map 3 3):=by kernel_rfl
theorem Zjh:Maps.Keyed Tryz.prog 109:=Maps.Keyed.of_law (deep_law (m:=2) (by omega) (by kernel_rfl) (by kernel_rfl) (by kernel_rfl))
theorem Zmy:Tryz.prog.underlying 164=some (.map 109 154):=by kernel_rfl
@[reducible] def bnV (b:List (Int × Int)):Value:=.agg #[.int .i64 (bAt b 0).1,.int .i64 (bAt b 0).2,.int .i64 (bAt b 1).1,.int .i64 (bAt b 1).2,.int .i64 (bAt b 2).1,.int .i64 (bAt b 2).2,.int .i64 (bAt b 3).1,.int .i64 (bAt b 3).2,.int .i64 (bAt b 4).1,.int .i64 (bAt b 4).2,.int .i64 (bAt b 5).1,.int .i64 (bAt b 5).2]
@[reducible] def Za3 (b:List (Int × Int)):Array Value:=#[.int .i64 (bAt b 0).1,.int .i64 (bAt b 0).2,.int .i64 (bAt b 1).1,.int .i64 (bAt b 1).2,.int .i64 (bAt b 2).1,.int .i64 (bAt b 2).2,.int .i64 (bAt b 3).1,.int .i64 (bAt b 3).2,.int .i64 (bAt b 4).1,.int .i64 (bAt b 4).2,.int .i64 (bAt b 5).1,.int .i64 (bAt b 5).2]
theorem Zrl (w:World):(zeroValue 154).run Tryz.prog w=.ok (bnV []) w:=by kernel_rfl
@[reducible] def psV (p:List Int):Value:=.agg #[.int .i64 (pAt p 0),.int .i64 (pAt p 1),.int .i64 (pAt p 2),.int .i64 (pAt p 3),.int .i64 (pAt p 4),.int .i64 (pAt p 5)]
@[reducible] def Zat (p:List Int):Array Value:=#[.int .i64 (pAt p 0),.int .i64 (pAt p 1),.int .i64 (pAt p 2),.int .i64 (pAt p 3),.int .i64 (pAt p 4),.int .i64 (pAt p 5)]
def PsOk (q:List Int):Prop:=q.length=6∧∀x∈q,0≤x∧x<6
theorem PsOk.at {q:List Int} (h:PsOk q) (i:Nat):0≤pAt q i∧pAt q i<6:=by
 unfold pAt
 by_cases hi:i<q.length
 ·rw[List.getElem?_eq_getElem hi,Option.getD_some]
  exact h.2 _ (List.getElem_mem hi)
 ·rw[List.getElem?_eq_none (by omega)]
  simp
theorem Z1j {p q:List Int} (hp:p.length=6) (hq:q.length=6) (e:psV p=psV q):p=q:=by
 simp only[psV,Value.agg.injEq,Array.mk.injEq,List.cons.injEq,Value.int.injEq,true_and,and_true] at e
 obtain⟨e0,e1,e2,e3,e4,e5⟩:=e
 refine List.ext_getElem (by omega) fun i h1 h2=>?_
 have key:pAt p i=pAt q i:=by
  obtain rfl|rfl|rfl|rfl|rfl|rfl:i=0∨i=1∨i=2∨i=3∨i=4∨i=5:=by omega
  all_goals assumption
 unfold pAt at key
 rwa [List.getElem?_eq_getElem h1,List.getElem?_eq_getElem h2,Option.getD_some,Option.getD_some] at key
theorem Z61 {p:List Int} (h:PsOk p):∃l,keyOf Tryz.prog 109 (psV p)=some l:=by
 have h0:=h.at 0
 have h1:=h.at 1
 have h2:=h.at 2
 have h3:=h.at 3
 have h4:=h.at 4
 have h5:=h.at 5
 unfold psV
 generalize pAt p 0=a at *
 generalize pAt p 1=b at *
 generalize pAt p 2=c at *
 generalize pAt p 3=d at *
 generalize pAt p 4=e at *
 generalize pAt p 5=f at *
 have g2:Tryz.prog.keyType 109=true:=by kernel_rfl
 have g3:Value.formed Tryz.prog 109 (.agg #[.int .i64 a,.int .i64 b,.int .i64 c,.int .i64 d,.int .i64 e,.int .i64 f])=true:=by kernel_rfl
 have g4:Tryz.prog.underlying 3=some (.int .i64):=by kernel_rfl
 have g5:Tryz.prog.cellsOf 3=1:=by kernel_rfl
 have g6:Tryz.prog.cellsOf 109=6:=by kernel_rfl
 have g9:Tryz.prog.underlying 109=some (.array 6 3):=by kernel_rfl
 obtain⟨n,g7⟩:∃n,Tryz.prog.types.size=n+1:=⟨Tryz.prog.types.size-1,by kernel_rfl⟩
 have e1:∀(m:Nat) (x:Int),0≤x∧x<6→Tryz.prog.keyLits (m+1) 3 [.int .i64 x]=some [.int .i64 x]:=fun m x hx=>by
  unfold Program.keyLits
  simp only[g4,Zid x hx.1 (by omega),and_self,if_true]
 have e3:Tryz.prog.keyLits (n+1+1) 109 [.int .i64 a,.int .i64 b,.int .i64 c,.int .i64 d,.int .i64 e,.int .i64 f]=some [.int .i64 a,.int .i64 b,.int .i64 c,.int .i64 d,.int .i64 e,.int .i64 f]:=by
  unfold Program.keyLits
  rw[g9]
  simp only[g6,g5,List.length_cons,List.length_nil,Nat.zero_add,Nat.reduceAdd,if_true]
  rw[show List.range 6=[0,1,2,3,4,5] from rfl]
  simp only[List.mapM_cons,List.mapM_nil,Nat.zero_mul,Nat.one_mul,Nat.reduceMul,List.drop_zero,List.drop_succ_cons,List.take_succ_cons,List.take_zero,e1 n a h0,e1 n b h1,e1 n c h2,e1 n d h3,e1 n e h4,e1 n f h5]
  rfl
 unfold keyOf
 simp only[g2,g3,Bool.and_self,if_true,g7,g9]
 have g8:(Value.agg #[.int .i64 a,.int .i64 b,.int .i64 c,.int .i64 d,.int .i64 e,.int .i64 f]).cells.toList=[.int .i64 a,.int .i64 b,.int .i64 c,.int .i64 d,.int .i64 e,.int .i64 f]:=rfl
 rw[g8,e3]
 exact⟨_,rfl⟩
theorem Zwh (n:Nat) (h:n<64):keyOf Tryz.prog 3 (.int .i64 (n:Int))=some (.int .i64 (n:Int)):=Maps.keyOf_int_mk (q:=.i64) (by kernel_rfl) (Zid n (by omega) (by omega))
def comV (t:PeW) (s:Nat):Int:=if Zc0 t s=true then 1 else 2
def Zjj (t:PeW) (T:List (Value × Value)):Prop:=∃E:List Nat,T=E.map (fun(s:Nat)=>(Value.int .i64 (s:Int),Value.int .i64 (comV t s)))∧E.Nodup∧∀s∈E,s<32
def Zir (t:PeW) (T:List (Value × Value)):Prop:=∃E:List (List Int),T=E.map (fun q=>(psV q,bnV ((Zbr t q).getD [])))∧E.Nodup∧∀q∈E,PsOk q∧(Zbr t q).isSome=true
theorem Z7s (t:PeW):Zjj t []:=⟨[],rfl,List.nodup_nil,fun p h=>by cases h⟩
theorem Z79 (t:PeW):Zir t []:=⟨[],rfl,List.nodup_nil,fun p h=>by cases h⟩
theorem Zjj.len {t:PeW} {T:List (Value × Value)} (h:Zjj t T):T.length≤32:=by
 obtain⟨E,rfl,hn,hb⟩:=h
 have:=Zdg E (List.range 32) hn (fun x hx=>List.mem_range.2 (hb x hx))
 simpa using this
theorem Zo3 (S:Nat):∀m,(Zhf S m).length=S^m
 |0=>rfl
 |m+1=>by
  have e:∀l:List Nat,(l.flatMap fun(n:Nat)=>(Zhf S m).map fun l=>(n:Int)::l).length=l.length*S^m:=by
   intro l
   induction l with
   |nil=>simp
   |cons a l ih=>rw[List.flatMap_cons,List.length_append,ih,List.length_map,Zo3 S m,List.length_cons,Nat.succ_mul,Nat.add_comm]
  rw[Zhf,e,List.length_range,Nat.pow_succ,Nat.mul_comm]
theorem Zir.len {t:PeW} {T:List (Value × Value)} (h:Zir t T):T.length≤46656:=by
 obtain⟨E,rfl,hn,hb⟩:=h
 have:=Zdg E (Zhf 6 6) hn (fun x hx=>(Zd9 6 6 x).2 ⟨(hb x hx).1.1,(hb x hx).1.2⟩)
 rw[Zo3] at this
 simpa using this
theorem Zjj.get {t:PeW} {T:List (Value × Value)} (h:Zjj t T) {s:Nat} {v:Value} (hv:(Value.int .i64 (s:Int),v)∈T):v=.int .i64 (comV t s):=by
 obtain⟨E,rfl,hn,hb⟩:=h
 obtain⟨s',hp,e⟩:=List.mem_map.1 hv
 have e1:Value.int .i64 (s':Int)=.int .i64 (s:Int):=congrArg Prod.fst e
 have e2:Value.int .i64 (comV t s')=v:=congrArg Prod.snd e
 have e3:s'=s:=by
  simp only[Value.int.injEq,true_and] at e1
  omega
 rw[←e2,e3]
theorem Zjj.more {t:PeW} {T:List (Value × Value)} (h:Zjj t T) {s:Nat} (hs:s<32) (hnew:∀p∈T,p.1≠Value.int .i64 (s:Int)):Zjj t (T++[(Value.int .i64 (s:Int),Value.int .i64 (comV t s))]):=by
 obtain⟨E,rfl,hn,hb⟩:=h
 refine⟨E++[s],by simp,?_,fun p hp=>?_⟩
 ·rw[List.nodup_append]
  refine⟨hn,by simp,fun a ha b hb'=>?_⟩
  have:b=s:=by simpa using hb'
  subst this
  intro e
  subst e
  exact hnew _ (List.mem_map.2 ⟨_,ha,rfl⟩) rfl
 ·rcases List.mem_append.1 hp with hp|hp
  ·exact hb p hp
  ·have:p=s:=by simpa using hp
   omega
theorem Zir.get {t:PeW} {T:List (Value × Value)} (h:Zir t T) {q:List Int} (hq:q.length=6) {v:Value} (hv:(psV q,v)∈T):(Zbr t q).isSome=true∧v=bnV ((Zbr t q).getD []):=by
 obtain⟨E,rfl,hn,hb⟩:=h
 obtain⟨q',hp,e⟩:=List.mem_map.1 hv
 have e1:=Z1j (hb q' hp).1.1 hq (congrArg Prod.fst e)
 subst e1
 exact⟨(hb q' hp).2,(congrArg Prod.snd e).symm⟩
theorem Zir.more {t:PeW} {T:List (Value × Value)} (h:Zir t T) {q:List Int} (hq:PsOk q) (hy:(Zbr t q).isSome=true) (hnew:∀p∈T,p.1≠psV q):Zir t (T++[(psV q,bnV ((Zbr t q).getD []))]):=by
 obtain⟨E,rfl,hn,hb⟩:=h
 refine⟨E++[q],by simp,?_,fun p hp=>?_⟩
 ·rw[List.nodup_append]
  refine⟨hn,by simp,fun a ha b hb'=>?_⟩
  have:b=q:=by simpa using hb'
  subst this
  intro e
  subst e
  exact hnew _ (List.mem_map.2 ⟨_,ha,rfl⟩) rfl
 ·rcases List.mem_append.1 hp with hp|hp
  ·exact hb p hp
  ·have:p=q:=by simpa using hp
   subst this
   exact⟨hq,hy⟩
def TBlk (W:World) (bt bc bk:Nat) (a1 a2 a3 a4:Option Addr) (k1 k2 k3 k4:Nat) (t:PeW) (but:Nat):Prop:=
 W.heap[bt]?=some (.cells #[.int .i64 t.ear.sounds,.slice a1 t.ear.alphas.length k1,.slice a2 t.ear.spells.length k2,.int .i64 t.vills,.slice a3 t.ments.length k3,.slice a4 t.ties.length k4,.int .i64 (but:Int),.map (some bc),.map (some bk)] 166 (0,0))
structure TownW (W:World) (bt bc bk:Nat) (a1 a2 a3 a4:Option Addr) (k1 k2 k3 k4:Nat) (t:PeW) (but:Nat):Prop where
 town:TownC W a1 a2 a3 a4 k1 k2 k3 k4 t
 blk:TBlk W bt bc bk a1 a2 a3 a4 k1 k2 k3 k4 t but
 common:∃T,MapV W Tryz.prog 3 bc T∧Zjj t T
 known:∃T,MapV W Tryz.prog 109 bk T∧Zir t T
 ne:bc≠bk
section
variable {W W':World} {bt bc bk:Nat} {a1 a2 a3 a4:Option Addr} {k1 k2 k3 k4:Nat} {t:PeW} {but:Nat}
theorem TownW.cells (h:TownW W bt bc bk a1 a2 a3 a4 k1 k2 k3 k4 t but):W.cell? ⟨bt,0,none⟩=some (.int .i64 t.ear.sounds)∧W.cell? ⟨bt,1,none⟩=some (.slice a1 t.ear.alphas.length k1)∧W.cell? ⟨bt,2,none⟩=some (.slice a2 t.ear.spells.length k2)∧W.cell? ⟨bt,3,none⟩=some (.int .i64 t.vills)∧W.cell? ⟨bt,4,none⟩=some (.slice a3 t.ments.length k3)∧W.cell? ⟨bt,5,none⟩=some (.slice a4 t.ties.length k4)∧W.cell? ⟨bt,6,none⟩=some (.int .i64 (but:Int))∧W.cell? ⟨bt,7,none⟩=some (.map (some bc))∧W.cell? ⟨bt,8,none⟩=some (.map (some bk))∧bt<W.heap.size:=
 ⟨Zaa 0 h.blk rfl,Zaa 1 h.blk rfl,Zaa 2 h.blk rfl,Zaa 3 h.blk rfl,Zaa 4 h.blk rfl,Zaa 5 h.blk rfl,Zaa 6 h.blk rfl,Zaa 7 h.blk rfl,Zaa 8 h.blk rfl,lt_of_block h.blk⟩
theorem TownW.bt_lt (h:TownW W bt bc bk a1 a2 a3 a4 k1 k2 k3 k4 t but):bt<W.heap.size:=lt_of_block h.blk
theorem TownW.bc_lt (h:TownW W bt bc bk a1 a2 a3 a4 k1 k2 k3 k4 t but):bc<W.heap.size:=by obtain⟨T,hT,_⟩:=h.common;exact hT.lt
theorem TownW.bk_lt (h:TownW W bt bc bk a1 a2 a3 a4 k1 k2 k3 k4 t but):bk<W.heap.size:=by obtain⟨T,hT,_⟩:=h.known;exact hT.lt
theorem TownW.not_map (h:TownW W bt bc bk a1 a2 a3 a4 k1 k2 k3 k4 t but) {b:Nat} {cs:Array Value} {ty:TypeId} {x:Nat × Nat} (hb:W.heap[b]?=some (.cells cs ty x)):b≠bc∧b≠bk:=by
 obtain⟨T,⟨es,c,hm,_⟩,_⟩:=h.common
 obtain⟨T2,⟨es2,c2,hm2,_⟩,_⟩:=h.known
 constructor<;>intro e
 ·rw[e,hm] at hb;cases hb
 ·rw[e,hm2] at hb;cases hb
theorem TownW.below (h:TownW W bt bc bk a1 a2 a3 a4 k1 k2 k3 k4 t but) (hb:Below W.heap.size W W'):TownW W' bt bc bk a1 a2 a3 a4 k1 k2 k3 k4 t but:=by
 obtain⟨T,hT,hM⟩:=h.common
 obtain⟨T2,hT2,hM2⟩:=h.known
 exact⟨h.town.mono hb,(hb.block _ h.bt_lt).trans h.blk,⟨T,hT.below hb hT.lt,hM⟩,⟨T2,hT2.below hb hT2.lt,hM2⟩,h.ne⟩
end
structure Lrn (bc bk:Nat) (A A':World):Prop where
 os:A'.os=A.os
 tape:A'.tape=A.tape
 output:A'.output=A.output
 size:A.heap.size≤A'.heap.size
 block:∀b,b<A.heap.size→b≠bc→b≠bk→A'.heap[b]?=A.heap[b]?
theorem Lrn.refl (bc bk:Nat) (A:World):Lrn bc bk A A:=⟨rfl,rfl,rfl,Nat.le_refl _,fun _ _ _ _=>rfl⟩
theorem Lrn.trans {bc bk:Nat} {A C D:World} (h:Lrn bc bk A C) (k:Lrn bc bk C D):Lrn bc bk A D:=
 ⟨k.os.trans h.os,k.tape.trans h.tape,k.output.trans h.output,Nat.le_trans h.size k.size,fun b h1 h2 h3=>(k.block b (Nat.lt_of_lt_of_le h1 h.size) h2 h3).trans (h.block b h1 h2 h3)⟩
theorem Lrn.of_below {bc bk:Nat} {A A':World} (h:Below A.heap.size A A'):Lrn bc bk A A':=⟨h.os,h.tape,h.output,h.size,fun b h1 _ _=>h.block b h1⟩
theorem Lrn.of_common {bc bk:Nat} {A A':World} (h:A.grownBy A' (some bc)):Lrn bc bk A A':=⟨h.os,h.tape,h.output,h.size,fun b h1 h2 _=>h.block b h1 (fun e=>h2 (Option.some.inj e))⟩
theorem Lrn.of_known {bc bk:Nat} {A A':World} (h:A.grownBy A' (some bk)):Lrn bc bk A A':=⟨h.os,h.tape,h.output,h.size,fun b h1 _ h3=>h.block b h1 (fun e=>h3 (Option.some.inj e))⟩
theorem Lrn.above {bc bk B:Nat} {A A':World} (h:Lrn bc bk A A') (h1:bc<B) (h2:bk<B):Above B A A':=⟨h.os,h.tape,h.output,h.size,fun b g1 g2=>h.block b g2 (by omega) (by omega)⟩
theorem Lrn.cellsB {bc bk:Nat} {A A':World} {a1 a2 a3 a4:Option Addr} {k1 k2 k3 k4:Nat} {t:PeW} {bt but:Nat} (h:Lrn bc bk A A') (k:TownW A bt bc bk a1 a2 a3 a4 k1 k2 k3 k4 t but) {b:Nat} {cs:Array Value} {ty:TypeId} {x:Nat × Nat} (hb:A.heap[b]?=some (.cells cs ty x)):A'.heap[b]?=some (.cells cs ty x):=
 (h.block b (lt_of_block hb) (k.not_map hb).1 (k.not_map hb).2).trans hb
theorem Lrn.keeps {bc bk:Nat} {A A':World} {a1 a2 a3 a4:Option Addr} {k1 k2 k3 k4:Nat} {t:PeW} {bt but:Nat} (h:Lrn bc bk A A') (k:TownW A bt bc bk a1 a2 a3 a4 k1 k2 k3 k4 t but):Zen A A':=by
 obtain⟨T,⟨es,c,hm,_⟩,_⟩:=k.common
 obtain⟨T2,⟨es2,c2,hm2,_⟩,_⟩:=k.known
 refine⟨h.size,fun a v e=>?_⟩
 have h1:=Zag e
 have e1:a.block≠bc:=fun he=>by simp[World.cell?,he,hm] at e
 have e2:a.block≠bk:=fun he=>by simp[World.cell?,he,hm2] at e
 rw[←e]
 unfold World.cell?
 rw[h.block _ h1 e1 e2]
theorem TownW.learn {bc bk:Nat} {A A':World} {a1 a2 a3 a4:Option Addr} {k1 k2 k3 k4:Nat} {t:PeW} {bt but:Nat} (k:TownW A bt bc bk a1 a2 a3 a4 k1 k2 k3 k4 t but) (h:Lrn bc bk A A') (hc:∃T,MapV A' Tryz.prog 3 bc T∧Zjj t T) (hk:∃T,MapV A' Tryz.prog 109 bk T∧Zir t T):TownW A' bt bc bk a1 a2 a3 a4 k1 k2 k3 k4 t but:=
 ⟨k.town.keep (h.keeps k),h.cellsB k k.blk,hc,hk,k.ne⟩
theorem TownW.learn_common {bc bk:Nat} {A A':World} {a1 a2 a3 a4:Option Addr} {k1 k2 k3 k4:Nat} {t:PeW} {bt but:Nat} (k:TownW A bt bc bk a1 a2 a3 a4 k1 k2 k3 k4 t but) (h:A.grownBy A' (some bc)) (hc:∃T,MapV A' Tryz.prog 3 bc T∧Zjj t T):TownW A' bt bc bk a1 a2 a3 a4 k1 k2 k3 k4 t but:=by
 obtain⟨T,hT,hM⟩:=k.known
 exact k.learn (.of_common h) hc ⟨T,hT.kept h (fun e=>k.ne (Option.some.inj e).symm),hM⟩
theorem TownW.learn_known {bc bk:Nat} {A A':World} {a1 a2 a3 a4:Option Addr} {k1 k2 k3 k4:Nat} {t:PeW} {bt but:Nat} (k:TownW A bt bc bk a1 a2 a3 a4 k1 k2 k3 k4 t but) (h:A.grownBy A' (some bk)) (hk:∃T,MapV A' Tryz.prog 109 bk T∧Zir t T):TownW A' bt bc bk a1 a2 a3 a4 k1 k2 k3 k4 t but:=by
 obtain⟨T,hT,hM⟩:=k.common
 exact k.learn (.of_known h) ⟨T,hT.kept h (fun e=>k.ne (Option.some.inj e)),hM⟩ hk
end
section
open Go Go.RowKit
theorem Zg1 (s n:Nat) (hs:s<64) (hn:n≤6) (w:World):
  Calls Tryz.prog 59 #[.int .i64 (s:Int),.int .i64 (n:Int)] w fun e w'=>∃v,e=.returned v∧Zbm w.heap.size w' v (Zas s n)∧Below w.heap.size w w':=by
 obtain⟨p,hp⟩:∃p:Nat→Bool,p=fun i=>s.testBit i:=⟨_,rfl⟩
 have hW:Hid (Zas s n=((List.range n).filter p).map (fun(c:Nat)=>(c:Int))):=by rw[hp];exact(rfl:Zas s n=_)
 generalize Zas s n=r at hW ⊢
 have HP:=LH hp
 clear hp
 go_enter Tryz.func59,Tryz.ntmps59
 go_wp2
 go_loopw [4,7] (fun o i wr=>∃(c:Nat),c≤n∧i=.int .i64 c∧wr.ownsRow w.heap.size 3 1 o (((List.range c).filter p).map (fun(c:Nat)=>(c:Int))).length ((((List.range c).filter p).map (fun(c:Nat)=>(c:Int))).map (Value.int .i64))∧Below w.heap.size w wr) (fun _ i _=>n-(intOf i).toNat)
 case atStart=>exact⟨0,Nat.zero_le _,rfl,World.ownsRow_nil _ _ _ _,Below.refl _ _⟩
 case round=>
  obtain⟨c,hc,rfl,hown,hB⟩:=hrel
  have hB1:=hB.size
  by_cases hlt:c<n
  ·have hst:=LH (Zh8 p c)
   have hkl:=Zkr p c
   generalize hL:((List.range c).filter p).map (fun(c:Nat)=>(c:Int))=L at hown hst hkl
   clear hL
   have hb:=Zkv s hs c (by omega)
   have hpc:p c=s.testBit c:=by rw[HP.out]
   rw[←hpc] at hb
   clear hpc
   generalize p c=bp at hst hb
   have hc64:(c:Int)<64:=by omega
   cases bp
   ·go_wp2
    go_roundw
    case rel=>exact⟨c+1,by omega,by go_num,by rw[hst.out];simpa using hown,hB⟩
    case measure=>simp[intOf];omega
   ·go_wp2_with (at_builtin;go_must (refine Zbs (.tmp 15) (.tmp 17) Zh3 rfl rfl rfl rfl w.heap.size L.length 1 (L.map (Value.int .i64)) [.int .i64 (c:Int)] (hown.alloc _) (Za2.one _ _ _ rfl) (by omega) (by decide) (by simp;omega) ?_;intro v2 w2 ho2 hg2 _;(have hb2:=Zdw hB (Nat.le_refl _) (Nat.le_refl _) hown hg2);clear hg2;simp only[frT]))
    go_roundw
    case rel=>exact⟨c+1,by omega,by go_num,by rw[hst.out];simpa using ho2,hb2⟩
    case measure=>simp[intOf];omega
  ·obtain rfl:c=n:=by omega
   go_wp2
   go_ret
   rw[hW.out]
   exact⟨_,rfl,Zm9 hown,hB⟩
end
end Go.Proofs.YtklconegomgjaaaGreat
