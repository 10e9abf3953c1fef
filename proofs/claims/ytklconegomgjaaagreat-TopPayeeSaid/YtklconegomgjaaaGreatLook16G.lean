/- What is proved here: the contract of money.First. Conditions: the list lies in memory. -/
import Derived.Test.YtklconegomgjaaaGreatMoFactsG
import Derived.Test.YtklconegomgjaaaGreatKeyEqG
import Derived.Maps.RangeWalk
import Derived.Deep.OwnRows
import Derived.Laws.CopyOwn
set_option linter.all false
set_option maxRecDepth 100000
set_option maxHeartbeats 16000000
namespace Go.Proofs.YtklconegomgjaaaGreat
section
open Go Go.RowKit
theorem Z1n (m:MoList):Zjl m=if Za0 m=0 then ((Zao m).headD [],((Zao m).length:Int),0) else ([],0,Za0 m):=rfl
theorem Zdk {P:Program} {w:World} {ops:Array Oper} {rest:List Oper} {o:Oper} {a:Act} {Q:Exit→Act→World→Prop} (hg:o.guard=none) (it:Operand) (hop:o.op=Op.entry it) (v:Value) (r:Nat)
  (hit:a.eval it=.pointer (some ⟨r,0,none⟩)) (hrun:(Instr.entry (.pointer (some ⟨r,0,none⟩))).run P w=.ok v w)
  (hK:wpList P ops Q rest (a.put o.dst v) w):wpList P ops Q (o::rest) a w:=by
 refine wpList_plain hg fun K' hK'=>?_
 unfold Oper.wp
 simp only[execOp,hop,hit,hrun,Result.andThen,Sem.run_bind,Sem.run_pure]
 exact hK' _ _ hK
theorem Zm6 {W:World} {b:Nat} {t:TypeId} {L:List Int} (h:BlkI W b t L):Zaw W (some ⟨b,0,none⟩) L:=fun i hi=>⟨b,0,rfl,h.lt,by rw[Nat.zero_add];exact h.cell i hi⟩
theorem Zge {W:World} {b:Nat} {t:TypeId} {z0 z1 z2 z3 z4:Int} (h:BlkI W b t [z0,z1,z2,z3,z4]):W.cell? ⟨b,0,none⟩=some (.int .i64 z0)∧W.cell? ⟨b,1,none⟩=some (.int .i64 z1)∧W.cell? ⟨b,2,none⟩=some (.int .i64 z2)∧W.cell? ⟨b,3,none⟩=some (.int .i64 z3)∧W.cell? ⟨b,4,none⟩=some (.int .i64 z4):=
 ⟨h.cell 0 (by simp),h.cell 1 (by simp),h.cell 2 (by simp),h.cell 3 (by simp),h.cell 4 (by simp)⟩
theorem Z67 {t:List Int} (h:∀y∈t,0≤y∧y<4):∀y∈pad 5 t,okI y:=by
 intro y hy
 unfold pad at hy
 rcases List.mem_append.1 hy with hy|hy
 ·exact Zxh (by have:=h y hy;omega) (by have:=h y hy;omega)
 ·rw[List.eq_of_mem_replicate hy];exact Zxh (by omega) (by omega)
theorem Z84 {a b c d e a' b' c' d' e':Int} (h:∀y∈[a,b,c,d,e],okI y) (h':∀y∈[a',b',c',d',e'],okI y) (hne:[a,b,c,d,e]≠[a',b',c',d',e']) (w:World):
  (Op.equalIn 10000 183 (.agg #[.int .i64 a,.int .i64 b,.int .i64 c,.int .i64 d,.int .i64 e]) (.agg #[.int .i64 a',.int .i64 b',.int .i64 c',.int .i64 d',.int .i64 e'])).run Tryz.prog w=.ok false w:=
 Z9r a b c d e a' b' c' d' e' (h _ (by simp)) (h _ (by simp)) (h _ (by simp)) (h _ (by simp)) (h _ (by simp)) (h' _ (by simp)) (h' _ (by simp)) (h' _ (by simp)) (h' _ (by simp)) (h' _ (by simp)) hne w
theorem Zcv (W:World) (b j k:Nat) (v:Value) (h:k≠b):(W.setCell ⟨b,j,none⟩ v).heap[k]?=W.heap[k]?:=by
 show(W.heap.modify b _)[k]?=_
 rw[Array.getElem?_modify,if_neg (Ne.symm h)]
theorem Zhu {B b j:Nat} {w W:World} {v:Value} (h:Below B w W) (hb:B≤b):Below B w (W.setCell ⟨b,j,none⟩ v):=
 h.trans ⟨rfl,rfl,rfl,by simp[World.setCell],fun k hk=>Zcv W b j k v (by omega)⟩
def Zfu (W:World) (b:Nat) (x0 x1 x2 x3 x4:Int):World:=((((W.setCell ⟨b,0,none⟩ (.int .i64 x0)).setCell ⟨b,1,none⟩ (.int .i64 x1)).setCell ⟨b,2,none⟩ (.int .i64 x2)).setCell ⟨b,3,none⟩ (.int .i64 x3)).setCell ⟨b,4,none⟩ (.int .i64 x4)
theorem Zn7 {W:World} {b:Nat} {t:TypeId} {y0 y1 y2 y3 y4:Int} (h:BlkI W b t [y0,y1,y2,y3,y4]) (x0 x1 x2 x3 x4:Int):BlkI (Zfu W b x0 x1 x2 x3 x4) b t [x0,x1,x2,x3,x4]:=
 ((((h.set 0 x0).set 1 x1).set 2 x2).set 3 x3).set 4 x4
theorem Zca {W:World} {b k:Nat} {x0 x1 x2 x3 x4:Int} (h:k≠b):(Zfu W b x0 x1 x2 x3 x4).heap[k]?=W.heap[k]?:=by
 unfold Zfu
 rw[Zcv _ _ _ _ _ h,Zcv _ _ _ _ _ h,Zcv _ _ _ _ _ h,Zcv _ _ _ _ _ h,Zcv _ _ _ _ _ h]
theorem Zkb {B b:Nat} {w W:World} {x0 x1 x2 x3 x4:Int} (h:Below B w W) (hb:B≤b):Below B w (Zfu W b x0 x1 x2 x3 x4):=
 Zhu (Zhu (Zhu (Zhu (Zhu h hb) hb) hb) hb) hb
theorem Z5s (b1 b2:Nat) (t:TypeId) (l1 l2:List Int) (h1:l1.length=5) (h2:l2.length=5) (W:World) (hb1:BlkI W b1 t l1) (hb2:BlkI W b2 t l2):
  Calls Tryz.prog 71 #[.slice (some ⟨b1,0,none⟩) 5 5,.slice (some ⟨b2,0,none⟩) 5 5] W fun e w'=>∃k:Int,e=.returned (.int .i64 k)∧Hid (decide (k<0)=less l1 l2)∧w'=W:=by
 have:=Z1c (some ⟨b1,0,none⟩) (some ⟨b2,0,none⟩) l1 l2 5 5 W (by omega) (by omega) (Zm6 hb1) (Zm6 hb2)
 rwa [h1,h2] at this
theorem Z6n {a b:List Int} (ha:a.length≤5) (hl:a.length=b.length) (h:a≠b):pad 5 a≠pad 5 b:=fun e=>h (Z21 5 a b hl e)
theorem Z0a (ac az aw ap:Option Addr) (cc cz cw cp:Nat) (m:MoList) (w:World) (hm:ListC w ac az aw ap cc cz cw cp m):
  Calls Tryz.prog 49 #[(.agg #[.slice ac m.claimants.length cc,.slice az m.sums.length cz,.slice aw m.words.length cw,.slice ap m.paid.length cp])] w fun e w'=>∃v,e=.returned (.tuple #[v,.int .i64 (Zjl m).2.1,.int .i64 (Zjl m).2.2])∧Ze7 w' v (Zjl m).1∧Below w.heap.size w w':=by
 have HE:=LH (Z1n m)
 have HV:=LH (fun h:Za0 m=0=>Zec h)
 have hQ:=Below.refl (w.heap.size+1) (w.alloc (.cells #[.slice ac m.claimants.length cc,.slice az m.sums.length cz,.slice aw m.words.length cw,.slice ap m.paid.length cp] 54))
 obtain⟨c0,c1,c2,c3⟩:=Zax hQ
 have hbz:=Zai hQ
 have C:=Zgo ac az aw ap cc cz cw cp m 0 none [] 0 (w.alloc (.cells #[.slice ac m.claimants.length cc,.slice az m.sums.length cz,.slice aw m.words.length cw,.slice ap m.paid.length cp] 54)) (hm.mono (Zaf hQ)) (by decide) (by decide) (by decide) (Zaw.nil _ _)
 rw[Ze9] at C
 have HN:=LH (Zdz m)
 have C:=LH C
 generalize Zjl m=r at HE ⊢
 generalize Za0 m=er at C HE HV
 by_cases he:er=0
 ·have g1:=Zdf he
  have HE:=LH (HE.out.trans (if_pos he))
  obtain⟨hv,hpos⟩:=HV.out he
  have HX:=LH he
  have h5:=hv.nz
  have HL:=LH (Zcw m)
  have HTM:=LH (show(Zao m).length≤1024 from Zja m hv.nc _ h5)
  have HS:=LH (Zkt m)
  have HD:=LH (Zl1 m)
  have HBD:=LH (show ∀t∈Zao m,∀y∈t,0≤y∧y<4 from fun t ht y hy=>by have:=Zgh m t ht y hy;have:=hv.nc;omega)
  clear he
  generalize hTT:Zao m=T at HE HL HS HD HBD HTM hpos
  have HTT:=LH hTT
  clear hTT
  go_enter Tryz.func49,Tryz.ntmps49
  go_wp2_with (first
   |(at_range;refine Zei rfl (.tmp 19) _ rfl _ _ rfl bo _ rfl (hM.same (Below.heap_alloc _ _ _ hM.lt)) ?_;intro o' hrg;go_frame)
   |(go_at_call 60;go_must (refine C.out.mono ?_;rintro e w2 ⟨v2,rfl,h2,hb2⟩;obtain⟨bm,bo,rfl,hLW⟩:=h2 HX.out;have hL:=hLW.blk;have hM:=hLW.map;rw[HN.out,HTT.out] at hL hM;have hQ2:=Zaz hQ hb2;have hcm:=hL.cells.2.2.2.2.2;have hbm:=hL.lt;have hbol:=hM.lt;dsimp only)))
  have e6:(w2.alloc (.cells #[.int .i64 0,.int .i64 0,.int .i64 0,.int .i64 0,.int .i64 0] 183)).heap.size=w2.heap.size+1:=by simp
  have hz2:=hQ2.size
  have hz2:w.heap.size+1≤w2.heap.size:=by simpa using hz2
  have hW1:=hQ2.alloc hz2 (.cells #[.int .i64 0,.int .i64 0,.int .i64 0,.int .i64 0,.int .i64 0] 183)
  have hW:=hW1.alloc (by rw[e6];omega) o'
  have hb6:BlkI (w2.alloc (.cells #[.int .i64 0,.int .i64 0,.int .i64 0,.int .i64 0,.int .i64 0] 183)) w2.heap.size 183 (pad 5 []):=Ze3 _ _
  have hb6:BlkI ((w2.alloc (.cells #[.int .i64 0,.int .i64 0,.int .i64 0,.int .i64 0,.int .i64 0] 183)).alloc o') w2.heap.size 183 (pad 5 []):=hb6.same (Below.heap_alloc _ _ _ hb6.lt)
  rw[e6] at hrg
  rw[e6]
  have hrw:(w2.heap.size+1)<((w2.alloc (.cells #[.int .i64 0,.int .i64 0,.int .i64 0,.int .i64 0,.int .i64 0] 183)).alloc o').heap.size:=by simp
  generalize ((w2.alloc (.cells #[.int .i64 0,.int .i64 0,.int .i64 0,.int .i64 0,.int .i64 0] 183)).alloc o')=W at hrg hW hb6 hrw
  generalize hr6:w2.heap.size+1=ri at hrg hrw
  have HR6:=LH hr6
  clear hr6 e6 hW1
  go_loopw [3] (fun n wr=>∃(pre rem:List (List Int)) (best:List Int),n=.int .i64 (pre.length:Nat)∧(pre++rem).Perm T∧Zom pre best∧(pre=[]→best=[])∧RngV wr Tryz.prog 183 bo ri (ents m T) (rem.map fun t=>(five (pad 5 t),four m t))∧BlkI wr w2.heap.size 183 (pad 5 best)∧Below (w.heap.size+1) (w.alloc (.cells #[.slice ac m.claimants.length cc,.slice az m.sums.length cz,.slice aw m.words.length cw,.slice ap m.paid.length cp] 54)) wr) (fun _ wr=>wr.rangeLeft bo ri)
  case atStart=>exact⟨[],T,[],rfl,by simp,fun h=>absurd rfl h,fun _=>rfl,hrg,hb6,hW⟩
  case round=>
   obtain⟨pre,rem,best,rfl,hperm,hleast,hnil,hrg1,hb1,hQ3⟩:=hrel
   have hlen:=hperm.length_eq
   rw[List.length_append] at hlen
   have hpi:(pre.length:Int)≤1024:=by have:=HTM.out;omega
   have hPL:=LH hlen
   clear hlen
   obtain⟨d0,d1,d2,d3⟩:=Zax hQ3
   have hbz3:=Zai hQ3
   go_wp2_with (at_next;refine Zex rfl (.tmp 20) rfl _ (fun t=>five (pad 5 t)) (fun t=>four m t) bo ri _ rem rfl hrg1 ?_ ?_)
   ·intro h0
    subst h0
    rw[List.append_nil] at hperm
    have hbest:=Zzo HS.out hperm hpos hleast
    have hcnt:=hperm.length_eq
    have hbT:best∈T:=by rw[hbest];cases T with|nil=>simp at hpos|cons a T=>simp
    have hblen:=HL.out best hbT
    have hHB:=LH hbest
    have hHC:=LH hcnt
    have hz3:w.heap.size+1≤wr.heap.size:=by have:=hQ3.size;simpa using this
    obtain⟨i,hi,hz,hsz,hby⟩:=info_parts Zh3.info
    have hsrc:∀j v,(best.map (Value.int .i64))[j]?=some v→wr.cell? ⟨w2.heap.size,0+j,none⟩=some v:=by
     intro j v hj
     rw[List.getElem?_map] at hj
     obtain⟨y,hy,rfl⟩:=Option.map_eq_some_iff.1 hj
     obtain⟨hlt,rfl⟩:=List.getElem?_eq_some_iff.1 hy
     have hp5:=Zfz 5 best (by omega)
     have:=hb1.cell j (by omega)
     rw[Nat.zero_add,this]
     have e:=Zfw 5 best j hlt
     rw[List.getElem?_eq_getElem (by omega),List.getElem?_eq_getElem hlt] at e
     rw[Option.some.inj e]
    have hSRC:=LH hsrc
    have hblt:=hb1.lt
    have hBL:=LH hblen
    have hsz1:=LH (show(Tryz.prog.info? 3).map (·.size)=some 1 by rw[hi];simp[hsz])
    have hcn:=LH (show(best.map (Value.int .i64)).length=Nat.min 5 m.sums.length by rw[List.length_map,hblen];exact(Nat.min_eq_right h5).symm)
    have hcsrc:=LH (fun(j:Nat) (v:Value) (hj:(best.map (Value.int .i64))[j]?=some v)=>show(wr.alloc (.cells (madeCells #[Value.int .i64 0] m.sums.length) 3)).cell? ((⟨w2.heap.size,0,none⟩:Addr).add j)=some v from by rw[Addr.add_lit];exact(Below.cell (p:=⟨w2.heap.size,0+j,none⟩) (Below.alloc (Below.refl wr.heap.size wr) (Nat.le_refl _) _) hb1.lt).trans (hSRC.out j v hj))
    have hcfit:=LH (show 0+(best.map (Value.int .i64)).length≤(madeCells #[Value.int .i64 0] m.sums.length).size by rw[List.length_map,hblen,size_madeCells];omega)
    have hcone:=LH (show ∀v∈best.map (Value.int .i64),v.oneCell'=true from fun v hv=>by obtain⟨y,_,rfl⟩:=List.mem_map.1 hv;rfl)
    clear hbest hcnt hbT hperm hleast hnil hsrc
    go_wp2_with (first
     |(refine wpList_make_row _ rfl (.tmp 43) (.tmp 43) _ rfl 3 i (.int .i64 0) Zh3.und hi hz hsz rfl .i64 .i64 m.sums.length rfl rfl (by rw[hby];omega) (by omega) ?_;go_frame)
     |(refine wpList_copy_own rfl (.tmp 45) (.tmp 46) _ _ rfl 3 Zh3.und hsz1.out wr.heap.size 0 m.sums.length m.sums.length ⟨w2.heap.size,0,none⟩ 5 5 rfl rfl (madeCells #[Value.int .i64 0] m.sums.length) 3 (Ze3 _ _) (best.map (Value.int .i64)) hcn.out hcsrc.out hcfit.out hcone.out ?_;go_frame))
    have hBf:Below (w.heap.size+1) (w.alloc (.cells #[.slice ac m.claimants.length cc,.slice az m.sums.length cz,.slice aw m.words.length cw,.slice ap m.paid.length cp] 54)) ((wr.alloc (.cells (madeCells #[Value.int .i64 0] m.sums.length) 3)).setRow wr.heap.size (List.take 0 (madeCells #[Value.int .i64 0] m.sums.length).toList++(List.map (Value.int .i64) best++List.drop (0+(List.map (Value.int .i64) best).length) (madeCells #[Value.int .i64 0] m.sums.length).toList)).toArray):=below_setRow (hQ3.alloc hz3 _) hz3 _
    have hIf:BlkI ((wr.alloc (.cells (madeCells #[Value.int .i64 0] m.sums.length) 3)).setRow wr.heap.size (List.take 0 (madeCells #[Value.int .i64 0] m.sums.length).toList++(List.map (Value.int .i64) best++List.drop (0+(List.map (Value.int .i64) best).length) (madeCells #[Value.int .i64 0] m.sums.length).toList)).toArray) wr.heap.size 3 best:=by
     have h:=setRow_heap (wr.alloc (.cells (madeCells #[Value.int .i64 0] m.sums.length) 3)) wr.heap.size _ (List.take 0 (madeCells #[Value.int .i64 0] m.sums.length).toList++(List.map (Value.int .i64) best++List.drop (0+(List.map (Value.int .i64) best).length) (madeCells #[Value.int .i64 0] m.sums.length).toList)).toArray 3 _ (Ze3 _ _)
     have e:(List.take 0 (madeCells #[Value.int .i64 0] m.sums.length).toList++(List.map (Value.int .i64) best++List.drop (0+(List.map (Value.int .i64) best).length) (madeCells #[Value.int .i64 0] m.sums.length).toList))=best.map (Value.int .i64):=by
      rw[List.take_zero,List.nil_append,List.drop_eq_nil_of_le (by rw[Array.length_toList,size_madeCells,List.length_map,hBL.out];omega),List.append_nil]
     rw[e] at h ⊢
     exact h
    go_ret3
    rw[HE.out]
    refine⟨.slice (some ⟨wr.heap.size,0,none⟩) m.sums.length m.sums.length,?_,?_,Zaf hBf⟩
    ·rw[←hHC.out];rfl
    ·dsimp only
     rw[←hHB.out]
     exact⟨some ⟨wr.heap.size,0,none⟩,m.sums.length,by rw[hBL.out],⟨by rw[hBL.out];omega,by omega,fun h=>by cases h⟩,Zm6 hIf⟩
   ·intro x rem' w3 hp hrg3 hg3 hs3 hen
    have hpn:((pre.length:Int)+1)≤1024:=by have:=hp.length_eq;simp at this;have:=HTM.out;have:=hPL.out;omega
    have hperm3:=(List.Perm.append_left pre hp).symm.trans hperm
    have hxT:x∈T:=hperm3.mem_iff.1 (by simp)
    have hxl:=HL.out x hxT
    have hxp:x ∉ pre:=fun h=>by
     have:=(hperm3.nodup_iff).2 HD.out
     rw[List.nodup_append] at this
     exact this.2.2 x h x (by simp) rfl
    have hb3:BlkI w3 w2.heap.size 183 (pad 5 best):=hb1.same (hg3.block _ hb1.lt (fun e=>by have:=Option.some.inj e;have:=HR6.out;omega))
    have hQ4:Below (w.heap.size+1) (w.alloc (.cells #[.slice ac m.claimants.length cc,.slice az m.sums.length cz,.slice aw m.words.length cw,.slice ap m.paid.length cp] 54)) w3:=hQ3.grown hg3 (by have:=hQ3.size;simpa using this) (fun k e=>by have:=Option.some.inj e;have:=HR6.out;omega)
    have hz3:w.heap.size+1≤w3.heap.size:=by have:=hQ4.size;simpa using this
    have hpx:=Zfz 5 x (by omega)
    have hbl:best.length≤5∧(pre≠[]→best.length=x.length∧best≠x):=by
     by_cases hpe:pre=[]
     ·rw[hnil hpe];exact⟨by simp,fun h=>absurd hpe h⟩
     ·have h1:=(hleast hpe).1
      have h2:=HL.out best (hperm3.mem_iff.1 (by simp[h1]))
      exact⟨by omega,fun _=>⟨by omega,fun e=>hxp (e▸h1)⟩⟩
    have hpb:=Zfz 5 best hbl.1
    have hxo:=Z67 (HBD.out x hxT)
    have hbo:∀y∈pad 5 best,okI y:=by
     refine Z67 fun y hy=>?_
     by_cases hpe:pre=[]
     ·rw[hnil hpe] at hy;simp at hy
     ·exact HBD.out best (hperm3.mem_iff.1 (by simp[(hleast hpe).1])) y hy
    have hne5:pre≠[]→pad 5 best≠pad 5 x:=fun h=>Z6n hbl.1 (hbl.2 h).1 (hbl.2 h).2
    have hls:pre≠[]→less (pad 5 x) (pad 5 best)=less x best:=fun h=>by
     unfold pad
     rw[(hbl.2 h).1]
     exact Zwq _ _ _ (hbl.2 h).1.symm
    obtain⟨x0,x1,x2,x3,x4,hx5⟩:∃x0 x1 x2 x3 x4:Int,pad 5 x=[x0,x1,x2,x3,x4]:=⟨_,_,_,_,_,Zu6 hpx⟩
    obtain⟨y0,y1,y2,y3,y4,hy5⟩:∃x0 x1 x2 x3 x4:Int,pad 5 best=[x0,x1,x2,x3,x4]:=⟨_,_,_,_,_,Zu6 hpb⟩
    have hxf:five (pad 5 x)=.agg #[.int .i64 x0,.int .i64 x1,.int .i64 x2,.int .i64 x3,.int .i64 x4]:=by rw[hx5];rfl
    rw[hxf] at hen ⊢
    rw[hx5] at hxo hne5 hls
    rw[hy5] at hbo hne5 hls hb3
    have hlx:∀h:pre≠[],less x best=false→Zom (pre++[x]) best:=fun h hl=>Z0t h hleast (hbl.2 h).1.symm (fun e=>(hbl.2 h).2 e.symm) hl
    have hly:pre≠[]→less x best=true→Zom (pre++[x]) x:=fun h hl=>Z3e h hleast hl
    have hlz:pre=[]→Zom (pre++[x]) x:=fun h=>by subst h;exact Z1h x
    have HEQ:=LH (fun(h:pre≠[]) (V:World)=>Z84 hbo hxo (hne5 h) V)
    have HXF:=LH hx5
    have HYF:=LH hy5
    have HLS:=LH hls
    have HLX:=LH hlx
    have HLY:=LH hly
    have HLZ:=LH hlz
    have hP4:=LH (show((pre++[x])++rem').Perm T from by simpa using hperm3)
    have hLR:=LH (show rem.length=rem'.length+1 from by simpa using hp.length_eq)
    clear hxl hxp hbl hperm3 hleast hxT hp hperm hnil hxo hbo hne5 hls hlx hly hlz hxf hx5 hy5 hpx hpb
    go_wp2_with (first|(refine Zdk rfl (.tmp 20) rfl _ ri rfl hen ?_;go_frame))
    have h7:BlkI (w3.alloc (.cells #[.int .i64 x0,.int .i64 x1,.int .i64 x2,.int .i64 x3,.int .i64 x4] 183)) w3.heap.size 183 [x0,x1,x2,x3,x4]:=Ze3 _ _
    rw[hs3] at h7
    have h6:BlkI (w3.alloc (.cells #[.int .i64 x0,.int .i64 x1,.int .i64 x2,.int .i64 x3,.int .i64 x4] 183)) w2.heap.size 183 [y0,y1,y2,y3,y4]:=hb3.same (Below.heap_alloc w3 _ _ hb3.lt)
    have hQ7:=hQ4.alloc hz3 (.cells #[.int .i64 x0,.int .i64 x1,.int .i64 x2,.int .i64 x3,.int .i64 x4] 183)
    have hr7:=hrg3.same (Below.heap_alloc w3 (.cells #[.int .i64 x0,.int .i64 x1,.int .i64 x2,.int .i64 x3,.int .i64 x4] 183) _ hrg3.map.lt) (Below.heap_alloc w3 (.cells #[.int .i64 x0,.int .i64 x1,.int .i64 x2,.int .i64 x3,.int .i64 x4] 183) _ hrg3.lt)
    have hlt6:=hb3.lt
    rw[hs3] at hlt6
    have hs7:(w3.alloc (.cells #[.int .i64 x0,.int .i64 x1,.int .i64 x2,.int .i64 x3,.int .i64 x4] 183)).heap.size=wr.heap.size+1:=by simp[hs3]
    generalize (w3.alloc (.cells #[.int .i64 x0,.int .i64 x1,.int .i64 x2,.int .i64 x3,.int .i64 x4] 183))=W7 at h6 h7 hQ7 hr7 hs7
    have KE:Hid (∀V,Below W7.heap.size W7 V→(fun V=>Below W7.heap.size W7 V∧BlkI V wr.heap.size 183 [x0,x1,x2,x3,x4]∧BlkI V w2.heap.size 183 [y0,y1,y2,y3,y4]∧(V.cell? ⟨wr.heap.size,0,none⟩=some (.int .i64 x0)∧V.cell? ⟨wr.heap.size,1,none⟩=some (.int .i64 x1)∧V.cell? ⟨wr.heap.size,2,none⟩=some (.int .i64 x2)∧V.cell? ⟨wr.heap.size,3,none⟩=some (.int .i64 x3)∧V.cell? ⟨wr.heap.size,4,none⟩=some (.int .i64 x4))∧(V.cell? ⟨w2.heap.size,0,none⟩=some (.int .i64 y0)∧V.cell? ⟨w2.heap.size,1,none⟩=some (.int .i64 y1)∧V.cell? ⟨w2.heap.size,2,none⟩=some (.int .i64 y2)∧V.cell? ⟨w2.heap.size,3,none⟩=some (.int .i64 y3)∧V.cell? ⟨w2.heap.size,4,none⟩=some (.int .i64 y4))∧w2.heap.size<V.heap.size∧wr.heap.size<V.heap.size) V):=LH (fun V h=>by
     have a7:=h7.same (h.block _ h7.lt)
     have a6:=h6.same (h.block _ h6.lt)
     exact⟨h,a7,a6,Zge a7,Zge a6,a6.lt,a7.lt⟩)
    have CM:=LH (fun(V:World) (h1:BlkI V wr.heap.size 183 [x0,x1,x2,x3,x4]) (h2:BlkI V w2.heap.size 183 [y0,y1,y2,y3,y4])=>Z5s _ _ _ _ _ rfl rfl V h1 h2)
    have hz7:=hQ7.size
    have hz7:w.heap.size+1≤W7.heap.size:=by simpa using hz7
    have hml:=LH hrg1.left_eq
    have hbne:=LH (show bo≠w2.heap.size by omega)
    have hrne:=LH (show ri≠w2.heap.size by have:=HR6.out;omega)
    clear hrg1 hb1 hQ3 d0 d1 d2 d3 hen hrg3 hb3 hQ4
    by_cases hn0:pre.length=0
    ·have gn:((pre.length:Int)+1==1)=true:=by simp;omega
     have hpe:pre=[]:=List.eq_nil_of_length_eq_zero hn0
     have HLZ:=LH (HLZ.out hpe)
     clear hpe
     apply Zdh _ (Below W7.heap.size W7)
     ·refine wp_region_held_drew (S:=(fun V=>Below W7.heap.size W7 V∧BlkI V wr.heap.size 183 [x0,x1,x2,x3,x4]∧BlkI V w2.heap.size 183 [y0,y1,y2,y3,y4]∧(V.cell? ⟨wr.heap.size,0,none⟩=some (.int .i64 x0)∧V.cell? ⟨wr.heap.size,1,none⟩=some (.int .i64 x1)∧V.cell? ⟨wr.heap.size,2,none⟩=some (.int .i64 x2)∧V.cell? ⟨wr.heap.size,3,none⟩=some (.int .i64 x3)∧V.cell? ⟨wr.heap.size,4,none⟩=some (.int .i64 x4))∧(V.cell? ⟨w2.heap.size,0,none⟩=some (.int .i64 y0)∧V.cell? ⟨w2.heap.size,1,none⟩=some (.int .i64 y1)∧V.cell? ⟨w2.heap.size,2,none⟩=some (.int .i64 y2)∧V.cell? ⟨w2.heap.size,3,none⟩=some (.int .i64 y3)∧V.cell? ⟨w2.heap.size,4,none⟩=some (.int .i64 y4))∧w2.heap.size<V.heap.size∧wr.heap.size<V.heap.size)) (by kernel_rfl) (KE.out _ (Zds W7)) (fun hHeld=>?_)
      (refine tkH 0 ?_;simp only[frT])
      (refine tkH 1 ?_;simp only[frT])
      (refine tkH 2 ?_;simp only[frT])
      (refine skH 3 ?_;simp only[frT])
      (refine skH 4 ?_;simp only[frT])
      (refine skH 5 ?_;simp only[frT])
      (refine skH 6 ?_;simp only[frT])
      (refine skH 7 ?_;simp only[frT])
      (refine skH 8 ?_;simp only[frT])
      (refine skH 9 ?_;simp only[frT])
      (refine skH 10 ?_;simp only[frT])
      (refine skH 11 ?_;simp only[frT])
      (refine tkH 12 ?_;simp only[frT])
      exact wpAnyH_done (by kernel_rfl) ⟨rfl,Zds W7⟩ _
     ·intro W8 hb8
      have hQ8:=hQ7.trans (hb8.mono hz7)
      have h68:=h6.same (hb8.block _ h6.lt)
      have h78:=h7.same (hb8.block _ h7.lt)
      have hr8:=hr7.same (hb8.block _ hr7.map.lt) (hb8.block _ hr7.lt)
      clear hb8 h6 h7 hr7
      obtain⟨f0,f1,f2,f3,f4⟩:=Zge h78
      obtain⟨g0,g1',g2,g3,g4⟩:=Zge h68
      have fr:=fun j=>h68.free j
      go_wp2
      go_roundw
      case rel=>exact⟨pre++[x],rem',x,by simp,hP4.out,HLZ.out,by simp,(hr8.same (Zca hbne.out) (Zca hrne.out):RngV (Zfu W8 w2.heap.size x0 x1 x2 x3 x4) _ _ _ _ _ _),by rw[HXF.out];exact Zn7 h68 x0 x1 x2 x3 x4,Zkb hQ8 hz2⟩
      case measure=>
       have e:=(hr8.same (Zca hbne.out) (Zca hrne.out):RngV (Zfu W8 w2.heap.size x0 x1 x2 x3 x4) _ _ _ _ _ _).left_eq
       unfold Zfu at e
       rw[e,hml.out]
       have:=hLR.out
       simp
       omega
    ·have gn:((pre.length:Int)+1==1)=false:=by simp;omega
     have hpe:pre≠[]:=fun e=>hn0 (by rw[e];rfl)
     have HEQ:=LH (HEQ.out hpe)
     have HLS:=HLS.out hpe
     have CM:=CM.out
     rw[HLS] at CM
     have HLX:=LH (HLX.out hpe)
     have HLY:=LH (HLY.out hpe)
     clear HLS hpe
     generalize less x best=lt at CM HLX HLY
     have CM:=LH CM
     cases lt
     all_goals
      refine wp_region_held_drew (S:=(fun V=>Below W7.heap.size W7 V∧BlkI V wr.heap.size 183 [x0,x1,x2,x3,x4]∧BlkI V w2.heap.size 183 [y0,y1,y2,y3,y4]∧(V.cell? ⟨wr.heap.size,0,none⟩=some (.int .i64 x0)∧V.cell? ⟨wr.heap.size,1,none⟩=some (.int .i64 x1)∧V.cell? ⟨wr.heap.size,2,none⟩=some (.int .i64 x2)∧V.cell? ⟨wr.heap.size,3,none⟩=some (.int .i64 x3)∧V.cell? ⟨wr.heap.size,4,none⟩=some (.int .i64 x4))∧(V.cell? ⟨w2.heap.size,0,none⟩=some (.int .i64 y0)∧V.cell? ⟨w2.heap.size,1,none⟩=some (.int .i64 y1)∧V.cell? ⟨w2.heap.size,2,none⟩=some (.int .i64 y2)∧V.cell? ⟨w2.heap.size,3,none⟩=some (.int .i64 y3)∧V.cell? ⟨w2.heap.size,4,none⟩=some (.int .i64 y4))∧w2.heap.size<V.heap.size∧wr.heap.size<V.heap.size)) (by kernel_rfl) (KE.out _ (Zds W7)) (fun hHeld=>?_)
      (refine tkH 0 ?_;simp only[frT])
      (refine tkH 1 ?_;simp only[frT])
      (refine tkH 2 ?_;simp only[frT])
      (refine tkH 3 ?_;simp only[frT])
      (refine tkH 4 ?_;simp only[frT])
      (refine wpAnyH_take (i:=5) (v:=.bool true) rfl (by kernel_rfl) (by kernel_rfl) (by kernel_rfl) (fun _ _ _ h=>h) (Or.inl ⟨by kernel_rfl,?_⟩) (by assumption) ?_;(focus (intro w hSw;(try dsimp only at hSw);go_simp;rw[HEQ.out w];rfl));simp only[frT])
      (refine tkH 6 ?_;simp only[frT])
      (refine tkH 7 ?_;simp only[frT])
      (refine tkH 8 ?_;simp only[frT])
      (refine wpAnyH_ready (rs:=[9]) (by kernel_rfl) (by simp) ?_;refine AllReadyH.cons rfl (fun K hK=>?_) AllReadyH.nil;go_simp)
      have hS2:=hHeld.2.1
      have hS3:=hHeld.2.2.1
      go_wp2_with (go_at_call 71;go_must (refine(CM.out _ hS2 hS3).mono ?_;rintro e w8 ⟨k,rfl,hk,hw8⟩;obtain rfl:=hw8.symm;dsimp only))
      have hk0:=hk.out
      simp only[decide_eq_false_iff_not,decide_eq_true_eq] at hk0
      refine hK.out _ _ (KE.out _ (Zds W7)) (fun hHeld=>?_)
      (try simp only[frT])
      clear hK
      (refine tkH 10 ?_;simp only[frT])
      (refine tkH 11 ?_;simp only[frT])
      (refine tkH 12 ?_;simp only[frT])
      refine wpAnyH_done (by kernel_rfl) ?_ _
      have hb8:=Zds W7
      have hQ8:=hQ7.trans (hb8.mono hz7)
      have h68:=h6.same (hb8.block _ h6.lt)
      have h78:=h7.same (hb8.block _ h7.lt)
      have hr8:=hr7.same (hb8.block _ hr7.map.lt) (hb8.block _ hr7.lt)
      clear hb8 h6 h7 hr7 hS2 hS3 hHeld
      generalize W7.drew=W8 at h68 h78 hQ8 hr8
     ·go_wp2
      go_roundw
      case rel=>exact⟨pre++[x],rem',best,by simp,hP4.out,(HLX.out trivial),by simp,hr8,by rw[HYF.out];exact h68,hQ8⟩
      case measure=>
       rw[hr8.left_eq,hml.out]
       have:=hLR.out
       simp
       omega
     ·obtain⟨f0,f1,f2,f3,f4⟩:=Zge h78
      obtain⟨g0,g1',g2,g3,g4⟩:=Zge h68
      have fr:=fun j=>h68.free j
      go_wp2
      go_roundw
      case rel=>exact⟨pre++[x],rem',x,by simp,hP4.out,(HLY.out trivial),by simp,(hr8.same (Zca hbne.out) (Zca hrne.out):RngV (Zfu W8 w2.heap.size x0 x1 x2 x3 x4) _ _ _ _ _ _),by rw[HXF.out];exact Zn7 h68 x0 x1 x2 x3 x4,Zkb hQ8 hz2⟩
      case measure=>
       have e:=(hr8.same (Zca hbne.out) (Zca hrne.out):RngV (Zfu W8 w2.heap.size x0 x1 x2 x3 x4) _ _ _ _ _ _).left_eq
       unfold Zfu at e
       rw[e,hml.out]
       have:=hLR.out
       simp
       omega
 ·have g1:=Zcp he
  have HE:=LH (HE.out.trans (if_neg he))
  clear he
  go_enter Tryz.func49,Tryz.ntmps49
  go_wp2_with (go_at_call 60;go_must (refine C.out.mono ?_;rintro e w2 ⟨v2,rfl,h2,hb2⟩;have hQ2:=Zaz hQ hb2;dsimp only))
  go_ret3
  rw[HE.out]
  exact⟨_,rfl,⟨none,0,rfl,⟨by simp,by omega,fun _=>rfl⟩,Zaw.nil _ _⟩,Zaf hQ2⟩
end
section
def Zok (f:List Int→Int) (pre:List (List Int)) (lo hi:Int):Prop:=pre≠[]→(∃a∈pre,lo=f a)∧(∃a∈pre,hi=f a)∧∀a∈pre,lo≤f a∧f a≤hi
theorem Zxj (f:List Int→Int) (x:List Int):Zok f [x] (f x) (f x):=fun _=>⟨⟨x,by simp,rfl⟩,⟨x,by simp,rfl⟩,fun a ha=>by simp at ha;subst ha;exact⟨Int.le_refl _,Int.le_refl _⟩⟩
theorem Zsx {f:List Int→Int} {pre:List (List Int)} {lo hi:Int} (h0:pre≠[]) (h:Zok f pre lo hi) (x:List Int):Zok f (pre++[x]) (min lo (f x)) (max hi (f x)):=fun _=>by
 obtain⟨⟨a,ha,rfl⟩,⟨b,hb,rfl⟩,h3⟩:=h h0
 refine⟨?_,?_,?_⟩
 ·by_cases h4:f a≤f x
  ·exact⟨a,by simp[ha],by omega⟩
  ·exact⟨x,by simp,by omega⟩
 ·by_cases h4:f x≤f b
  ·exact⟨b,by simp[hb],by omega⟩
  ·exact⟨x,by simp,by omega⟩
 ·intro y hy
  rcases List.mem_append.1 hy with hy|hy
  ·have:=h3 y hy;omega
  ·simp at hy;subst hy;omega
theorem Z8w {f:List Int→Int} {pre T:List (List Int)} {lo hi lo' hi':Int} (hp:pre.Perm T) (h0:T≠[]) (h:Zok f pre lo hi) (h':Zok f T lo' hi'):lo=lo'∧hi=hi':=by
 have h1:pre≠[]:=fun e=>by subst e;exact h0 (List.nil_perm.1 hp)
 obtain⟨⟨a,ha,rfl⟩,⟨b,hb,rfl⟩,h3⟩:=h h1
 obtain⟨⟨c,hc,rfl⟩,⟨d,hd,rfl⟩,h4⟩:=h' h0
 have e1:=h3 c (hp.mem_iff.2 hc)
 have e2:=h3 d (hp.mem_iff.2 hd)
 have e3:=h4 a (hp.mem_iff.1 ha)
 have e4:=h4 b (hp.mem_iff.1 hb)
 omega
theorem Zwp (m:MoList) (all:List (List Int)) (c:Int):∀j,j<all.length→Zok (fun t=>Zg0 m t c) (all.take (j+1)) (Zkf m all c j).1 (Zkf m all c j).2
 |0,h=>by
  cases all with
  |nil=>simp at h
  |cons a l=>exact Zxj (fun t=>Zg0 m t c) a
 |j+1,h=>by
  have ih:=Zwp m all c j (by omega)
  rw[List.take_succ_eq_append_getElem h]
  have e:all[j+1]?.getD []=all[j+1]:=by rw[List.getElem?_eq_getElem h];rfl
  simp only[Zkf,e]
  exact Zsx (by simp;intro e;subst e;simp at h) ih _
theorem Zz9 (m:MoList) (all:List (List Int)) (c:Int) (h:0<all.length):Zok (fun t=>Zg0 m t c) all (Zkf m all c (all.length-1)).1 (Zkf m all c (all.length-1)).2:=by
 have:=Zwp m all c (all.length-1) (by omega)
 rwa [show all.length-1+1=all.length by omega,List.take_length] at this
end
section
open Go Go.RowKit
theorem Z6b (m:MoList) (c:Int):Zll m c=if Zh0 m c=0 then (Zkf m (Zao m) c ((Zao m).length-1),0) else ((0,0),Zh0 m c):=rfl
theorem Z40 (m:MoList) (c:Int):Zde m m.claimants.length [c]=Zh0 m c:=Zs0 m c _
theorem Zs1 (W:World) (b:Nat) (u v:Value) (o:Obj) (k:Nat) (h1:k≠b) (h2:k<W.heap.size):(((W.setCell ⟨b,0,none⟩ u).setCell ⟨b,1,none⟩ v).alloc o).heap[k]?=W.heap[k]?:=by
 rw[Below.heap_alloc _ _ _ (by simpa using h2),Zcv _ _ _ _ _ h1,Zcv _ _ _ _ _ h1]
theorem Z3m {W:World} {P:Program} {kt:TypeId} {b0 r b:Nat} {T rem:List (Value × Value)} (h:RngV W P kt b0 r T rem) (h1:b0≠b) (h2:r≠b) (u v:Value) (o:Obj):RngV (((W.setCell ⟨b,0,none⟩ u).setCell ⟨b,1,none⟩ v).alloc o) P kt b0 r T rem:=
 h.same (Zs1 W b u v o _ h1 h.map.lt) (Zs1 W b u v o _ h2 h.lt)
theorem Z39 {W:World} {b:Nat} {x y:Value} {t:TypeId} (h:W.heap[b]?=some (.cells #[x,y] t (0,0))) (u v:Value) (o:Obj):(((W.setCell ⟨b,0,none⟩ u).setCell ⟨b,1,none⟩ v).alloc o).heap[b]?=some (.cells #[u,v] t (0,0)):=by
 rw[Below.heap_alloc _ _ _ (by simpa using lt_of_block h)]
 exact Zak 1 _ (Zak 0 _ h)
theorem Ztt {B b:Nat} {w W:World} (h:Below B w W) (hb:B≤b) (hz:B≤W.heap.size) (u v:Value) (o:Obj):Below B w (((W.setCell ⟨b,0,none⟩ u).setCell ⟨b,1,none⟩ v).alloc o):=
 ((h.setCell hb _).setCell hb _).alloc (by simpa using hz) _
theorem Z1y (ac az aw ap:Option Addr) (cc cz cw cp:Nat) (m:MoList) (c:Int) (w:World) (hm:ListC w ac az aw ap cc cz cw cp m):
  Calls Tryz.prog 52 #[(.agg #[.slice ac m.claimants.length cc,.slice az m.sums.length cz,.slice aw m.words.length cw,.slice ap m.paid.length cp]),.int .i64 c] w fun e w'=>e=.returned (.tuple #[.agg #[.int .i64 (Zll m c).1.1,.int .i64 (Zll m c).1.2],.int .i64 (Zll m c).2])∧Below w.heap.size w w':=by
 have HE:=LH (Z6b m c)
 have hQ:=Below.refl (w.heap.size+1) (w.alloc (.cells #[.slice ac m.claimants.length cc,.slice az m.sums.length cz,.slice aw m.words.length cw,.slice ap m.paid.length cp] 54))
 obtain⟨c0,c1,c2,c3⟩:=Zax hQ
 have hbz:=Zai hQ
 have l1:=hm.okc.len
 have hQ0:=hQ.alloc (by simp) (.cells #[.int .i64 0,.int .i64 0] 36)
 have hQ1:=hQ0.alloc (by simp) (.cells #[.int .i64 c] 3)
 have hI:Zaw (((w.alloc (.cells #[.slice ac m.claimants.length cc,.slice az m.sums.length cz,.slice aw m.words.length cw,.slice ap m.paid.length cp] 54)).alloc (.cells #[.int .i64 0,.int .i64 0] 36)).alloc (.cells #[.int .i64 c] 3)) (some ⟨w.heap.size+1+1,0,none⟩) [c]:=by
  have:=Zqj ((w.alloc (.cells #[.slice ac m.claimants.length cc,.slice az m.sums.length cz,.slice aw m.words.length cw,.slice ap m.paid.length cp] 54)).alloc (.cells #[.int .i64 0,.int .i64 0] 36)) c 3
  rwa [show((w.alloc (.cells #[.slice ac m.claimants.length cc,.slice az m.sums.length cz,.slice aw m.words.length cw,.slice ap m.paid.length cp] 54)).alloc (.cells #[.int .i64 0,.int .i64 0] 36)).heap.size=w.heap.size+1+1 by simp] at this
 have C:=Zgo ac az aw ap cc cz cw cp m m.claimants.length _ [c] 1 _ (hm.mono (Zaf hQ1)) (by omega) (by omega) (by simp) hI
 rw[Z40] at C
 have C:=LH C
 clear hI
 have HV:=LH (fun h:Zh0 m c=0=>Z02 h)
 have hT1:(((w.alloc (.cells #[.slice ac m.claimants.length cc,.slice az m.sums.length cz,.slice aw m.words.length cw,.slice ap m.paid.length cp] 54)).alloc (.cells #[.int .i64 0,.int .i64 0] 36)).alloc (.cells #[.int .i64 c] 3)).heap[w.heap.size+1]?=some (.cells #[.int .i64 0,.int .i64 0] 36 (0,0)):=by
  rw[Below.heap_alloc _ _ _ (by simp)]
  have:=Ze3 (w.alloc (.cells #[.slice ac m.claimants.length cc,.slice az m.sums.length cz,.slice aw m.words.length cw,.slice ap m.paid.length cp] 54)) (.cells #[.int .i64 0,.int .i64 0] 36 (0,0))
  rwa [show(w.alloc (.cells #[.slice ac m.claimants.length cc,.slice az m.sums.length cz,.slice aw m.words.length cw,.slice ap m.paid.length cp] 54)).heap.size=w.heap.size+1 by simp] at this
 generalize Zll m c=r at HE ⊢
 generalize Zh0 m c=er at C HE HV
 by_cases he:er=0
 ·have g1:=Zdf he
  have HE:=LH (HE.out.trans (if_pos he))
  obtain⟨hv,hpos,hs0,hs1⟩:=HV.out he
  obtain⟨i,rfl⟩:∃i:Nat,c=i:=⟨c.toNat,by omega⟩
  have h4:=hv.nc
  have hi:i<4:=by omega
  have hi4:(i:Int)<4:=by omega
  have HX:=LH he
  have HSP:=LH (Zz9 m (Zao m) i hpos)
  have HL:=LH (Zcw m)
  have HTM:=LH (show(Zao m).length≤1024 from Zja m hv.nc _ hv.nz)
  have HN:=LH (Zdz m)
  clear he
  generalize hTT:Zao m=T at HE HSP HL HTM hpos
  have HTT:=LH hTT
  clear hTT
  go_enter Tryz.func52,Tryz.ntmps52
  go_wp2_with (first
   |(at_range;refine Zei rfl (.tmp 28) _ rfl _ _ rfl bo _ rfl hM ?_;intro o' hrg;go_frame)
   |(go_at_call 60;go_must (refine C.out.mono ?_;rintro e w2 ⟨v2,rfl,h2,hb2⟩;obtain⟨bm,bo,rfl,hLW⟩:=h2 HX.out;have hL:=hLW.blk;have hM:=hLW.map;rw[HN.out,HTT.out] at hL hM;have hQ2:=Zjg hQ1 hb2;have hcm:=hL.cells.2.2.2.2.2;have hbm:=hL.lt;have hT:=Zhr hb2 (lt_of_block hT1) hT1;have htl:=lt_of_block hT;dsimp only)))
  have hz2:w.heap.size+1≤w2.heap.size:=by have:=hQ2.size;simpa using this
  have hW:=hQ2.alloc hz2 o'
  have hT6:(w2.alloc o').heap[w.heap.size+1]?=some (.cells #[.int .i64 0,.int .i64 0] 36 (0,0)):=(Below.heap_alloc _ _ _ htl).trans hT
  have hrw:w2.heap.size<(w2.alloc o').heap.size:=by simp
  have hrt:w.heap.size+1≠w2.heap.size:=by omega
  have hbt:bo≠w.heap.size+1:=fun e=>by
   have h1:=hM.lt
   obtain⟨es,cl,hbb,_⟩:=hM
   rw[e,hT] at hbb
   cases hbb
  generalize (w2.alloc o')=W at hrg hW hT6 hrw
  have HRT:=LH hrt
  have HBT:=LH hbt
  clear hrt hbt
  obtain⟨ri,hri⟩:∃ri,ri=w2.heap.size:=⟨_,rfl⟩
  rw[←hri] at hrg HRT hrw
  have HRI:=LH hri
  rw[←hri]
  clear hri
  go_loopw [7] (fun f wr=>∃(pre rem:List (List Int)) (lo hi:Int) (b:Bool),f=.bool b∧Hid (b=true↔pre=[])∧(pre++rem).Perm T∧Zok (fun t=>Zg0 m t i) pre lo hi∧RngV wr Tryz.prog 183 bo ri (ents m T) (rem.map fun t=>(five (pad 5 t),four m t))∧wr.heap[w.heap.size+1]?=some (.cells #[.int .i64 lo,.int .i64 hi] 36 (0,0))∧Below (w.heap.size+1) (w.alloc (.cells #[.slice ac m.claimants.length cc,.slice az m.sums.length cz,.slice aw m.words.length cw,.slice ap m.paid.length cp] 54)) wr) (fun _ wr=>wr.rangeLeft bo ri)
  case atStart=>exact⟨[],T,0,0,true,rfl,LH (by simp),by simp,fun h=>absurd rfl h,hrg,hT6,hW⟩
  case round=>
   obtain⟨pre,rem,lo,hi,b,rfl,hb,hperm,hspan,hrg1,hT7,hQ3⟩:=hrel
   have hz3:w.heap.size+1≤wr.heap.size:=by have:=hQ3.size;simpa using this
   have htl3:=lt_of_block hT7
   go_wp2_with (at_next;refine Zex rfl (.tmp 29) rfl _ (fun t=>five (pad 5 t)) (fun t=>four m t) bo ri _ rem rfl hrg1 ?_ ?_)
   ·intro h0
    subst h0
    rw[List.append_nil] at hperm
    have hTne:T≠[]:=fun e=>by subst e;simp at hpos
    have hE:=LH (Z8w hperm hTne hspan HSP.out)
    have t0:=Zaa 0 hT7 rfl
    have t1:=Zaa 1 hT7 rfl
    have f0:=Zad 0 hT7
    have f1:=Zad 1 hT7
    simp only[List.getElem_toArray,List.getElem_cons_zero,List.getElem_cons_succ] at t0 t1
    clear hperm hspan hTne hb hT7
    go_wp2
    (try simp only[Exit.inBlock,Exit.then])
    refine bodyPost_ret (v:=.tuple #[.agg #[.int .i64 lo,.int .i64 hi],.int .i64 0]) ?_ rfl ⟨?_,?_⟩
    ·rw[results_cell_tmp rfl]
     go_simp
    ·rw[HE.out,←hE.out.1,←hE.out.2]
    ·exact((Zaf hQ3).setCell (by simp) _).setCell (by simp) _
   ·intro x rem' w3 hp hrg3 hg3 hs3 hen
    have hperm3:=(List.Perm.append_left pre hp).symm.trans hperm
    have hxT:x∈T:=hperm3.mem_iff.1 (by simp)
    have hxl:=HL.out x hxT
    have hT3:w3.heap[w.heap.size+1]?=some (.cells #[.int .i64 lo,.int .i64 hi] 36 (0,0)):=(hg3.block _ htl3 (fun e=>HRT.out (Option.some.inj e))).trans hT7
    have hQ4:Below (w.heap.size+1) (w.alloc (.cells #[.slice ac m.claimants.length cc,.slice az m.sums.length cz,.slice aw m.words.length cw,.slice ap m.paid.length cp] 54)) w3:=hQ3.grown hg3 hz3 (fun k e=>by have:=Option.some.inj e;have:=HRI.out;omega)
    have hz4:w.heap.size+1≤w3.heap.size:=by have:=hQ4.size;simpa using this
    have hd:Hid (Zb6 m (pad 5 x) i m.sums.length=Zg0 m x i):=by show _=_;unfold Zg0;rw[Ztf m x i 5 _ (by omega),hxl]
    have hP4:=LH (show((pre++[x])++rem').Perm T from by simpa using hperm3)
    have hLR:=LH (show rem.length=rem'.length+1 from by simpa using hp.length_eq)
    have hml:=LH hrg1.left_eq
    clear hperm hperm3 hp hxT hxl hrg1 hQ3 hT7
    have hda:=Zs3 m (pad 5 x) m.sums.length i (by omega)
    rw[hd.out] at hda
    unfold Zgi at hda
    clear hd
    have hspan1:pre=[]→Zok (fun t=>Zg0 m t i) (pre++[x]) (Zg0 m x i) (Zg0 m x i):=fun e=>by subst e;exact Zxj (fun t=>Zg0 m t i) x
    have hspan2:pre≠[]→Zok (fun t=>Zg0 m t i) (pre++[x]) (min lo (Zg0 m x i)) (max hi (Zg0 m x i)):=fun e=>Zsx (f:=fun t=>Zg0 m t i) e hspan x
    clear hspan
    generalize Zg0 m x i=n at hda hspan1 hspan2
    obtain⟨v0,hv0⟩:∃v0,v0=Zb6 m (pad 5 x) 0 m.sums.length:=⟨_,rfl⟩
    obtain⟨v1,hv1⟩:∃v1,v1=Zb6 m (pad 5 x) 1 m.sums.length:=⟨_,rfl⟩
    obtain⟨v2,hv2⟩:∃v2,v2=Zb6 m (pad 5 x) 2 m.sums.length:=⟨_,rfl⟩
    obtain⟨v3,hv3⟩:∃v3,v3=Zb6 m (pad 5 x) 3 m.sums.length:=⟨_,rfl⟩
    have hfx:four m x=.agg #[.int .i64 v0,.int .i64 v1,.int .i64 v2,.int .i64 v3]:=by rw[hv0,hv1,hv2,hv3]
    rw[←hv0,←hv1,←hv2,←hv3] at hda
    rw[hfx] at hen ⊢
    clear hv0 hv1 hv2 hv3 hfx
    have hcn:(w3.alloc (.cells #[.int .i64 v0,.int .i64 v1,.int .i64 v2,.int .i64 v3] 188)).cell? ⟨w3.heap.size,i,none⟩=some (.int .i64 n):=Zaj (Below.refl _ _) i _ (by
     have:(#[Value.int .i64 v0,.int .i64 v1,.int .i64 v2,.int .i64 v3]:Array Value)[i]?=(([v0,v1,v2,v3]:List Int).map (Value.int .i64))[i]?:=by simp
     rw[this,List.getElem?_map,hda];rfl)
    have HS3:=LH hs3
    have htl4:=lt_of_block hT3
    have t0:=Zaa 0 hT3 rfl
    have t1:=Zaa 1 hT3 rfl
    have f0:=Zad 0 hT3
    have f1:=Zad 1 hT3
    simp only[List.getElem_toArray,List.getElem_cons_zero,List.getElem_cons_succ] at t0 t1
    have H1:=LH hspan1
    have H2:=LH hspan2
    clear hs3 hda hspan1 hspan2
    cases b
    ·have H2:=LH (H2.out (fun e=>by have:=hb.out.2 e;cases this))
     go_wp2_with (first|(refine Zdk rfl (.tmp 29) rfl _ ri rfl hen ?_;go_frame))
     have hR:=Z3m hrg3 HBT.out (fun e=>HRT.out e.symm) (.int .i64 (if n<lo then n else lo)) (.int .i64 (if hi<n then n else hi)) (.cells #[.int .i64 v0,.int .i64 v1,.int .i64 v2,.int .i64 v3] 188)
     have e1:(if n<lo then n else lo)=min lo n:=by split<;>omega
     have e2:(if hi<n then n else hi)=max hi n:=by split<;>omega
     have hB:=Z39 hT3 (.int .i64 (if n<lo then n else lo)) (.int .i64 (if hi<n then n else hi)) (.cells #[.int .i64 v0,.int .i64 v1,.int .i64 v2,.int .i64 v3] 188)
     have hQ5:=Ztt hQ4 (Nat.le_refl _) hz4 (.int .i64 (if n<lo then n else lo)) (.int .i64 (if hi<n then n else hi)) (.cells #[.int .i64 v0,.int .i64 v1,.int .i64 v2,.int .i64 v3] 188)
     go_roundw
     case rel=>exact⟨pre++[x],rem',_,_,false,rfl,LH (by simp),hP4.out,H2.out,hR,by rw[←e1,←e2];exact hB,hQ5⟩
     case measure=>
      rw[hR.left_eq,hml.out]
      have:=hLR.out
      simp
      omega
    ·have H1:=LH (H1.out (hb.out.1 rfl))
     go_wp2_with (first|(refine Zdk rfl (.tmp 29) rfl _ ri rfl hen ?_;go_frame))
     have hR0:RngV ((w3.setCell ⟨w.heap.size+1,0,none⟩ (.int .i64 n)).setCell ⟨w.heap.size+1,1,none⟩ (.int .i64 n)) Tryz.prog 183 bo ri (ents m T) (rem'.map fun t=>(five (pad 5 t),four m t)):=hrg3.same ((Zcv _ _ _ _ _ HBT.out).trans (Zcv _ _ _ _ _ HBT.out)) ((Zcv _ _ _ _ _ (fun e=>HRT.out e.symm)).trans (Zcv _ _ _ _ _ (fun e=>HRT.out e.symm)))
     have hR:=Z3m hR0 HBT.out (fun e=>HRT.out e.symm) (.int .i64 n) (.int .i64 n) (.cells #[.int .i64 v0,.int .i64 v1,.int .i64 v2,.int .i64 v3] 188)
     have hB0:((w3.setCell ⟨w.heap.size+1,0,none⟩ (.int .i64 n)).setCell ⟨w.heap.size+1,1,none⟩ (.int .i64 n)).heap[w.heap.size+1]?=some (.cells #[.int .i64 n,.int .i64 n] 36 (0,0)):=Zak 1 _ (Zak 0 _ hT3)
     have hB:=Z39 hB0 (.int .i64 n) (.int .i64 n) (.cells #[.int .i64 v0,.int .i64 v1,.int .i64 v2,.int .i64 v3] 188)
     have hQ40:Below (w.heap.size+1) (w.alloc (.cells #[.slice ac m.claimants.length cc,.slice az m.sums.length cz,.slice aw m.words.length cw,.slice ap m.paid.length cp] 54)) ((w3.setCell ⟨w.heap.size+1,0,none⟩ (.int .i64 n)).setCell ⟨w.heap.size+1,1,none⟩ (.int .i64 n)):=(hQ4.setCell (Nat.le_refl _) _).setCell (Nat.le_refl _) _
     have hQ5:=Ztt hQ40 (Nat.le_refl _) (by simpa using hz4) (.int .i64 n) (.int .i64 n) (.cells #[.int .i64 v0,.int .i64 v1,.int .i64 v2,.int .i64 v3] 188)
     go_roundw
     case rel=>exact⟨pre++[x],rem',n,n,false,rfl,LH (by simp),hP4.out,H1.out,hR,hB,hQ5⟩
     case measure=>
      rw[hR.left_eq,hml.out]
      have:=hLR.out
      simp
      omega
 ·have g1:=Zcp he
  have HE:=LH (HE.out.trans (if_neg he))
  clear he
  go_enter Tryz.func52,Tryz.ntmps52
  go_wp2_with (go_at_call 60;go_must (refine C.out.mono ?_;rintro e w2 ⟨v2,rfl,h2,hb2⟩;have hQ2:=Zjg hQ1 hb2;have hT:=Zhr hb2 (lt_of_block hT1) hT1;have t0:=Zaa 0 hT rfl;have t1:=Zaa 1 hT rfl;have f0:=Zad 0 hT;have f1:=Zad 1 hT;have htl:=lt_of_block hT;dsimp only))
  (try simp only[Exit.inBlock,Exit.then])
  refine bodyPost_ret (v:=.tuple #[.agg #[.int .i64 0,.int .i64 0],.int .i64 er]) ?_ rfl ⟨?_,?_⟩
  ·rw[results_cell_tmp rfl]
   go_simp
  ·rw[HE.out]
  ·exact((Zaf hQ2).setCell (by simp) _).setCell (by simp) _
end
end Go.Proofs.YtklconegomgjaaaGreat
