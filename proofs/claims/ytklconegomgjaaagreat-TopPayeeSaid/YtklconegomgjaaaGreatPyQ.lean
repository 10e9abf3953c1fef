/- What is proved here: the walk of TopPayee: it returns true, and turns nothing that was there. Conditions: the town lies in memory; its letters are bytes; its ties leave room for one more. -/
import Derived.Test.YtklconegomgjaaaGreatPyP
import Derived.Test.YtklconegomgjaaaGreatPeAw2
import Derived.Test.YtklconegomgjaaaGreatAw4
import Derived.Test.YtklconegomgjaaaGreatErEG
set_option linter.all false
set_option maxRecDepth 100000
set_option maxHeartbeats 16000000
namespace Go.Proofs.YtklconegomgjaaaGreat
open Go Go.RowKit Go.Shelf
attribute [local go_sem] Zfo Zfs
theorem Zqt (a1 a2 a3 a4:Option Addr) (k1 k2 k3 k4:Nat) (t:PeW) (X Z:PeM) (xa xb:Int) (xs same:Bool) (w:World) (hm:TownC w a1 a2 a3 a4 k1 k2 k3 k4 t) (hlb:∀x∈t.ear.alphas,∀i (h:i<x.letters.length),0≤x.letters[i].letter∧x.letters[i].letter≤255) (hbig:(t.ties.length+1)*24≤140737488355328):
  Calls Tryz.prog 4 #[(.agg #[.int .i64 t.ear.sounds,.slice a1 t.ear.alphas.length k1,.slice a2 t.ear.spells.length k2,.int .i64 t.vills,.slice a3 t.ments.length k3,.slice a4 t.ties.length k4]),.agg #[.int .i64 X.spell,.int .i64 X.vill,.int .i64 X.lo,.int .i64 X.hi,.int .i64 X.par,.int .i64 Z.spell,.int .i64 Z.vill,.int .i64 Z.lo,.int .i64 Z.hi,.int .i64 Z.par,.int .i64 xa,.int .i64 xb,.bool xs,.bool same]] w fun e w'=>e=.returned (.bool true)∧Below w.heap.size w w':=by
 have l3:=hm.okm.len
 have q3:=hm.okm.1
 obtain⟨Y,hY⟩:∃Y:World,Y=(w.alloc (.cells #[.int .i64 t.ear.sounds,.slice a1 t.ear.alphas.length k1,.slice a2 t.ear.spells.length k2,.int .i64 t.vills,.slice a3 t.ments.length k3,.slice a4 t.ties.length k4] 29)).alloc (.cells #[.int .i64 X.spell,.int .i64 X.vill,.int .i64 X.lo,.int .i64 X.hi,.int .i64 X.par,.int .i64 Z.spell,.int .i64 Z.vill,.int .i64 Z.lo,.int .i64 Z.hi,.int .i64 Z.par,.int .i64 xa,.int .i64 xb,.bool xs,.bool same] 46):=⟨_,rfl⟩
 have hbY:Below w.heap.size w Y:=by rw[hY];exact((Below.refl _ _).alloc (Nat.le_refl _) _).alloc (by simp) _
 have hB1:Y.heap[w.heap.size]?=some (.cells #[.int .i64 t.ear.sounds,.slice a1 t.ear.alphas.length k1,.slice a2 t.ear.spells.length k2,.int .i64 t.vills,.slice a3 t.ments.length k3,.slice a4 t.ties.length k4] 29 (0,0)):=by rw[hY];exact(heap_alloc_old _ _ (by simp)).trans (Zac _ _ rfl)
 have hB2:Y.heap[w.heap.size+1]?=some (.cells #[.int .i64 X.spell,.int .i64 X.vill,.int .i64 X.lo,.int .i64 X.hi,.int .i64 X.par,.int .i64 Z.spell,.int .i64 Z.vill,.int .i64 Z.lo,.int .i64 Z.hi,.int .i64 Z.par,.int .i64 xa,.int .i64 xb,.bool xs,.bool same] 46 (0,0)):=by rw[hY];exact Zac _ _ (by simp)
 have hYz:Y.heap.size=w.heap.size+1+1:=by rw[hY];simp
 have HY:=LH hY
 clear hY
 have HM:=LH hm
 have HBY:=LH hbY
 have HYZ:=LH hYz
 have HLB:=LH hlb
 have b0:=Zaa 0 hB1 rfl
 have b1:=Zaa 1 hB1 rfl
 have b2:=Zaa 2 hB1 rfl
 have b3:=Zaa 3 hB1 rfl
 have b4:=Zaa 4 hB1 rfl
 have b5:=Zaa 5 hB1 rfl
 have bz:=lt_of_block hB1
 simp only[List.getElem_toArray,List.getElem_cons_zero,List.getElem_cons_succ] at b0 b1 b2 b3 b4 b5
 clear hm hbY hlb hYz
 go_enter Tryz.func4,Tryz.ntmps4
 go_upto_region 1 with(fail)
 rw[←HY.out]
 go_upto_region 2 with(fail)
 obtain⟨V,hV⟩:∃V:World,V=Y.alloc (.cells #[.int .i64 t.ear.sounds,.slice a1 t.ear.alphas.length k1,.slice a2 t.ear.spells.length k2,.int .i64 t.vills,.slice a3 t.ments.length k3,.slice a4 t.ties.length k4] 29):=⟨_,rfl⟩
 rw[←hV]
 have hYV:Below Y.heap.size Y V:=by rw[hV];exact Zf6 _ _
 have hVo:V.heap[Y.heap.size]?=some (.cells #[.int .i64 t.ear.sounds,.slice a1 t.ear.alphas.length k1,.slice a2 t.ear.spells.length k2,.int .i64 t.vills,.slice a3 t.ments.length k3,.slice a4 t.ties.length k4] 29 (0,0)):=by rw[hV];exact Zac _ _ rfl
 have h1:=(hYV.block _ (lt_of_block hB1)).trans hB1
 have h2:=(hYV.block _ (lt_of_block hB2)).trans hB2
 have hwV:Below w.heap.size w V:=HBY.out.trans (hYV.mono HBY.out.size)
 clear hV hYV hB1 hB2 b0 b1 b2 b3 b4 b5 bz
 go_cut [] from 35 to 43 (fun W=>∃a9 c9,W.heap[Y.heap.size]?=some (.cells #[.int .i64 t.ear.sounds,.slice a1 t.ear.alphas.length k1,.slice a2 t.ear.spells.length k2,.int .i64 t.vills,.slice a3 t.ments.length k3,.slice a9 (Zhi t ⟨xa,xb,xs⟩).ties.length c9] 29 (0,0))∧SlOk a9 (Zhi t ⟨xa,xb,xs⟩).ties.length c9∧Zby W a9 (Zhi t ⟨xa,xb,xs⟩).ties∧Below Y.heap.size V W)
 case first=>
  obtain⟨L1,hL1⟩:∃L1,L1=t.ties:=⟨_,rfl⟩
  obtain⟨L2,hL2⟩:∃L2,L2=L1++[(⟨xa,xb,xs⟩:PeT)]:=⟨_,rfl⟩
  have htk:=LH hL2
  have hK2:Hid ((Zhi t ⟨xa,xb,xs⟩).ties=L2):=LH (by rw[hL2,hL1];rfl)
  have hsz:SlOk a4 L1.length k4:=by rw[hL1];exact HM.out.okt
  have hzV:Zby V a4 L1:=by rw[hL1];exact(HM.out.mono hwV).ties
  have hll:=hsz.len
  have hbb:(L1.length+1)*24≤140737488355328:=by rw[hL1];exact hbig
  rw[←hL1] at hVo h1
  have SF:Hid (∀W,Below V.heap.size V W→(fun W=>Below V.heap.size V W∧W.cell? ⟨w.heap.size,5,none⟩=some (.slice a4 L1.length k4)∧W.cell? ⟨w.heap.size+1,10,none⟩=some (.int .i64 xa)∧W.cell? ⟨w.heap.size+1,11,none⟩=some (.int .i64 xb)∧W.cell? ⟨w.heap.size+1,12,none⟩=some (.bool xs)∧w.heap.size<W.heap.size∧w.heap.size+1<W.heap.size∧Y.heap.size<W.heap.size) W):=LH (fun W h=>by
   have k1:=(h.block _ (lt_of_block h1)).trans h1
   have k2:=(h.block _ (lt_of_block h2)).trans h2
   exact⟨h,Zaa 5 k1 rfl,Zaa 10 k2 rfl,Zaa 11 k2 rfl,Zaa 12 k2 rfl,lt_of_block k1,lt_of_block k2,Nat.lt_of_lt_of_le (lt_of_block hVo) h.size⟩)
  have zoV:=lt_of_block hVo
  clear hbig hL1 hL2 h1 h2
  refine Zgq ?_
  refine Zcq (fun W=>Below V.heap.size V W∧W.cell? ⟨w.heap.size,5,none⟩=some (.slice a4 L1.length k4)∧W.cell? ⟨w.heap.size+1,10,none⟩=some (.int .i64 xa)∧W.cell? ⟨w.heap.size+1,11,none⟩=some (.int .i64 xb)∧W.cell? ⟨w.heap.size+1,12,none⟩=some (.bool xs)∧w.heap.size<W.heap.size∧w.heap.size+1<W.heap.size∧Y.heap.size<W.heap.size) 9 (by kernel_rfl) (SF.out V.drew (by (repeat' (first|assumption|exact Below.refl _ _|refine Below.drew ?_|refine Below.alloc ?_ (by first|omega|(simp<;>omega)) _)))) (fun hHeld=>?_)
  (refine tkZ 1 ?_;simp only[frT])
  (refine tkZ 2 ?_;simp only[frT])
  (refine tkZ 4 ?_;simp only[frT])
  (refine tkZ 5 ?_;simp only[frT])
  refine Zap (rs:=[0,6]) (by kernel_rfl) (by simp) (AllZ.cons rfl (fun K hK=>?_) (AllZ.cons rfl (fun K hK=>?_) AllZ.nil));(focus ((go_simp;refine hK.out _ _ (fun _=>SF.out _ (by (repeat' (first|assumption|exact Below.refl _ _|refine Below.drew ?_|refine Below.alloc ?_ (by first|omega|(simp<;>omega)) _)))) ?_;(try simp only[frT]);clear hK);refine Zap (rs:=[3,6]) (by kernel_rfl) (by simp) (AllZ.cons rfl (fun K hK=>?_) (AllZ.cons rfl (fun K hK=>?_) AllZ.nil));(focus (have hm0:((V.alloc (.cells #[] 44)).drew).ownsRow V.heap.size 44 3 (.slice (some ⟨V.heap.size,0,none⟩) 0 0) 0 []:=(Zdy (Nat.le_refl _) _ _).drew;refine Zcs (.tmp 35) (.tmp 37) (v:=.slice (some ⟨V.heap.size,0,none⟩) 0 0) Zvu (by rfl) (by rfl) (by rfl) (by rfl) V.heap.size 0 L1.length [] (Zbg Za9 L1) hm0 (Za2.tiesP hsz.2.2 (hzV.mono (by (repeat' (first|assumption|exact Below.refl _ _|refine Below.drew ?_|refine Below.alloc ?_ (by first|omega|(simp<;>omega)) _))))) (by omega) (by omega) (by first|omega|(simp[Zbt]<;>omega)) ?_;intro v1 V1 ho1 hg1 _;(have hB1:Below V.heap.size V V1:=Zcd (by (repeat' (first|assumption|exact Below.refl _ _|refine Below.drew ?_|refine Below.alloc ?_ (by first|omega|(simp<;>omega)) _))) hm0 hg1);(rw[Nat.zero_add,List.nil_append] at ho1);have hz1v:=hB1.size;refine hK.out _ _ (fun _=>SF.out _ hB1) ?_;(try simp only[frT]);clear hK;refine Zap (rs:=[6]) (by kernel_rfl) (by simp) (AllZ.cons rfl (fun K hK=>?_) AllZ.nil);(go_simp;refine hK.out _ _ (fun _=>SF.out _ (by (repeat' (first|assumption|exact Below.refl _ _|refine Below.drew ?_|refine Below.alloc ?_ (by first|omega|(simp<;>omega)) _)))) ?_;(try simp only[frT]);clear hK);have hs2:=Za2.tieP V1 xa xb xs 44;refine Zap (rs:=[7]) (by kernel_rfl) (by simp) (AllZ.cons rfl (fun K hK=>?_) AllZ.nil)));rotate_left 1;(focus ((go_simp;refine hK.out _ _ (fun _=>SF.out _ (by (repeat' (first|assumption|exact Below.refl _ _|refine Below.drew ?_|refine Below.alloc ?_ (by first|omega|(simp<;>omega)) _)))) ?_;(try simp only[frT]);clear hK);refine Zap (rs:=[3]) (by kernel_rfl) (by simp) (AllZ.cons rfl (fun K hK=>?_) AllZ.nil);have hm0:(((V.alloc (.cells #[] 44)).alloc (.cells #[.int .i64 xa,.int .i64 xb,.bool xs] 44)).drew).ownsRow V.heap.size 44 3 (.slice (some ⟨V.heap.size,0,none⟩) 0 0) 0 []:=((Zdy (Nat.le_refl _) _ _).alloc _).drew;have hsr:Za2 (((V.alloc (.cells #[] 44)).alloc (.cells #[.int .i64 xa,.int .i64 xb,.bool xs] 44)).drew) (.slice (some ⟨V.heap.size+1,0,none⟩) 1 1) 1 3 [.int .i64 xa,.int .i64 xb,.bool xs]:=(by have h:=(Za2.tieP (V.alloc (.cells #[] 44)) xa xb xs 44).below (Zah (Below.refl _ _));rwa [show(V.alloc (.cells #[] 44)).heap.size=V.heap.size+1 from by simp] at h);refine Zcs (.tmp 35) (.tmp 37) (v:=.slice (some ⟨V.heap.size,0,none⟩) 0 0) Zvu (by rfl) (by rfl) (by rfl) (by rfl) V.heap.size 0 L1.length [] (Zbg Za9 L1) hm0 (Za2.tiesP hsz.2.2 (hzV.mono (by (repeat' (first|assumption|exact Below.refl _ _|refine Below.drew ?_|refine Below.alloc ?_ (by first|omega|(simp<;>omega)) _))))) (by omega) (by omega) (by first|omega|(simp[Zbt]<;>omega)) ?_;intro v1 V1 ho1 hg1 _;(have hB1:Below V.heap.size V V1:=Zcd (by (repeat' (first|assumption|exact Below.refl _ _|refine Below.drew ?_|refine Below.alloc ?_ (by first|omega|(simp<;>omega)) _))) hm0 hg1);(rw[Nat.zero_add,List.nil_append] at ho1);have hz1v:=hB1.size;refine hK.out _ _ (fun _=>SF.out _ hB1) ?_;(try simp only[frT]);clear hK;have hs2:=Zgc hsr hg1 (by simp[Value.ownBlock]);refine Zap (rs:=[7]) (by kernel_rfl) (by simp) (AllZ.cons rfl (fun K hK=>?_) AllZ.nil)))));rotate_left 2;(focus ((go_simp;refine hK.out _ _ (fun _=>SF.out _ (by (repeat' (first|assumption|exact Below.refl _ _|refine Below.drew ?_|refine Below.alloc ?_ (by first|omega|(simp<;>omega)) _)))) ?_;(try simp only[frT]);clear hK);refine Zap (rs:=[0]) (by kernel_rfl) (by simp) (AllZ.cons rfl (fun K hK=>?_) AllZ.nil);(go_simp;refine hK.out _ _ (fun _=>SF.out _ (by (repeat' (first|assumption|exact Below.refl _ _|refine Below.drew ?_|refine Below.alloc ?_ (by first|omega|(simp<;>omega)) _)))) ?_;(try simp only[frT]);clear hK);refine Zap (rs:=[3]) (by kernel_rfl) (by simp) (AllZ.cons rfl (fun K hK=>?_) AllZ.nil);have hm0:(((V.alloc (.cells #[.int .i64 xa,.int .i64 xb,.bool xs] 44)).alloc (.cells #[] 44)).drew).ownsRow V.heap.size 44 3 (.slice (some ⟨V.heap.size+1,0,none⟩) 0 0) 0 []:=(by have h:=(Zdy (B:=V.heap.size) (W:=V.alloc (.cells #[.int .i64 xa,.int .i64 xb,.bool xs] 44)) (by simp) 44 3).drew;rwa [show(V.alloc (.cells #[.int .i64 xa,.int .i64 xb,.bool xs] 44)).heap.size=V.heap.size+1 from by simp] at h);have hsr:Za2 (((V.alloc (.cells #[.int .i64 xa,.int .i64 xb,.bool xs] 44)).alloc (.cells #[] 44)).drew) (.slice (some ⟨V.heap.size,0,none⟩) 1 1) 1 3 [.int .i64 xa,.int .i64 xb,.bool xs]:=(Za2.tieP V xa xb xs 44).below (Zah (Zf6 _ _));refine Zcs (.tmp 35) (.tmp 37) (v:=.slice (some ⟨V.heap.size+1,0,none⟩) 0 0) Zvu (by rfl) (by rfl) (by rfl) (by rfl) V.heap.size 0 L1.length [] (Zbg Za9 L1) hm0 (Za2.tiesP hsz.2.2 (hzV.mono (by (repeat' (first|assumption|exact Below.refl _ _|refine Below.drew ?_|refine Below.alloc ?_ (by first|omega|(simp<;>omega)) _))))) (by omega) (by omega) (by first|omega|(simp[Zbt]<;>omega)) ?_;intro v1 V1 ho1 hg1 _;(have hB1:Below V.heap.size V V1:=Zcd (by (repeat' (first|assumption|exact Below.refl _ _|refine Below.drew ?_|refine Below.alloc ?_ (by first|omega|(simp<;>omega)) _))) hm0 hg1);(rw[Nat.zero_add,List.nil_append] at ho1);have hz1v:=hB1.size;refine hK.out _ _ (fun _=>SF.out _ hB1) ?_;(try simp only[frT]);clear hK;have hs2:=Zgc hsr hg1 (by simp[Value.ownBlock]);refine Zap (rs:=[7]) (by kernel_rfl) (by simp) (AllZ.cons rfl (fun K hK=>?_) AllZ.nil)));all_goals (refine Zcs (.tmp 38) (.tmp 41) (v:=v1) Zvu (by rfl) (by rfl) (by rfl) (by rfl) V.heap.size L1.length 1 (Zbg Za9 L1) [.int .i64 xa,.int .i64 xb,.bool xs] (by first|exact ho1|exact ho1.alloc _) hs2 (by omega) (by omega) (by first|omega|(simp[Zbt]<;>omega)) ?_;intro v2 V2 ho2 hg2 _;(have hB2:Below V.heap.size V V2:=Zcd (by (repeat' (first|assumption|exact Below.refl _ _|refine Below.drew ?_|refine Below.alloc ?_ (by first|omega|(simp<;>omega)) _))) (by first|exact ho1|exact ho1.alloc _) hg2);(rw[Z30,←htk.out] at ho2);(have e2:L1.length+1=L2.length:=by rw[htk.out];simp);(rw[e2] at ho2);clear e2;(obtain⟨-,a9,c9,rfl,hs9,-⟩:=Zwt ho2);(have hc2:V2.heap[Y.heap.size]?=_:=(hB2.block _ zoV).trans hVo);have hHeld2:=SF.out _ hB2;refine hK.out _ _ (fun _=>hHeld2) ?_;(try simp only[frT]);clear hK;(refine tkZ 8 ?_;simp only[frT]);have k2:V2.cell? ⟨Y.heap.size,5,none⟩=some (.slice a4 L1.length k4):=Zaa 5 hc2 rfl;have k3:=Zad 5 hc2;have zo2:=lt_of_block hc2;refine Zap (rs:=[9]) (by kernel_rfl) (by simp) (AllZ.cons rfl (fun K hK=>?_) AllZ.nil);(go_simp;refine hK.out _ _ (fun h=>absurd rfl h) ?_;(try simp only[frT]);clear hK;refine Zc3 (by kernel_rfl) ?_ _))
  all_goals
   dsimp only[Zl9]
   go_wp2
   go_meet
   case rel=>
    rw[hK2.out]
    have hbX:Below Y.heap.size V (V2.setCell ⟨Y.heap.size,5,none⟩ (.slice a9 L2.length c9)):=(hB2.mono (Nat.le_of_lt zoV)).setCell (Nat.le_refl _) _
    have h:=ownsRow_setCell_other ho2 (a:=⟨Y.heap.size,5,none⟩) (fun e=>by have h1:=(ho2.lt _ e).1;simp only at h1;omega) (.slice a9 L2.length c9)
    obtain⟨_,a8,c8,e8,hs8,hw8⟩:=Zwt h
    cases e8
    exact⟨a9,c9,Zak 5 _ hc2,hs8,hw8,hbX⟩
 case rest=>
  obtain⟨a9,c9,h3,hs9,ht9,hVW⟩:=hcut
  rename World=>P
  have hyw:w.heap.size+1<Y.heap.size:=by have:=HYZ.out;omega
  replace h1:=(hVW.block _ (by omega)).trans h1
  replace h2:=(hVW.block _ hyw).trans h2
  have hwP:Below w.heap.size w P:=hwV.trans (hVW.mono (by omega))
  have MT:=HM.out.mono hwP
  have MM:TownC P a1 a2 a3 a9 k1 k2 k3 c9 (Zhi t ⟨xa,xb,xs⟩):=⟨MT.book,MT.okm,hs9,MT.ments,ht9⟩
  obtain⟨tm,htm⟩:∃tm,tm=Zhi t ⟨xa,xb,xs⟩:=⟨_,rfl⟩
  obtain⟨nT,hnT⟩:∃nT,nT=tm.ties.length:=⟨_,rfl⟩
  rw[←htm] at h3 hs9 ht9 MM
  rw[←hnT] at h3
  have CK1:Hid (∀V,Below P.heap.size P V→Calls Tryz.prog 5 #[(.agg #[.int .i64 t.ear.sounds,.slice a1 t.ear.alphas.length k1,.slice a2 t.ear.spells.length k2,.int .i64 t.vills,.slice a3 t.ments.length k3,.slice a4 t.ties.length k4])] V (Zqy (PeValid t) V)):=LH (fun V h=>Zls a1 a2 a3 a4 k1 k2 k3 k4 t V (MT.mono h) HLB.out)
  have CK2:Hid (∀V,Below P.heap.size P V→Calls Tryz.prog 5 #[(.agg #[.int .i64 t.ear.sounds,.slice a1 t.ear.alphas.length k1,.slice a2 t.ear.spells.length k2,.int .i64 t.vills,.slice a3 t.ments.length k3,.slice a9 nT c9])] V (Zqy (PeValid tm) V)):=LH (fun V h=>by
   have h:=Zls a1 a2 a3 a9 k1 k2 k3 c9 tm V (MM.mono h) (by rw[htm];exact HLB.out)
   rw[←hnT] at h
   rw[htm] at h ⊢
   exact h)
  have TR:Hid (∀V,Below P.heap.size P V→PeValid tm→Calls Tryz.prog 11 #[(.agg #[.int .i64 t.ear.sounds,.slice a1 t.ear.alphas.length k1,.slice a2 t.ear.spells.length k2,.int .i64 t.vills,.slice a3 t.ments.length k3,.slice a9 nT c9]),.slice none 0 0] V (Zo7 tm V)):=LH (fun V h hv=>by
   have h:=Zu7 a1 a2 a3 a9 k1 k2 k3 c9 tm V (MM.mono h) hv.ok
   rw[←hnT] at h
   rw[htm] at h ⊢
   exact h)
  have W1:Hid (∀(x:PeM) (V:World),Below P.heap.size P V→PeValid t→Za6 t 0≠[]→Calls Tryz.prog 13 #[(.agg #[.int .i64 t.ear.sounds,.slice a1 t.ear.alphas.length k1,.slice a2 t.ear.spells.length k2,.int .i64 t.vills,.slice a3 t.ments.length k3,.slice a4 t.ties.length k4]),.agg #[.int .i64 x.spell,.int .i64 x.vill,.int .i64 x.lo,.int .i64 x.hi,.int .i64 x.par]] V fun e w'=>∃v,e=.returned (.tuple #[v,.int .i64 (Zbc t t.ments.length x)])∧Ze7 w' v (whoX t x)∧Below V.heap.size V w'):=LH (fun x V h hv hf=>Zrj a1 a2 a3 a4 k1 k2 k3 k4 t x V (MT.mono h) hv hf)
  have W2:Hid (∀(x:PeM) (V:World),Below P.heap.size P V→PeValid tm→Za6 tm 0≠[]→Calls Tryz.prog 13 #[(.agg #[.int .i64 t.ear.sounds,.slice a1 t.ear.alphas.length k1,.slice a2 t.ear.spells.length k2,.int .i64 t.vills,.slice a3 t.ments.length k3,.slice a9 nT c9]),.agg #[.int .i64 x.spell,.int .i64 x.vill,.int .i64 x.lo,.int .i64 x.hi,.int .i64 x.par]] V fun e w'=>∃v,e=.returned (.tuple #[v,.int .i64 (Zbc t t.ments.length x)])∧Ze7 w' v (whoX tm x)∧Below V.heap.size V w'):=LH (fun x V h hv hf=>by
   have h:=Zrj a1 a2 a3 a9 k1 k2 k3 c9 tm x V (MM.mono h) hv hf
   rw[←hnT] at h
   rw[htm] at h ⊢
   exact h)
  have HC:Hid (∀V,Below P.heap.size P V→(V.cell? ⟨w.heap.size,0,none⟩=some (.int .i64 t.ear.sounds)∧V.cell? ⟨w.heap.size,1,none⟩=some (.slice a1 t.ear.alphas.length k1)∧V.cell? ⟨w.heap.size,2,none⟩=some (.slice a2 t.ear.spells.length k2)∧V.cell? ⟨w.heap.size,3,none⟩=some (.int .i64 t.vills)∧V.cell? ⟨w.heap.size,4,none⟩=some (.slice a3 t.ments.length k3)∧V.cell? ⟨w.heap.size,5,none⟩=some (.slice a4 t.ties.length k4)∧w.heap.size<V.heap.size∧V.cell? ⟨w.heap.size+1,0,none⟩=some (.int .i64 X.spell)∧V.cell? ⟨w.heap.size+1,1,none⟩=some (.int .i64 X.vill)∧V.cell? ⟨w.heap.size+1,2,none⟩=some (.int .i64 X.lo)∧V.cell? ⟨w.heap.size+1,3,none⟩=some (.int .i64 X.hi)∧V.cell? ⟨w.heap.size+1,4,none⟩=some (.int .i64 X.par)∧V.cell? ⟨w.heap.size+1,5,none⟩=some (.int .i64 Z.spell)∧V.cell? ⟨w.heap.size+1,6,none⟩=some (.int .i64 Z.vill)∧V.cell? ⟨w.heap.size+1,7,none⟩=some (.int .i64 Z.lo)∧V.cell? ⟨w.heap.size+1,8,none⟩=some (.int .i64 Z.hi)∧V.cell? ⟨w.heap.size+1,9,none⟩=some (.int .i64 Z.par)∧V.cell? ⟨w.heap.size+1,13,none⟩=some (.bool same)∧w.heap.size+1<V.heap.size∧V.cell? ⟨Y.heap.size,0,none⟩=some (.int .i64 t.ear.sounds)∧V.cell? ⟨Y.heap.size,1,none⟩=some (.slice a1 t.ear.alphas.length k1)∧V.cell? ⟨Y.heap.size,2,none⟩=some (.slice a2 t.ear.spells.length k2)∧V.cell? ⟨Y.heap.size,3,none⟩=some (.int .i64 t.vills)∧V.cell? ⟨Y.heap.size,4,none⟩=some (.slice a3 t.ments.length k3)∧V.cell? ⟨Y.heap.size,5,none⟩=some (.slice a9 nT c9)∧Y.heap.size<V.heap.size)):=LH (fun V h=>by
   have q1:=(h.block _ (lt_of_block h1)).trans h1
   have q2:=(h.block _ (lt_of_block h2)).trans h2
   have q3:=(h.block _ (lt_of_block h3)).trans h3
   exact⟨Zaa 0 q1 rfl,Zaa 1 q1 rfl,Zaa 2 q1 rfl,Zaa 3 q1 rfl,Zaa 4 q1 rfl,Zaa 5 q1 rfl,lt_of_block q1,Zaa 0 q2 rfl,Zaa 1 q2 rfl,Zaa 2 q2 rfl,Zaa 3 q2 rfl,Zaa 4 q2 rfl,Zaa 5 q2 rfl,Zaa 6 q2 rfl,Zaa 7 q2 rfl,Zaa 8 q2 rfl,Zaa 9 q2 rfl,Zaa 13 q2 rfl,lt_of_block q2,Zaa 0 q3 rfl,Zaa 1 q3 rfl,Zaa 2 q3 rfl,Zaa 3 q3 rfl,Zaa 4 q3 rfl,Zaa 5 q3 rfl,lt_of_block q3⟩)
  have HTM:=LH htm
  have HWP:=LH hwP
  clear htm hnT hwP MT MM h1 h2 h3 hs9 ht9 hVW hwV HM HLB hbig hVo
  have hQ:=Below.refl P.heap.size P
  have hx:=HC.out _ hQ
  go_upto_region 5 with(first
   |(go_at_call 5;(with_reducible refine(CK1.out _ hQ).mono ?_);rintro e w1 ⟨cx,cy,cr,rfl,hcr,hb⟩;replace hQ:=Zdo hQ hb;replace hx:=HC.out _ hQ;dsimp only)
   |(go_at_call 5;(with_reducible refine(CK2.out _ hQ).mono ?_);rintro e w2 ⟨dx,dy,dr,rfl,hdr,hb⟩;replace hQ:=Zdo hQ hb;replace hx:=HC.out _ hQ;dsimp only))
  clear CK1 CK2
  go_cut [67] from 56 to 67 (fun v W=>∃r:Bool,v=.bool r∧Hid (r=false→PeValid t∧PeValid tm∧Za6 tm 0≠[])∧Below P.heap.size P W)
  case first=>
   by_cases hc:cr=0
   ·have c1:=Zdf hc
    by_cases hd:dr=0
    ·have d1:=Zdf hd
     have HV1:=LH (hcr.out hc)
     have HV2:=LH (hdr.out hd)
     clear hc hd hcr hdr
     go_wp2_with (go_at_call 11;go_must ((with_reducible refine(TR.out _ hQ HV2.out).mono ?_);rintro e w3 ⟨ar,n,kr,rfl,hn,hn6,hb⟩;replace hQ:=Zdo hQ hb;replace hx:=HC.out _ hQ;dsimp only))
     go_meet
     case rel=>exact⟨_,rfl,LH (fun h=>⟨HV1.out,HV2.out,hn.out (by simpa using h)⟩),hQ⟩
    ·have d1:=Zcp hd
     clear hc hd hcr hdr
     go_wp2
     go_meet
     case rel=>exact⟨true,rfl,LH (fun h=>by cases h),hQ⟩
   ·have c1:=Zcp hc
    clear hc hcr hdr
    go_wp2
    go_meet
    case rel=>exact⟨true,rfl,LH (fun h=>by cases h),hQ⟩
  case rest=>
   obtain⟨r,rfl,HR,hQ2⟩:=hcut
   rename World=>P2
   clear hx hQ hcr hdr hb
   have hQ:=hQ2
   clear hQ2
   have hx:=HC.out _ hQ
   cases r
   ·obtain⟨hv1,hv2,hf2⟩:=HR.out rfl
    have hf1:Za6 t 0≠[]:=Z16 (x:=⟨xa,xb,xs⟩) (by rw[←HTM.out];exact hf2)
    have V1:=LH (fun x V h=>W1.out x V h hv1 hf1)
    have V2:=LH (fun x V h=>W2.out x V h hv2 hf2)
    have hn5:=hv1.nm
    obtain⟨c,hcd⟩:∃c:Nat,c=min 4 t.ments.length:=⟨_,rfl⟩
    have hc4:c≤4:=by omega
    have hmin:min (4:Int) (t.ments.length:Int)=(c:Int):=by omega
    clear W1 W2 TR HR hv1 hv2 hf1 hf2 hcd
    go_upto_region 9 with(fail)
    obtain⟨pm,hpm⟩:∃pm,pm=P2.heap.size:=⟨_,rfl⟩
    obtain⟨pn,hpn⟩:∃pn,pn=P2.heap.size+1:=⟨_,rfl⟩
    obtain⟨Q1,hQ1⟩:∃Q1:World,Q1=(P2.alloc (.cells #[.slice none 0 0,.slice none 0 0,.slice none 0 0,.slice none 0 0] 54)).alloc (.cells #[.string ⟨#[109,46,48]⟩,.string ⟨#[109,46,49]⟩,.string ⟨#[109,46,50]⟩,.string ⟨#[109,46,51]⟩] 9):=⟨_,rfl⟩
    rw[←hQ1,←hpn,←hpm]
    have hm1:Q1.heap[pm]?=some (.cells #[.slice none 0 0,.slice none 0 0,.slice none 0 0,.slice none 0 0] 54 (0,0)):=by rw[hQ1,hpm];exact(heap_alloc_old _ _ (by simp)).trans (Zac _ _ rfl)
    have hn1:Q1.heap[pn]?=some (.cells #[.string ⟨#[109,46,48]⟩,.string ⟨#[109,46,49]⟩,.string ⟨#[109,46,50]⟩,.string ⟨#[109,46,51]⟩] 9 (0,0)):=by rw[hQ1,hpn];exact Zac _ _ (by simp)
    have hb1:Below P.heap.size P Q1:=by rw[hQ1];exact(hQ.alloc hQ.size _).alloc (by have:=hQ.size;simp;omega) _
    have hPm:P.heap.size≤pm:=by have:=hQ.size;omega
    have hmn:pm<pn:=by omega
    clear hQ1 hpm hpn hx hQ
    have hx:=HC.out _ hb1
    have m0:=Zaa 0 hm1 rfl
    have mf:=Zad 0 hm1
    have mz:=lt_of_block hm1
    simp only[List.getElem_toArray,List.getElem_cons_zero] at m0
    go_upto_region 10 with(fail)
    obtain⟨Q2,hQ2⟩:∃Q2:World,Q2=Q1.setCell ⟨pm,0,none⟩ (.slice (some ⟨pn,0,none⟩) c 4):=⟨_,rfl⟩
    rw[←hQ2]
    have hm2:Q2.heap[pm]?=some (.cells #[.slice (some ⟨pn,0,none⟩) c 4,.slice none 0 0,.slice none 0 0,.slice none 0 0] 54 (0,0)):=by rw[hQ2];exact Zak 0 _ hm1
    have hn2:Q2.heap[pn]?=_:=(by rw[hQ2];exact Zae (by omega):Q2.heap[pn]?=Q1.heap[pn]?).trans hn1
    have hb2:Below P.heap.size P Q2:=by rw[hQ2];exact hb1.setCell hPm _
    clear hQ2 m0 mf mz hm1 hn1 hb1 hx
    have m2:=Zaa 2 hm2 rfl
    have mf:=Zad 2 hm2
    have mz:=lt_of_block hm2
    simp only[List.getElem_toArray,List.getElem_cons_zero,List.getElem_cons_succ] at m2
    go_upto_region 11 with(fail)
    obtain⟨pw,hpw⟩:∃pw,pw=Q2.heap.size:=⟨_,rfl⟩
    obtain⟨Q3,hQ3⟩:∃Q3:World,Q3=(Q2.setCell ⟨pm,2,none⟩ (.slice (some ⟨pw,0,none⟩) 1 1)).alloc (.cells #[.int .i64 3,.int .i64 0,.int .i64 1,.int .i64 (-1),.bool true] 56):=⟨_,rfl⟩
    rw[←hpw,←hQ3]
    have hm3:Q3.heap[pm]?=some (.cells #[.slice (some ⟨pn,0,none⟩) c 4,.slice none 0 0,.slice (some ⟨pw,0,none⟩) 1 1,.slice none 0 0] 54 (0,0)):=by rw[hQ3];exact(heap_alloc_old _ _ (by simpa using mz)).trans (Zak 2 _ hm2)
    have hn3:Q3.heap[pn]?=some (.cells #[.string ⟨#[109,46,48]⟩,.string ⟨#[109,46,49]⟩,.string ⟨#[109,46,50]⟩,.string ⟨#[109,46,51]⟩] 9 (0,0)):=by rw[hQ3];exact(heap_alloc_old _ _ (by simpa using lt_of_block hn2)).trans ((Zae (by omega)).trans hn2)
    have hw3:Q3.heap[pw]?=some (.cells #[.int .i64 3,.int .i64 0,.int .i64 1,.int .i64 (-1),.bool true] 56 (0,0)):=by rw[hQ3,hpw];exact Zac _ _ (by simp)
    have hb3:Below P.heap.size P Q3:=by rw[hQ3];exact(hb2.setCell hPm _).alloc (by have:=hb2.size;simpa using this) _
    have hnw:pn<pw:=by rw[hpw];exact lt_of_block hn2
    clear hQ3 hpw m2 mf mz hm2 hn2 hb2
    have hx:=HC.out _ hb3
    have m0:=Zaa 0 hm3 rfl
    have m1:=Zaa 1 hm3 rfl
    have m2:=Zaa 2 hm3 rfl
    have m3:=Zaa 3 hm3 rfl
    have mz:=lt_of_block hm3
    have w0:=Zaa 0 hw3 rfl
    have wf:=Zad 0 hw3
    have wz:=lt_of_block hw3
    simp only[List.getElem_toArray,List.getElem_cons_zero,List.getElem_cons_succ] at m0 m1 m2 m3 w0
    go_upto_if 86 with(fail)
    go_cut [] from 87 to 90 (fun W=>W.heap[pm]?=some (.cells #[.slice (some ⟨pn,0,none⟩) c 4,.slice none 0 0,.slice (some ⟨pw,0,none⟩) 1 1,.slice none 0 0] 54 (0,0))∧W.heap[pn]?=some (.cells #[.string ⟨#[109,46,48]⟩,.string ⟨#[109,46,49]⟩,.string ⟨#[109,46,50]⟩,.string ⟨#[109,46,51]⟩] 9 (0,0))∧W.heap[pw]?=some (.cells #[.int .i64 (if same=true then 2 else 3),.int .i64 0,.int .i64 1,.int .i64 (-1),.bool true] 56 (0,0))∧Below P.heap.size P W)
    case first=>
     cases same
     ·go_wp2
      go_meet
      case rel=>exact⟨hm3,hn3,hw3,hb3⟩
     ·go_wp2
      go_meet
      case rel=>exact⟨(Zae (by omega)).trans hm3,(Zae (by omega)).trans hn3,Zak 0 _ hw3,hb3.setCell (by show P.heap.size≤pw;omega) _⟩
    case rest=>
     obtain⟨hm4,hn4,hw4,hb4⟩:=hcut
     clear hm3 hn3 hw3 hb3 hx m0 m1 m2 m3 mz w0 wf wz
     rename World=>S
     have hx:=HC.out _ hb4
     have m0:=Zaa 0 hm4 rfl
     have m1:=Zaa 1 hm4 rfl
     have m2:=Zaa 2 hm4 rfl
     have m3:=Zaa 3 hm4 rfl
     have mz:=lt_of_block hm4
     simp only[List.getElem_toArray,List.getElem_cons_zero,List.getElem_cons_succ] at m0 m1 m2 m3
     go_upto_region 16 with(fail)
     obtain⟨pq,hpq⟩:∃pq,pq=S.heap.size:=⟨_,rfl⟩
     obtain⟨p2,hp2⟩:∃p2,p2=S.heap.size+1:=⟨_,rfl⟩
     obtain⟨S1,hS1⟩:∃S1:World,S1=(S.alloc (.cells #[.slice (some ⟨pn,0,none⟩) c 4,.slice none 0 0,.slice (some ⟨pw,0,none⟩) 1 1,.slice none 0 0] 54)).alloc (.cells #[.int .i64 X.spell,.int .i64 X.vill,.int .i64 X.lo,.int .i64 X.hi,.int .i64 X.par,.int .i64 Z.spell,.int .i64 Z.vill,.int .i64 Z.lo,.int .i64 Z.hi,.int .i64 Z.par] 38):=⟨_,rfl⟩
     rw[←hS1,←hp2,←hpq]
     have hbS:Below S.heap.size S S1:=by rw[hS1];exact((Below.refl _ _).alloc (Nat.le_refl _) _).alloc (by simp) _
     have hq1:S1.heap[pq]?=some (.cells #[.slice (some ⟨pn,0,none⟩) c 4,.slice none 0 0,.slice (some ⟨pw,0,none⟩) 1 1,.slice none 0 0] 54 (0,0)):=by rw[hS1,hpq];exact(heap_alloc_old _ _ (by simp)).trans (Zac _ _ rfl)
     have ht1:S1.heap[p2]?=some (.cells #[.int .i64 X.spell,.int .i64 X.vill,.int .i64 X.lo,.int .i64 X.hi,.int .i64 X.par,.int .i64 Z.spell,.int .i64 Z.vill,.int .i64 Z.lo,.int .i64 Z.hi,.int .i64 Z.par] 38 (0,0)):=by rw[hS1,hp2];exact Zac _ _ (by simp)
     have hwq:pw<pq:=by rw[hpq];exact lt_of_block hw4
     have hq2:pq<p2:=by omega
     obtain⟨A,hA⟩:∃A:Nat→Nat,A=fun j=>Zhj (whoX t (Z8o X Z j)) c:=⟨_,rfl⟩
     obtain⟨B,hB⟩:∃B:Nat→Nat,B=fun j=>Zhj (whoX tm (Z8o X Z j)) c:=⟨_,rfl⟩
     have HI0:PayI P S1 pm pq pn pw p2 c same X Z none none 0 0 [] []:=
      ⟨hb4.trans (hbS.mono hb4.size),⟨(hbS.block _ (lt_of_block hm4)).trans hm4,⟨Nat.le_refl _,by decide,fun _=>rfl⟩,fun i hi=>absurd hi (Nat.not_lt_zero i),fun ad e=>(by cases e),fun ad e=>(by cases e)⟩,⟨hq1,⟨Nat.le_refl _,by decide,fun _=>rfl⟩,fun i hi=>absurd hi (Nat.not_lt_zero i),fun ad e=>(by cases e),fun ad e=>(by cases e)⟩,(hbS.block _ (lt_of_block hn4)).trans hn4,(hbS.block _ (lt_of_block hw4)).trans hw4,ht1,hPm,hmn,hnw,hwq,hq2⟩
     have HA:=LH hA
     have HB:=LH hB
     clear hS1 hpq hp2 hbS hq1 ht1 hwq hq2 hm4 hn4 hw4 hb4 hPm hmn hnw m0 m1 m2 m3 mz hx hA hB
     go_loopw [16] (fun i V=>∃(j:Nat) (az bz:Option Addr) (cz dz:Nat),j≤2∧i=.int .i64 j∧PayI P V pm pq pn pw p2 c same X Z az bz cz dz ((Zc5 A).take j) ((Zc5 B).take j)∧Hid (∀i,i<j→B i≠0)) (fun i _=>2-(intOf i).toNat)
     case atStart=>exact⟨0,none,none,0,0,by decide,rfl,HI0,LH (fun i h=>absurd h (Nat.not_lt_zero i))⟩
     case round=>
      clear HI0
      rename World=>V
      obtain⟨j,az,bz,cz,dz,hj,rfl,HI,HBJ⟩:=hrel
      by_cases hlt:j<2
      ·obtain⟨x,hxe⟩:∃x,x=Z8o X Z j:=⟨_,rfl⟩
       obtain⟨aj,haj⟩:∃aj,aj=A j:=⟨_,rfl⟩
       obtain⟨bj,hbj⟩:∃bj,bj=B j:=⟨_,rfl⟩
       have HAJ:Hid (aj=A j∧aj=Zhj (whoX t x) c):=LH ⟨haj,by rw[haj,HA.out,hxe]⟩
       have HBJ2:Hid (bj=B j∧bj=Zhj (whoX tm x) c):=LH ⟨hbj,by rw[hbj,HB.out,hxe]⟩
       have T2:Hid (∀U,Below V.heap.size V U→U.cell? ⟨p2,j*5,none⟩=some (.int .i64 x.spell)∧U.cell? ⟨p2,j*5+1,none⟩=some (.int .i64 x.vill)∧U.cell? ⟨p2,j*5+2,none⟩=some (.int .i64 x.lo)∧U.cell? ⟨p2,j*5+3,none⟩=some (.int .i64 x.hi)∧U.cell? ⟨p2,j*5+4,none⟩=some (.int .i64 x.par)∧p2<U.heap.size):=LH (fun U h=>by
        have ht:=(HI.mono h).t
        have hz:=lt_of_block ht
        obtain rfl|rfl:j=0∨j=1:=by omega
        ·rw[hxe]
         exact⟨Zaa 0 ht rfl,Zaa 1 ht rfl,Zaa 2 ht rfl,Zaa 3 ht rfl,Zaa 4 ht rfl,hz⟩
        ·rw[hxe]
         exact⟨Zaa 5 ht rfl,Zaa 6 ht rfl,Zaa 7 ht rfl,Zaa 8 ht rfl,Zaa 9 ht rfl,hz⟩)
       have VX1:=LH (fun U h=>V1.out x U h)
       have VX2:=LH (fun U h=>V2.out x U h)
       obtain⟨l,hl⟩:∃l,l=whoX t x:=⟨_,rfl⟩
       obtain⟨kk,hkk⟩:∃kk,kk=whoX tm x:=⟨_,rfl⟩
       rw[←hl] at VX1 HAJ
       rw[←hkk] at VX2 HBJ2
       have HSUB:Hid (∀n,n∈kk→n∈l):=LH (fun n h=>by rw[hl];rw[hkk,HTM.out] at h;exact Ztl h)
       obtain⟨sp,vi,lo,hi,pa⟩:=x
       simp only at T2
       generalize Zbc t t.ments.length ⟨sp,vi,lo,hi,pa⟩=g at VX1 VX2
       clear hxe haj hbj hl hkk
       have hbPV:=HI.b
       have SA:Hid (∀U,Below V.heap.size V U→(fun U=>Below V.heap.size V U∧U.cell? ⟨w.heap.size,0,none⟩=some (.int .i64 t.ear.sounds)∧U.cell? ⟨w.heap.size,1,none⟩=some (.slice a1 t.ear.alphas.length k1)∧U.cell? ⟨w.heap.size,2,none⟩=some (.slice a2 t.ear.spells.length k2)∧U.cell? ⟨w.heap.size,3,none⟩=some (.int .i64 t.vills)∧U.cell? ⟨w.heap.size,4,none⟩=some (.slice a3 t.ments.length k3)∧U.cell? ⟨w.heap.size,5,none⟩=some (.slice a4 t.ties.length k4)∧w.heap.size<U.heap.size∧U.cell? ⟨p2,j*5,none⟩=some (.int .i64 sp)∧U.cell? ⟨p2,j*5+1,none⟩=some (.int .i64 vi)∧U.cell? ⟨p2,j*5+2,none⟩=some (.int .i64 lo)∧U.cell? ⟨p2,j*5+3,none⟩=some (.int .i64 hi)∧U.cell? ⟨p2,j*5+4,none⟩=some (.int .i64 pa)∧p2<U.heap.size) U):=LH (fun U h=>by
        have q:=HC.out _ (hbPV.trans (h.mono hbPV.size))
        obtain⟨q0,q1,q2,q3,q4,q5,qz,-⟩:=q
        obtain⟨y0,y1,y2,y3,y4,yz⟩:=T2.out _ h
        exact⟨h,q0,q1,q2,q3,q4,q5,qz,y0,y1,y2,y3,y4,yz⟩)
       have SB:Hid (∀U,Below V.heap.size V U→(fun U=>Below V.heap.size V U∧U.cell? ⟨Y.heap.size,0,none⟩=some (.int .i64 t.ear.sounds)∧U.cell? ⟨Y.heap.size,1,none⟩=some (.slice a1 t.ear.alphas.length k1)∧U.cell? ⟨Y.heap.size,2,none⟩=some (.slice a2 t.ear.spells.length k2)∧U.cell? ⟨Y.heap.size,3,none⟩=some (.int .i64 t.vills)∧U.cell? ⟨Y.heap.size,4,none⟩=some (.slice a3 t.ments.length k3)∧U.cell? ⟨Y.heap.size,5,none⟩=some (.slice a9 nT c9)∧Y.heap.size<U.heap.size∧U.cell? ⟨p2,j*5,none⟩=some (.int .i64 sp)∧U.cell? ⟨p2,j*5+1,none⟩=some (.int .i64 vi)∧U.cell? ⟨p2,j*5+2,none⟩=some (.int .i64 lo)∧U.cell? ⟨p2,j*5+3,none⟩=some (.int .i64 hi)∧U.cell? ⟨p2,j*5+4,none⟩=some (.int .i64 pa)∧p2<U.heap.size) U):=LH (fun U h=>by
        have q:=HC.out _ (hbPV.trans (h.mono hbPV.size))
        obtain⟨-,-,-,-,-,-,-,-,-,-,-,-,-,-,-,-,-,-,-,q0,q1,q2,q3,q4,q5,qz⟩:=q
        obtain⟨y0,y1,y2,y3,y4,yz⟩:=T2.out _ h
        exact⟨h,q0,q1,q2,q3,q4,q5,qz,y0,y1,y2,y3,y4,yz⟩)
       go_upto_region 18 with(fail)
       have hg0:Below V.heap.size V V.drew:=Zah (Below.refl _ _)
       have hgP:=hbPV.trans (hg0.mono hbPV.size)
       go_region_held3 (fun U=>Below V.heap.size V U∧U.cell? ⟨w.heap.size,0,none⟩=some (.int .i64 t.ear.sounds)∧U.cell? ⟨w.heap.size,1,none⟩=some (.slice a1 t.ear.alphas.length k1)∧U.cell? ⟨w.heap.size,2,none⟩=some (.slice a2 t.ear.spells.length k2)∧U.cell? ⟨w.heap.size,3,none⟩=some (.int .i64 t.vills)∧U.cell? ⟨w.heap.size,4,none⟩=some (.slice a3 t.ments.length k3)∧U.cell? ⟨w.heap.size,5,none⟩=some (.slice a4 t.ties.length k4)∧w.heap.size<U.heap.size∧U.cell? ⟨p2,j*5,none⟩=some (.int .i64 sp)∧U.cell? ⟨p2,j*5+1,none⟩=some (.int .i64 vi)∧U.cell? ⟨p2,j*5+2,none⟩=some (.int .i64 lo)∧U.cell? ⟨p2,j*5+3,none⟩=some (.int .i64 hi)∧U.cell? ⟨p2,j*5+4,none⟩=some (.int .i64 pa)∧p2<U.heap.size) (first|exact SA.out _ hg0|exact SA.out _ hg1) (first
        |(go_at_call 13;(with_reducible refine(VX1.out _ hgP).mono ?_);rintro e w5 ⟨v1,rfl,⟨al,cl,rfl,hol,hil⟩,hgs⟩;have hg1:=hg0.trans (hgs.mono hg0.size);dsimp only))
       clear hg0 hgP hgs
       go_upto_region 19 with(fail)
       have hg2:Below V.heap.size V w5.drew:=Zah hg1
       have hgP:=hbPV.trans (hg2.mono hbPV.size)
       have hil2:=hil.mono (Zah (Below.refl w5.heap.size w5))
       go_region_held3 (fun U=>Below V.heap.size V U∧U.cell? ⟨Y.heap.size,0,none⟩=some (.int .i64 t.ear.sounds)∧U.cell? ⟨Y.heap.size,1,none⟩=some (.slice a1 t.ear.alphas.length k1)∧U.cell? ⟨Y.heap.size,2,none⟩=some (.slice a2 t.ear.spells.length k2)∧U.cell? ⟨Y.heap.size,3,none⟩=some (.int .i64 t.vills)∧U.cell? ⟨Y.heap.size,4,none⟩=some (.slice a3 t.ments.length k3)∧U.cell? ⟨Y.heap.size,5,none⟩=some (.slice a9 nT c9)∧Y.heap.size<U.heap.size∧U.cell? ⟨p2,j*5,none⟩=some (.int .i64 sp)∧U.cell? ⟨p2,j*5+1,none⟩=some (.int .i64 vi)∧U.cell? ⟨p2,j*5+2,none⟩=some (.int .i64 lo)∧U.cell? ⟨p2,j*5+3,none⟩=some (.int .i64 hi)∧U.cell? ⟨p2,j*5+4,none⟩=some (.int .i64 pa)∧p2<U.heap.size) (first|exact SB.out _ hg2|exact SB.out _ hg3) (first
        |(go_at_call 13;(with_reducible refine(VX2.out _ hgP).mono ?_);rintro e w6 ⟨v2,rfl,⟨ak,ck,rfl,hok,hik⟩,hgs⟩;have hg3:=hg2.trans (hgs.mono hg2.size);have hil3:=hil2.mono hgs;dsimp only))
       have HI6:=HI.mono hg3
       clear hg1 hg2 hg3 hgP hgs hil hil2 HI SA SB T2 VX1 VX2 hbPV
       have e1:(g != g)=false:=Zdf rfl
       have BO1:Hid (∀n,Calls Tryz.prog 14 #[.slice al l.length cl,.int .i64 (c:Int)] (w6.drewN n) fun e w'=>e=.returned (.int .i64 (aj:Int))∧w'=w6.drewN n):=LH (fun n=>by
        rw[HAJ.out.2]
        exact Zpk al l cl c hc4 _ hol (hil3.mono (Zd7 _ _ _)))
       have BO2:Hid (∀n,Calls Tryz.prog 14 #[.slice ak kk.length ck,.int .i64 (c:Int)] (w6.drewN n) fun e w'=>e=.returned (.int .i64 (bj:Int))∧w'=w6.drewN n):=LH (fun n=>by
        rw[HBJ2.out.2]
        exact Zpk ak kk ck c hc4 _ hok (hik.mono (Zd7 _ _ _)))
       clear hol hok hil3 hik
       have m0:=Zaa 0 HI6.m.blk rfl
       have mz:=lt_of_block HI6.m.blk
       simp only[List.getElem_toArray,List.getElem_cons_zero] at m0
       go_upto_region 22 with(fail)
       go_quiet (first
        |(go_at_call 14;with_reducible exact Calls.quiet_of_same (BO1.out _))
        |(go_at_call 14;with_reducible exact Calls.quiet_of_same (BO2.out _)))
       have HI7:=HI6.mono (Zd7 w6.heap.size w6 nq)
       clear HI6 m0 mz BO1 BO2
       generalize w6.drewN nq=W7 at HI7 ⊢
       by_cases hgb:g≠0∨bj=0
       ·have hce:(g != 0)=true∨((g != 0)=false∧((bj:Int)==0)=true):=by
         by_cases h1:g=0
         ·exact .inr ⟨Zdf h1,Zdv (by rcases hgb with h|h;exact absurd h1 h;omega)⟩
         ·exact .inl (Zcp h1)
        have hQ:=HI7.b
        have hx:=HC.out _ hQ
        clear hgb HI7
        rcases hce with c1|⟨c1,c2⟩
        all_goals
         go_wp2_with (first
         |(go_at_call 12;(with_reducible refine(Zj0 _).mono ?_);rintro e w8 ⟨rfl,hb⟩;replace hQ:=Zdo hQ hb;replace hx:=HC.out _ hQ;dsimp only)
         |(go_at_call 7;(with_reducible refine(Zin _).mono ?_);rintro e w7 ⟨rfl,hb⟩;replace hQ:=Zdo hQ hb;replace hx:=HC.out _ hQ;dsimp only))
         go_ret
         exact⟨rfl,HWP.out.trans (hQ.mono HWP.out.size)⟩
       ·have hg0:g=0:=Classical.byContradiction fun h=>hgb (.inl h)
        have hb0:bj≠0:=fun h=>hgb (.inr h)
        have c1:=Zdf hg0
        have c2:((bj:Int)==0)=false:=Zc4 (by omega)
        have HB0:=LH hb0
        clear hg0 hb0 hgb
        obtain⟨L1,hL1⟩:∃L1,L1=(Zc5 A).take j:=⟨_,rfl⟩
        obtain⟨M1,hM1⟩:∃M1,M1=(Zc5 B).take j:=⟨_,rfl⟩
        obtain⟨nm,hnm⟩:∃nm,nm=Z9m j:=⟨_,rfl⟩
        obtain⟨pe,hpe⟩:∃pe:Int,pe=10+(j:Int):=⟨_,rfl⟩
        have HL2:Hid ((Zc5 A).take (j+1)=L1++[⟨nm,pe,(aj:Int)⟩]):=LH (by rw[Zlq A hlt,hL1,hnm,hpe,HAJ.out.1])
        have HM2:Hid ((Zc5 B).take (j+1)=M1++[⟨nm,pe,(bj:Int)⟩]):=LH (by rw[Zlq B hlt,hM1,hnm,hpe,HBJ2.out.1])
        have hl1:L1.length≤2:=by rw[hL1,Zni A (by omega)];omega
        have hm1:M1.length≤2:=by rw[hM1,Zni B (by omega)];omega
        have HNP:=LH (And.intro hnm hpe)
        rw[←hL1,←hM1] at HI7
        clear hL1 hM1 hnm hpe
        go_upto_region 25 with(fail)
        go_cut [23] from 142 to 149 (fun v W=>∃p23:Nat,v=.pointer (some ⟨p23,0,none⟩)∧W7.heap.size≤p23∧Below W7.heap.size W7 W∧W.heap[p23]?=some (.cells #[.string nm,.int .i64 pe,.int .i64 (aj:Int)] 62 (0,0)))
        case first=>
         obtain⟨hnm,hpe⟩:=HNP.out
         subst hnm
         subst hpe
         have hj01:j=0∨j=1:=by omega
         rcases hj01 with rfl|rfl
         all_goals
          go_wp2
          go_meet
          case rel=>exact⟨_,rfl,by simp,((Below.refl _ _).alloc (Nat.le_refl _) _).alloc (by simp) _,Zac _ _ (by simp)⟩
        case rest=>
         obtain⟨p23,rfl,hp23,hbV,h23⟩:=hcut
         have HI8:=HI7.mono hbV
         have hba:∀ad,az=some ad→ad.block≠p23:=fun ad e=>by have:=HI7.m.lt ad e;omega
         have hbb0:∀ad,bz=some ad→ad.block≠p23:=fun ad e=>by have:=HI7.now.lt ad e;omega
         have h2p:p2<p23:=by have:=lt_of_block HI7.t;omega
         clear HI7 hbV hp23
         rename World=>V
         go_upto_region 26 with(fail)
         go_cut [] from 150 to 157 (fun W=>∃(a8:Option Addr) (c8:Nat),PayI P W pm pq pn pw p2 c same X Z a8 bz c8 dz ((Zc5 A).take (j+1)) M1∧W.heap[p23]?=some (.cells #[.string nm,.int .i64 pe,.int .i64 (aj:Int)] 62 (0,0))∧(∀ad,a8=some ad→ad.block≠p23)∧(∀ad,bz=some ad→ad.block≠p23))
         case first=>
          obtain⟨L2,hL2⟩:∃L2,L2=(Zc5 A).take (j+1):=⟨_,rfl⟩
          have htk:Hid (L2=L1++[⟨nm,pe,(aj:Int)⟩]):=LH (by rw[hL2];exact HL2.out)
          have HL9:=LH hL2
          have hsz:=HI8.m.ok
          have hzV:=HI8.m.sums
          have hVo:=HI8.m.blk
          have zoV:=lt_of_block hVo
          have hord:=HI8.ord
          have hz2:=lt_of_block HI8.t
          have hbb:(L1.length+1)*32≤140737488355328:=by omega
          have SF:Hid (∀W,Below V.heap.size V W→(fun W=>Below V.heap.size V W∧W.cell? ⟨pm,1,none⟩=some (.slice az L1.length cz)∧W.cell? ⟨p23,0,none⟩=some (.string nm)∧W.cell? ⟨p23,1,none⟩=some (.int .i64 pe)∧W.cell? ⟨p23,2,none⟩=some (.int .i64 (aj:Int))∧pm<W.heap.size∧p23<W.heap.size) W):=LH (fun W h=>by
           have k1:=(h.block _ zoV).trans hVo
           have k2:=(h.block _ (lt_of_block h23)).trans h23
           exact⟨h,Zaa 1 k1 rfl,Zaa 0 k2 rfl,Zaa 1 k2 rfl,Zaa 2 k2 rfl,lt_of_block k1,lt_of_block k2⟩)
          clear hL2
          refine Zgq ?_
          refine Zcq (fun W=>Below V.heap.size V W∧W.cell? ⟨pm,1,none⟩=some (.slice az L1.length cz)∧W.cell? ⟨p23,0,none⟩=some (.string nm)∧W.cell? ⟨p23,1,none⟩=some (.int .i64 pe)∧W.cell? ⟨p23,2,none⟩=some (.int .i64 (aj:Int))∧pm<W.heap.size∧p23<W.heap.size) 8 (by kernel_rfl) (SF.out V.drew (by (repeat' (first|assumption|exact Below.refl _ _|refine Below.drew ?_|refine Below.alloc ?_ (by first|omega|(simp<;>omega)) _)))) (fun hHeld=>?_)
          (refine tkZ 1 ?_;simp only[frT])
          (refine tkZ 2 ?_;simp only[frT])
          (refine tkZ 4 ?_;simp only[frT])
          refine Zap (rs:=[0,5]) (by kernel_rfl) (by simp) (AllZ.cons rfl (fun K hK=>?_) (AllZ.cons rfl (fun K hK=>?_) AllZ.nil));(focus ((go_simp;refine hK.out _ _ (fun _=>SF.out _ (by (repeat' (first|assumption|exact Below.refl _ _|refine Below.drew ?_|refine Below.alloc ?_ (by first|omega|(simp<;>omega)) _)))) ?_;(try simp only[frT]);clear hK);refine Zap (rs:=[3,5]) (by kernel_rfl) (by simp) (AllZ.cons rfl (fun K hK=>?_) (AllZ.cons rfl (fun K hK=>?_) AllZ.nil));(focus (have hm0:((V.alloc (.cells #[] 62)).drew).ownsRow V.heap.size 62 3 (.slice (some ⟨V.heap.size,0,none⟩) 0 0) 0 []:=(Zdy (Nat.le_refl _) _ _).drew;refine Zcs (.tmp 150) (.tmp 152) (v:=.slice (some ⟨V.heap.size,0,none⟩) 0 0) Zr2 (by rfl) (by rfl) (by rfl) (by rfl) V.heap.size 0 L1.length [] (Zbg Zb3 L1) hm0 (Za2.sums hsz.2.2 (hzV.mono (by (repeat' (first|assumption|exact Below.refl _ _|refine Below.drew ?_|refine Below.alloc ?_ (by first|omega|(simp<;>omega)) _))))) (by omega) (by omega) (by first|omega|(simp[Zbt]<;>omega)) ?_;intro v1 V1 ho1 hg1 _;(have hB1:Below V.heap.size V V1:=Zcd (by (repeat' (first|assumption|exact Below.refl _ _|refine Below.drew ?_|refine Below.alloc ?_ (by first|omega|(simp<;>omega)) _))) hm0 hg1);(rw[Nat.zero_add,List.nil_append] at ho1);have hz1v:=hB1.size;refine hK.out _ _ (fun _=>SF.out _ hB1) ?_;(try simp only[frT]);clear hK;refine Zap (rs:=[5]) (by kernel_rfl) (by simp) (AllZ.cons rfl (fun K hK=>?_) AllZ.nil);(go_simp;refine hK.out _ _ (fun _=>SF.out _ (by (repeat' (first|assumption|exact Below.refl _ _|refine Below.drew ?_|refine Below.alloc ?_ (by first|omega|(simp<;>omega)) _)))) ?_;(try simp only[frT]);clear hK);have hs2:=Za2.sumP V1 nm pe aj 62;refine Zap (rs:=[6]) (by kernel_rfl) (by simp) (AllZ.cons rfl (fun K hK=>?_) AllZ.nil)));rotate_left 1;(focus ((go_simp;refine hK.out _ _ (fun _=>SF.out _ (by (repeat' (first|assumption|exact Below.refl _ _|refine Below.drew ?_|refine Below.alloc ?_ (by first|omega|(simp<;>omega)) _)))) ?_;(try simp only[frT]);clear hK);refine Zap (rs:=[3]) (by kernel_rfl) (by simp) (AllZ.cons rfl (fun K hK=>?_) AllZ.nil);have hm0:(((V.alloc (.cells #[] 62)).alloc (.cells #[.string nm,.int .i64 pe,.int .i64 (aj:Int)] 62)).drew).ownsRow V.heap.size 62 3 (.slice (some ⟨V.heap.size,0,none⟩) 0 0) 0 []:=((Zdy (Nat.le_refl _) _ _).alloc _).drew;have hsr:Za2 (((V.alloc (.cells #[] 62)).alloc (.cells #[.string nm,.int .i64 pe,.int .i64 (aj:Int)] 62)).drew) (.slice (some ⟨V.heap.size+1,0,none⟩) 1 1) 1 3 [.string nm,.int .i64 pe,.int .i64 (aj:Int)]:=(by have h:=(Za2.sumP (V.alloc (.cells #[] 62)) nm pe aj 62).below (Zah (Below.refl _ _));rwa [show(V.alloc (.cells #[] 62)).heap.size=V.heap.size+1 from by simp] at h);refine Zcs (.tmp 150) (.tmp 152) (v:=.slice (some ⟨V.heap.size,0,none⟩) 0 0) Zr2 (by rfl) (by rfl) (by rfl) (by rfl) V.heap.size 0 L1.length [] (Zbg Zb3 L1) hm0 (Za2.sums hsz.2.2 (hzV.mono (by (repeat' (first|assumption|exact Below.refl _ _|refine Below.drew ?_|refine Below.alloc ?_ (by first|omega|(simp<;>omega)) _))))) (by omega) (by omega) (by first|omega|(simp[Zbt]<;>omega)) ?_;intro v1 V1 ho1 hg1 _;(have hB1:Below V.heap.size V V1:=Zcd (by (repeat' (first|assumption|exact Below.refl _ _|refine Below.drew ?_|refine Below.alloc ?_ (by first|omega|(simp<;>omega)) _))) hm0 hg1);(rw[Nat.zero_add,List.nil_append] at ho1);have hz1v:=hB1.size;refine hK.out _ _ (fun _=>SF.out _ hB1) ?_;(try simp only[frT]);clear hK;have hs2:=Zgc hsr hg1 (by simp[Value.ownBlock]);refine Zap (rs:=[6]) (by kernel_rfl) (by simp) (AllZ.cons rfl (fun K hK=>?_) AllZ.nil)))));rotate_left 2;(focus ((go_simp;refine hK.out _ _ (fun _=>SF.out _ (by (repeat' (first|assumption|exact Below.refl _ _|refine Below.drew ?_|refine Below.alloc ?_ (by first|omega|(simp<;>omega)) _)))) ?_;(try simp only[frT]);clear hK);refine Zap (rs:=[0]) (by kernel_rfl) (by simp) (AllZ.cons rfl (fun K hK=>?_) AllZ.nil);(go_simp;refine hK.out _ _ (fun _=>SF.out _ (by (repeat' (first|assumption|exact Below.refl _ _|refine Below.drew ?_|refine Below.alloc ?_ (by first|omega|(simp<;>omega)) _)))) ?_;(try simp only[frT]);clear hK);refine Zap (rs:=[3]) (by kernel_rfl) (by simp) (AllZ.cons rfl (fun K hK=>?_) AllZ.nil);have hm0:(((V.alloc (.cells #[.string nm,.int .i64 pe,.int .i64 (aj:Int)] 62)).alloc (.cells #[] 62)).drew).ownsRow V.heap.size 62 3 (.slice (some ⟨V.heap.size+1,0,none⟩) 0 0) 0 []:=(by have h:=(Zdy (B:=V.heap.size) (W:=V.alloc (.cells #[.string nm,.int .i64 pe,.int .i64 (aj:Int)] 62)) (by simp) 62 3).drew;rwa [show(V.alloc (.cells #[.string nm,.int .i64 pe,.int .i64 (aj:Int)] 62)).heap.size=V.heap.size+1 from by simp] at h);have hsr:Za2 (((V.alloc (.cells #[.string nm,.int .i64 pe,.int .i64 (aj:Int)] 62)).alloc (.cells #[] 62)).drew) (.slice (some ⟨V.heap.size,0,none⟩) 1 1) 1 3 [.string nm,.int .i64 pe,.int .i64 (aj:Int)]:=(Za2.sumP V nm pe aj 62).below (Zah (Zf6 _ _));refine Zcs (.tmp 150) (.tmp 152) (v:=.slice (some ⟨V.heap.size+1,0,none⟩) 0 0) Zr2 (by rfl) (by rfl) (by rfl) (by rfl) V.heap.size 0 L1.length [] (Zbg Zb3 L1) hm0 (Za2.sums hsz.2.2 (hzV.mono (by (repeat' (first|assumption|exact Below.refl _ _|refine Below.drew ?_|refine Below.alloc ?_ (by first|omega|(simp<;>omega)) _))))) (by omega) (by omega) (by first|omega|(simp[Zbt]<;>omega)) ?_;intro v1 V1 ho1 hg1 _;(have hB1:Below V.heap.size V V1:=Zcd (by (repeat' (first|assumption|exact Below.refl _ _|refine Below.drew ?_|refine Below.alloc ?_ (by first|omega|(simp<;>omega)) _))) hm0 hg1);(rw[Nat.zero_add,List.nil_append] at ho1);have hz1v:=hB1.size;refine hK.out _ _ (fun _=>SF.out _ hB1) ?_;(try simp only[frT]);clear hK;have hs2:=Zgc hsr hg1 (by simp[Value.ownBlock]);refine Zap (rs:=[6]) (by kernel_rfl) (by simp) (AllZ.cons rfl (fun K hK=>?_) AllZ.nil)));all_goals (refine Zcs (.tmp 153) (.tmp 155) (v:=v1) Zr2 (by rfl) (by rfl) (by rfl) (by rfl) V.heap.size L1.length 1 (Zbg Zb3 L1) [.string nm,.int .i64 pe,.int .i64 (aj:Int)] (by first|exact ho1|exact ho1.alloc _) hs2 (by omega) (by omega) (by first|omega|(simp[Zbt]<;>omega)) ?_;intro v2 V2 ho2 hg2 _;(have hB2:Below V.heap.size V V2:=Zcd (by (repeat' (first|assumption|exact Below.refl _ _|refine Below.drew ?_|refine Below.alloc ?_ (by first|omega|(simp<;>omega)) _))) (by first|exact ho1|exact ho1.alloc _) hg2);(rw[Zrw,←htk.out] at ho2);(have e2:L1.length+1=L2.length:=by rw[htk.out];simp);(rw[e2] at ho2);clear e2;(obtain⟨-,a9,c9,rfl,hs9,-⟩:=Zmn ho2);(have hc2:V2.heap[pm]?=_:=(hB2.block _ zoV).trans hVo);have hHeld2:=SF.out _ hB2;refine hK.out _ _ (fun _=>hHeld2) ?_;(try simp only[frT]);clear hK;(refine tkZ 7 ?_;simp only[frT]);have k2:V2.cell? ⟨pm,1,none⟩=some (.slice az L1.length cz):=Zaa 1 hc2 rfl;have k3:=Zad 1 hc2;have zo2:=lt_of_block hc2;refine Zap (rs:=[8]) (by kernel_rfl) (by simp) (AllZ.cons rfl (fun K hK=>?_) AllZ.nil);(go_simp;refine hK.out _ _ (fun h=>absurd rfl h) ?_;(try simp only[frT]);clear hK;refine Zc3 (by kernel_rfl) ?_ _))
          all_goals
           dsimp only[Zl9]
           go_wp2
           go_meet
           case rel=>
            have hfar:∀ad,a9=some ad→V.heap.size≤ad.block∧ad.block<V2.heap.size:=fun ad e=>ho2.lt ad.block (by rw[e];rfl)
            obtain⟨_,a7,c7,e7,hs7,hw7⟩:=Zmn ho2
            cases e7
            have hI9:=(HI8.mono hB2).putM hs7 hw7 (fun ad e=>by have:=hfar ad e;omega) (fun ad e=>(hfar ad e).2)
            rw[←HL9.out]
            exact⟨a9,c9,hI9,(Zae (by omega)).trans ((hB2.block _ (lt_of_block h23)).trans h23),fun ad e=>by have h1:=hfar ad e;have h2:=lt_of_block h23;omega,hbb0⟩
         case rest=>
          obtain⟨a8,c8,HI9,h29,hba9,hbb9⟩:=hcut
          clear HI8 h23 hba hbb0
          rename World=>V
          have z2:=Zaa 2 h29 rfl
          have zf:=Zad 2 h29
          have zz:=lt_of_block h29
          simp only[List.getElem_toArray,List.getElem_cons_zero,List.getElem_cons_succ] at z2
          go_upto_region 28 with(fail)
          obtain⟨U,hU⟩:∃U:World,U=V.setCell ⟨p23,2,none⟩ (.int .i64 (bj:Int)):=⟨_,rfl⟩
          rw[←hU]
          have HI8:=HI9.beside (o:=2) (v:=.int .i64 (bj:Int)) h2p hba9 hbb9
          have h23:U.heap[p23]?=some (.cells #[.string nm,.int .i64 pe,.int .i64 (bj:Int)] 62 (0,0)):=by rw[hU];exact Zak 2 _ h29
          rw[←hU] at HI8
          clear hU HI9 h29 hba9 hbb9 z2 zf zz
          have HBJ3:Hid (∀i,i<j+1→B i≠0):=LH (fun i hi=>if h:i<j then HBJ.out i h else (by
           have e:i=j:=by omega
           rw[e,←HBJ2.out.1]
           exact HB0.out))
          obtain⟨V,hVU⟩:∃V:World,V=U:=⟨_,rfl⟩
          subst hVU
          obtain⟨L1,hL1⟩:∃L,L=M1:=⟨_,rfl⟩
          subst hL1
          obtain⟨L2,hL2⟩:∃L2,L2=(Zc5 B).take (j+1):=⟨_,rfl⟩
          have htk:Hid (L2=L1++[⟨nm,pe,(bj:Int)⟩]):=LH (by rw[hL2];exact HM2.out)
          have HL9:=LH hL2
          have hsz:=HI8.now.ok
          have hzV:=HI8.now.sums
          have hVo:=HI8.now.blk
          have zoV:=lt_of_block hVo
          have hord:=HI8.ord
          have hz2:=lt_of_block HI8.t
          have hbb:(L1.length+1)*32≤140737488355328:=by omega
          have SF:Hid (∀W,Below V.heap.size V W→(fun W=>Below V.heap.size V W∧W.cell? ⟨pq,1,none⟩=some (.slice bz L1.length dz)∧W.cell? ⟨p23,0,none⟩=some (.string nm)∧W.cell? ⟨p23,1,none⟩=some (.int .i64 pe)∧W.cell? ⟨p23,2,none⟩=some (.int .i64 (bj:Int))∧pq<W.heap.size∧p23<W.heap.size) W):=LH (fun W h=>by
           have k1:=(h.block _ zoV).trans hVo
           have k2:=(h.block _ (lt_of_block h23)).trans h23
           exact⟨h,Zaa 1 k1 rfl,Zaa 0 k2 rfl,Zaa 1 k2 rfl,Zaa 2 k2 rfl,lt_of_block k1,lt_of_block k2⟩)
          clear hL2
          refine Zgq ?_
          refine Zcq (fun W=>Below V.heap.size V W∧W.cell? ⟨pq,1,none⟩=some (.slice bz L1.length dz)∧W.cell? ⟨p23,0,none⟩=some (.string nm)∧W.cell? ⟨p23,1,none⟩=some (.int .i64 pe)∧W.cell? ⟨p23,2,none⟩=some (.int .i64 (bj:Int))∧pq<W.heap.size∧p23<W.heap.size) 8 (by kernel_rfl) (SF.out V.drew (by (repeat' (first|assumption|exact Below.refl _ _|refine Below.drew ?_|refine Below.alloc ?_ (by first|omega|(simp<;>omega)) _)))) (fun hHeld=>?_)
          (refine tkZ 1 ?_;simp only[frT])
          (refine tkZ 2 ?_;simp only[frT])
          (refine tkZ 4 ?_;simp only[frT])
          refine Zap (rs:=[0,5]) (by kernel_rfl) (by simp) (AllZ.cons rfl (fun K hK=>?_) (AllZ.cons rfl (fun K hK=>?_) AllZ.nil));(focus ((go_simp;refine hK.out _ _ (fun _=>SF.out _ (by (repeat' (first|assumption|exact Below.refl _ _|refine Below.drew ?_|refine Below.alloc ?_ (by first|omega|(simp<;>omega)) _)))) ?_;(try simp only[frT]);clear hK);refine Zap (rs:=[3,5]) (by kernel_rfl) (by simp) (AllZ.cons rfl (fun K hK=>?_) (AllZ.cons rfl (fun K hK=>?_) AllZ.nil));(focus (have hm0:((V.alloc (.cells #[] 62)).drew).ownsRow V.heap.size 62 3 (.slice (some ⟨V.heap.size,0,none⟩) 0 0) 0 []:=(Zdy (Nat.le_refl _) _ _).drew;refine Zcs (.tmp 160) (.tmp 162) (v:=.slice (some ⟨V.heap.size,0,none⟩) 0 0) Zr2 (by rfl) (by rfl) (by rfl) (by rfl) V.heap.size 0 L1.length [] (Zbg Zb3 L1) hm0 (Za2.sums hsz.2.2 (hzV.mono (by (repeat' (first|assumption|exact Below.refl _ _|refine Below.drew ?_|refine Below.alloc ?_ (by first|omega|(simp<;>omega)) _))))) (by omega) (by omega) (by first|omega|(simp[Zbt]<;>omega)) ?_;intro v1 V1 ho1 hg1 _;(have hB1:Below V.heap.size V V1:=Zcd (by (repeat' (first|assumption|exact Below.refl _ _|refine Below.drew ?_|refine Below.alloc ?_ (by first|omega|(simp<;>omega)) _))) hm0 hg1);(rw[Nat.zero_add,List.nil_append] at ho1);have hz1v:=hB1.size;refine hK.out _ _ (fun _=>SF.out _ hB1) ?_;(try simp only[frT]);clear hK;refine Zap (rs:=[5]) (by kernel_rfl) (by simp) (AllZ.cons rfl (fun K hK=>?_) AllZ.nil);(go_simp;refine hK.out _ _ (fun _=>SF.out _ (by (repeat' (first|assumption|exact Below.refl _ _|refine Below.drew ?_|refine Below.alloc ?_ (by first|omega|(simp<;>omega)) _)))) ?_;(try simp only[frT]);clear hK);have hs2:=Za2.sumP V1 nm pe bj 62;refine Zap (rs:=[6]) (by kernel_rfl) (by simp) (AllZ.cons rfl (fun K hK=>?_) AllZ.nil)));rotate_left 1;(focus ((go_simp;refine hK.out _ _ (fun _=>SF.out _ (by (repeat' (first|assumption|exact Below.refl _ _|refine Below.drew ?_|refine Below.alloc ?_ (by first|omega|(simp<;>omega)) _)))) ?_;(try simp only[frT]);clear hK);refine Zap (rs:=[3]) (by kernel_rfl) (by simp) (AllZ.cons rfl (fun K hK=>?_) AllZ.nil);have hm0:(((V.alloc (.cells #[] 62)).alloc (.cells #[.string nm,.int .i64 pe,.int .i64 (bj:Int)] 62)).drew).ownsRow V.heap.size 62 3 (.slice (some ⟨V.heap.size,0,none⟩) 0 0) 0 []:=((Zdy (Nat.le_refl _) _ _).alloc _).drew;have hsr:Za2 (((V.alloc (.cells #[] 62)).alloc (.cells #[.string nm,.int .i64 pe,.int .i64 (bj:Int)] 62)).drew) (.slice (some ⟨V.heap.size+1,0,none⟩) 1 1) 1 3 [.string nm,.int .i64 pe,.int .i64 (bj:Int)]:=(by have h:=(Za2.sumP (V.alloc (.cells #[] 62)) nm pe bj 62).below (Zah (Below.refl _ _));rwa [show(V.alloc (.cells #[] 62)).heap.size=V.heap.size+1 from by simp] at h);refine Zcs (.tmp 160) (.tmp 162) (v:=.slice (some ⟨V.heap.size,0,none⟩) 0 0) Zr2 (by rfl) (by rfl) (by rfl) (by rfl) V.heap.size 0 L1.length [] (Zbg Zb3 L1) hm0 (Za2.sums hsz.2.2 (hzV.mono (by (repeat' (first|assumption|exact Below.refl _ _|refine Below.drew ?_|refine Below.alloc ?_ (by first|omega|(simp<;>omega)) _))))) (by omega) (by omega) (by first|omega|(simp[Zbt]<;>omega)) ?_;intro v1 V1 ho1 hg1 _;(have hB1:Below V.heap.size V V1:=Zcd (by (repeat' (first|assumption|exact Below.refl _ _|refine Below.drew ?_|refine Below.alloc ?_ (by first|omega|(simp<;>omega)) _))) hm0 hg1);(rw[Nat.zero_add,List.nil_append] at ho1);have hz1v:=hB1.size;refine hK.out _ _ (fun _=>SF.out _ hB1) ?_;(try simp only[frT]);clear hK;have hs2:=Zgc hsr hg1 (by simp[Value.ownBlock]);refine Zap (rs:=[6]) (by kernel_rfl) (by simp) (AllZ.cons rfl (fun K hK=>?_) AllZ.nil)))));rotate_left 2;(focus ((go_simp;refine hK.out _ _ (fun _=>SF.out _ (by (repeat' (first|assumption|exact Below.refl _ _|refine Below.drew ?_|refine Below.alloc ?_ (by first|omega|(simp<;>omega)) _)))) ?_;(try simp only[frT]);clear hK);refine Zap (rs:=[0]) (by kernel_rfl) (by simp) (AllZ.cons rfl (fun K hK=>?_) AllZ.nil);(go_simp;refine hK.out _ _ (fun _=>SF.out _ (by (repeat' (first|assumption|exact Below.refl _ _|refine Below.drew ?_|refine Below.alloc ?_ (by first|omega|(simp<;>omega)) _)))) ?_;(try simp only[frT]);clear hK);refine Zap (rs:=[3]) (by kernel_rfl) (by simp) (AllZ.cons rfl (fun K hK=>?_) AllZ.nil);have hm0:(((V.alloc (.cells #[.string nm,.int .i64 pe,.int .i64 (bj:Int)] 62)).alloc (.cells #[] 62)).drew).ownsRow V.heap.size 62 3 (.slice (some ⟨V.heap.size+1,0,none⟩) 0 0) 0 []:=(by have h:=(Zdy (B:=V.heap.size) (W:=V.alloc (.cells #[.string nm,.int .i64 pe,.int .i64 (bj:Int)] 62)) (by simp) 62 3).drew;rwa [show(V.alloc (.cells #[.string nm,.int .i64 pe,.int .i64 (bj:Int)] 62)).heap.size=V.heap.size+1 from by simp] at h);have hsr:Za2 (((V.alloc (.cells #[.string nm,.int .i64 pe,.int .i64 (bj:Int)] 62)).alloc (.cells #[] 62)).drew) (.slice (some ⟨V.heap.size,0,none⟩) 1 1) 1 3 [.string nm,.int .i64 pe,.int .i64 (bj:Int)]:=(Za2.sumP V nm pe bj 62).below (Zah (Zf6 _ _));refine Zcs (.tmp 160) (.tmp 162) (v:=.slice (some ⟨V.heap.size+1,0,none⟩) 0 0) Zr2 (by rfl) (by rfl) (by rfl) (by rfl) V.heap.size 0 L1.length [] (Zbg Zb3 L1) hm0 (Za2.sums hsz.2.2 (hzV.mono (by (repeat' (first|assumption|exact Below.refl _ _|refine Below.drew ?_|refine Below.alloc ?_ (by first|omega|(simp<;>omega)) _))))) (by omega) (by omega) (by first|omega|(simp[Zbt]<;>omega)) ?_;intro v1 V1 ho1 hg1 _;(have hB1:Below V.heap.size V V1:=Zcd (by (repeat' (first|assumption|exact Below.refl _ _|refine Below.drew ?_|refine Below.alloc ?_ (by first|omega|(simp<;>omega)) _))) hm0 hg1);(rw[Nat.zero_add,List.nil_append] at ho1);have hz1v:=hB1.size;refine hK.out _ _ (fun _=>SF.out _ hB1) ?_;(try simp only[frT]);clear hK;have hs2:=Zgc hsr hg1 (by simp[Value.ownBlock]);refine Zap (rs:=[6]) (by kernel_rfl) (by simp) (AllZ.cons rfl (fun K hK=>?_) AllZ.nil)));all_goals (refine Zcs (.tmp 163) (.tmp 165) (v:=v1) Zr2 (by rfl) (by rfl) (by rfl) (by rfl) V.heap.size L1.length 1 (Zbg Zb3 L1) [.string nm,.int .i64 pe,.int .i64 (bj:Int)] (by first|exact ho1|exact ho1.alloc _) hs2 (by omega) (by omega) (by first|omega|(simp[Zbt]<;>omega)) ?_;intro v2 V2 ho2 hg2 _;(have hB2:Below V.heap.size V V2:=Zcd (by (repeat' (first|assumption|exact Below.refl _ _|refine Below.drew ?_|refine Below.alloc ?_ (by first|omega|(simp<;>omega)) _))) (by first|exact ho1|exact ho1.alloc _) hg2);(rw[Zrw,←htk.out] at ho2);(have e2:L1.length+1=L2.length:=by rw[htk.out];simp);(rw[e2] at ho2);clear e2;(obtain⟨-,a9,c9,rfl,hs9,-⟩:=Zmn ho2);(have hc2:V2.heap[pq]?=_:=(hB2.block _ zoV).trans hVo);have hHeld2:=SF.out _ hB2;refine hK.out _ _ (fun _=>hHeld2) ?_;(try simp only[frT]);clear hK;(refine tkZ 7 ?_;simp only[frT]);have k2:V2.cell? ⟨pq,1,none⟩=some (.slice bz L1.length dz):=Zaa 1 hc2 rfl;have k3:=Zad 1 hc2;have zo2:=lt_of_block hc2;refine Zap (rs:=[8]) (by kernel_rfl) (by simp) (AllZ.cons rfl (fun K hK=>?_) AllZ.nil);(go_simp;refine hK.out _ _ (fun h=>absurd rfl h) ?_;(try simp only[frT]);clear hK;refine Zc3 (by kernel_rfl) ?_ _))
          all_goals
           dsimp only[Zl9]
           have hfar:∀ad,a9=some ad→V.heap.size≤ad.block∧ad.block<V2.heap.size:=fun ad e=>ho2.lt ad.block (by rw[e];rfl)
           obtain⟨_,a7,c7,e7,hs7,hw7⟩:=Zmn ho2
           cases e7
           have hI9:=(HI8.mono hB2).putN hs7 hw7 (fun ad e=>by have:=hfar ad e;omega) (fun ad e=>(hfar ad e).2)
           have HI10:=LH hI9
           clear hI9 hs7 hw7 ho2
           go_wp2
           go_roundw
           case rel=>exact⟨j+1,a8,a9,c8,c9,by omega,by go_num,by rw[←HL9.out];exact HI10.out,HBJ3⟩
           case measure=>simp[intOf];omega
      ·obtain rfl:j=2:=by omega
       have hBb:∀i,i<2→1≤B i∧B i<2^c:=fun i hi=>⟨Nat.pos_of_ne_zero (HBJ.out i hi),by rw[HB.out];exact Zpx _ _⟩
       have hsub:∀i,i<2→∀k,(B i).testBit k=true→(A i).testBit k=true:=fun i _ k h=>by
        rw[HB.out] at h
        rw[HA.out]
        exact Z3q (fun n hn=>by rw[HTM.out] at hn;exact Ztl hn) c k h
       have hAb:∀i,i<2→1≤A i∧A i<2^c:=fun i hi=>⟨Nat.pos_of_ne_zero (fun e=>by
        refine HBJ.out i hi (Nat.eq_of_testBit_eq fun k=>?_)
        rw[Nat.zero_testBit]
        cases hk:(B i).testBit k
        ·rfl
        ·have:=hsub i hi k hk
         rw[e,Nat.zero_testBit] at this
         cases this),by rw[HA.out];exact Zpx _ _⟩
       have PX:=LH (fun(i:Nat) (hi:i<2)=>Z70 (same:=same) hc4 hAb hBb hsub hi)
       have LM:ListC V (some ⟨pn,0,none⟩) az (some ⟨pw,0,none⟩) none 4 cz 1 0 (payM A c same):=PayI.list (show PayL V pm pn pw p2 c az cz (Zc5 A) from HI.m) hc4 HI.n HI.w
       have LN:ListC V (some ⟨pn,0,none⟩) bz (some ⟨pw,0,none⟩) none 4 dz 1 0 (payM B c same):=PayI.list (show PayL V pq pn pw p2 c bz dz (Zc5 B) from HI.now) hc4 HI.n HI.w
       have lM:=Zil A same hc4
       have lN:=Zil B same hc4
       have PYM:Hid (∀(i:Int) (U:World),Below V.heap.size V U→Calls Tryz.prog 15 #[(.agg #[.slice (some ⟨pn,0,none⟩) c 4,.slice az 2 cz,.slice (some ⟨pw,0,none⟩) 1 1,.slice none 0 0]),.int .i64 i] U fun e w'=>e=.returned (.tuple #[.int .i64 (Ze6 (payM A c same) i).1,.int .i64 (Ze6 (payM A c same) i).2])∧Below U.heap.size U w'):=LH (fun i U h=>by
        have h:=Zqn (some ⟨pn,0,none⟩) az (some ⟨pw,0,none⟩) none 4 cz 1 0 (payM A c same) i U (LM.mono h)
        rw[lM] at h
        exact h)
       have PYN:Hid (∀(i:Int) (U:World),Below V.heap.size V U→Calls Tryz.prog 15 #[(.agg #[.slice (some ⟨pn,0,none⟩) c 4,.slice bz 2 dz,.slice (some ⟨pw,0,none⟩) 1 1,.slice none 0 0]),.int .i64 i] U fun e w'=>e=.returned (.tuple #[.int .i64 (Ze6 (payM B c same) i).1,.int .i64 (Ze6 (payM B c same) i).2])∧Below U.heap.size U w'):=LH (fun i U h=>by
        have h:=Zqn (some ⟨pn,0,none⟩) bz (some ⟨pw,0,none⟩) none 4 dz 1 0 (payM B c same) i U (LN.mono h)
        rw[lN] at h
        exact h)
       have FOM:Hid (∀(i:Int) (U:World),Below V.heap.size V U→Calls Tryz.prog 16 #[(.agg #[.slice (some ⟨pn,0,none⟩) c 4,.slice az 2 cz,.slice (some ⟨pw,0,none⟩) 1 1,.slice none 0 0]),.int .i64 i] U fun e w'=>∃v,e=.returned (.tuple #[v,.int .i64 (Zek (payM A c same) i).2])∧Ze7 w' v (Zek (payM A c same) i).1∧Below U.heap.size U w'):=LH (fun i U h=>by
        have h:=Zqm (some ⟨pn,0,none⟩) az (some ⟨pw,0,none⟩) none 4 cz 1 0 (payM A c same) i U (LM.mono h)
        rw[lM] at h
        exact h)
       have FON:Hid (∀(i:Int) (U:World),Below V.heap.size V U→Calls Tryz.prog 16 #[(.agg #[.slice (some ⟨pn,0,none⟩) c 4,.slice bz 2 dz,.slice (some ⟨pw,0,none⟩) 1 1,.slice none 0 0]),.int .i64 i] U fun e w'=>∃v,e=.returned (.tuple #[v,.int .i64 (Zek (payM B c same) i).2])∧Ze7 w' v (Zek (payM B c same) i).1∧Below U.heap.size U w'):=LH (fun i U h=>by
        have h:=Zqm (some ⟨pn,0,none⟩) bz (some ⟨pw,0,none⟩) none 4 dz 1 0 (payM B c same) i U (LN.mono h)
        rw[lN] at h
        exact h)
       have hm1:V.heap[pm]?=some (.cells #[.slice (some ⟨pn,0,none⟩) c 4,.slice az 2 cz,.slice (some ⟨pw,0,none⟩) 1 1,.slice none 0 0] 54 (0,0)):=HI.m.blk
       have hm2:V.heap[pq]?=some (.cells #[.slice (some ⟨pn,0,none⟩) c 4,.slice bz 2 dz,.slice (some ⟨pw,0,none⟩) 1 1,.slice none 0 0] 54 (0,0)):=HI.now.blk
       have HPV:=LH HI.b
       generalize payM A c same=mM at PX PYM FOM
       generalize payM B c same=mN at PX PYN FON
       clear HC HI HBJ HA HB V1 V2 LM LN lM lN hBb hAb hsub hlt hj
       have HC:Hid (∀U,Below V.heap.size V U→(U.cell? ⟨pm,0,none⟩=some (.slice (some ⟨pn,0,none⟩) c 4)∧U.cell? ⟨pm,1,none⟩=some (.slice az 2 cz)∧U.cell? ⟨pm,2,none⟩=some (.slice (some ⟨pw,0,none⟩) 1 1)∧U.cell? ⟨pm,3,none⟩=some (.slice none 0 0)∧pm<U.heap.size∧U.cell? ⟨pq,0,none⟩=some (.slice (some ⟨pn,0,none⟩) c 4)∧U.cell? ⟨pq,1,none⟩=some (.slice bz 2 dz)∧U.cell? ⟨pq,2,none⟩=some (.slice (some ⟨pw,0,none⟩) 1 1)∧U.cell? ⟨pq,3,none⟩=some (.slice none 0 0)∧pq<U.heap.size)):=LH (fun U h=>by
        have q1:=(h.block _ (lt_of_block hm1)).trans hm1
        have q2:=(h.block _ (lt_of_block hm2)).trans hm2
        exact⟨Zaa 0 q1 rfl,Zaa 1 q1 rfl,Zaa 2 q1 rfl,Zaa 3 q1 rfl,lt_of_block q1,Zaa 0 q2 rfl,Zaa 1 q2 rfl,Zaa 2 q2 rfl,Zaa 3 q2 rfl,lt_of_block q2⟩)
       clear hm1 hm2
       go_upto_region 30 with(fail)
       go_loopw [24] (fun i U=>∃q:Nat,q≤2∧i=.int .i64 q∧Below V.heap.size V U) (fun i _=>2-(intOf i).toNat)
       case atStart=>exact⟨0,by decide,rfl,Below.refl _ _⟩
       case round=>
        rename World=>U
        obtain⟨q,hq,rfl,hQ⟩:=hrel
        have hx:=HC.out _ hQ
        by_cases hlt:q<2
        ·have PXq:=LH (PX.out q hlt)
         have PY1:=LH (PYM.out (q:Int))
         have PY2:=LH (PYN.out (q:Int))
         have FO1:=LH (FOM.out (q:Int))
         have FO2:=LH (FON.out (q:Int))
         obtain⟨px1,px2⟩:=PXq.out
         generalize (Ze6 mM (q:Int)).1=pc at PY1 px2
         generalize (Ze6 mM (q:Int)).2=pe at PY1 px2
         generalize (Ze6 mN (q:Int)).1=qc at PY2 px2
         generalize (Ze6 mN (q:Int)).2=qe at PY2 px1 px2
         generalize (Zek mM (q:Int)).1=fl at FO1 px2
         generalize (Zek mM (q:Int)).2=fe at FO1 px2
         generalize (Zek mN (q:Int)).1=gl at FO2 px2
         generalize (Zek mN (q:Int)).2=ge at FO2 px1 px2
         replace px1:=LH px1
         replace px2:=LH px2
         clear PXq
         go_upto_region 36 with(first
          |(go_at_call 15;(with_reducible refine(PY1.out _ hQ).mono ?_);rintro e w1 ⟨rfl,hb⟩;replace hQ:=Zdo hQ hb;replace hx:=HC.out _ hQ;dsimp only)
          |(go_at_call 15;(with_reducible refine(PY2.out _ hQ).mono ?_);rintro e w2 ⟨rfl,hb⟩;replace hQ:=Zdo hQ hb;replace hx:=HC.out _ hQ;dsimp only)
          |(go_at_call 16;(with_reducible refine(FO1.out _ hQ).mono ?_);rintro e w3 ⟨v3,rfl,⟨al,cl,rfl,hol,hil⟩,hb⟩;replace hQ:=Zdo hQ hb;replace hx:=HC.out _ hQ;dsimp only)
          |(go_at_call 16;(have hil2:=hil);(with_reducible refine(FO2.out _ hQ).mono ?_);rintro e w4 ⟨v4,rfl,⟨ak,ck,rfl,hok,hik⟩,hb⟩;replace hil2:=hil.mono hb;replace hQ:=Zdo hQ hb;replace hx:=HC.out _ hQ;dsimp only))
         clear hb hil
         by_cases hge:ge=0
         ·obtain⟨hfe,hpe,hin⟩:=px2.out hge
          subst hge
          subst hfe
          have HIN:=LH hin
          have HHS:=LH (fun(r:Nat) (hr:r<gl.length) (W:World) (h:Zaw W al fl)=>show Calls Tryz.prog 17 #[.slice al fl.length cl,.int .i64 gl[r]] W fun e w'=>e=.returned (.bool true)∧w'=W from by
           have h1:=Zvj al fl cl gl[r] W hol.len h
           rwa [Zj2.2 (hin _ (List.getElem_mem hr))] at h1)
          clear hin px1 px2
          have hkl:=hok.len
          have HPE:=LH hpe
          clear hpe
          go_upto_region 38 with(fail)
          go_cut [225] from 211 to 225 (fun v W=>v=.bool false∧W=w4)
          case first=>
           by_cases hp:pe=0
           ·obtain⟨h1,h2⟩:=HPE.out hp
            clear HPE
            subst hp
            subst h1
            subst h2
            go_wp2
            go_meet
            case rel=>exact⟨by simp,rfl⟩
           ·have c1:=Zc4 hp
            clear HPE hp
            go_wp2
            go_meet
            case rel=>exact⟨rfl,rfl⟩
          case rest=>
           obtain⟨rfl,hW4⟩:=hcut
           subst hW4
           rename World=>G
           clear HPE hx
           go_upto_region 41 with(fail)
           go_loopw [33] (fun i H=>∃r:Nat,r≤gl.length∧i=.int .i64 r∧Below G.heap.size G H) (fun i _=>gl.length-(intOf i).toNat)
           case atStart=>exact⟨0,Nat.zero_le _,rfl,Below.refl _ _⟩
           case round=>
            rename World=>H
            obtain⟨r,hr,rfl,hbH⟩:=hrel
            by_cases hrl:r<gl.length
            ·obtain⟨bk,ok,hae,hbk,c0⟩:=(hik.mono hbH) r hrl
             have HH:=LH (HHS.out r hrl H (hil2.mono hbH))
             generalize gl[r]=y at HH c0
             subst hae
             go_wp2_with (go_at_call 17;go_must ((with_reducible refine HH.out.mono ?_);rintro e w' ⟨rfl,hw9⟩;obtain rfl:=hw9.symm;dsimp only))
             go_roundw
             case rel=>exact⟨r+1,by omega,by go_num,hbH⟩
             case measure=>simp[intOf];omega
            ·obtain rfl:r=gl.length:=by omega
             go_wp2
             go_roundw
             case rel=>exact⟨q+1,by omega,by go_num,hQ.trans (hbH.mono hQ.size)⟩
             case measure=>simp[intOf];omega
         ·obtain⟨h1,h2⟩:=px1.out hge
          have c1:=Zcp hge
          clear hge px1 px2
          subst h1
          subst h2
          go_wp2_with (first
          |(go_at_call 12;(with_reducible refine(Zj0 _).mono ?_);rintro e w8 ⟨rfl,hb⟩;replace hQ:=Zdo hQ hb;replace hx:=HC.out _ hQ;dsimp only)
          |(go_at_call 7;(with_reducible refine(Zin _).mono ?_);rintro e w7 ⟨rfl,hb⟩;replace hQ:=Zdo hQ hb;replace hx:=HC.out _ hQ;dsimp only))
          go_ret
          exact⟨rfl,HWP.out.trans ((HPV.out.trans (hQ.mono HPV.out.size)).mono HWP.out.size)⟩
        ·obtain rfl:q=2:=by omega
         go_wp2_with (first
          |(go_at_call 12;(with_reducible refine(Zj0 _).mono ?_);rintro e w8 ⟨rfl,hb⟩;replace hQ:=Zdo hQ hb;replace hx:=HC.out _ hQ;dsimp only)
          |(go_at_call 7;(with_reducible refine(Zin _).mono ?_);rintro e w7 ⟨rfl,hb⟩;replace hQ:=Zdo hQ hb;replace hx:=HC.out _ hQ;dsimp only))
         go_ret
         exact⟨rfl,HWP.out.trans ((HPV.out.trans (hQ.mono HPV.out.size)).mono HWP.out.size)⟩
   ·go_wp2_with (first
     |(go_at_call 12;(with_reducible refine(Zj0 _).mono ?_);rintro e w5 ⟨rfl,hb⟩;replace hQ:=Zdo hQ hb;replace hx:=HC.out _ hQ;dsimp only)
     |(go_at_call 7;(with_reducible refine(Zin _).mono ?_);rintro e w4 ⟨rfl,hb⟩;replace hQ:=Zdo hQ hb;replace hx:=HC.out _ hQ;dsimp only))
    go_ret
    exact⟨rfl,HWP.out.trans (hQ.mono HWP.out.size)⟩
end Go.Proofs.YtklconegomgjaaaGreat
