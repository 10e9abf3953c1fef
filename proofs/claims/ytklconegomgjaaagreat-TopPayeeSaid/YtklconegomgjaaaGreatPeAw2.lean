/- What is proved here: the contract of the laws' Awake of layer 3. No condition. Printed by wip/genaw3P.py. -/
import Derived.Test.YtklconegomgjaaaGreatPeAwG
set_option linter.all false
set_option maxRecDepth 100000
set_option maxHeartbeats 16000000
namespace Go.Proofs.YtklconegomgjaaaGreat
open Go Go.RowKit Go.Shelf
theorem Zin (w:World):Calls Tryz.prog 7 #[] w fun e w'=>e=.returned (.bool true)∧Below w.heap.size w w':=by
 have T0:=LH (fun(V:World)=>Zzk V)
 have T1:=LH (fun(V:World)=>Zx3 V)
 have T2:=LH (fun(V:World)=>Z0c V)
 go_enter Tryz.func7,Tryz.ntmps7
 go_upto_region 2 with(first
  |(go_at_call 30;(with_reducible refine(T2.out _).mono ?_);rintro e w3 ⟨a12,a22,a32,a42,k2,rfl,hM2,hb3⟩;dsimp only)
  |(go_at_call 30;(with_reducible refine(T1.out _).mono ?_);rintro e w2 ⟨a11,a21,a31,a41,k1,rfl,hM1,hb2⟩;dsimp only)
  |(go_at_call 30;(with_reducible refine(T0.out _).mono ?_);rintro e w1 ⟨a10,a20,a30,a40,k0,rfl,hM0,hb1⟩;dsimp only))
 obtain⟨X,hX⟩:∃X:World,X=((w3.alloc (.cells #[.int .i64 3,.slice a10 2 2,.slice a20 4 4,.int .i64 2,.slice a30 4 4,.slice a40 0 k0] 29)).alloc (.cells #[.int .i64 3,.slice a11 2 2,.slice a21 4 4,.int .i64 2,.slice a31 4 4,.slice a41 1 k1] 29)).alloc (.cells #[.int .i64 3,.slice a12 2 2,.slice a22 4 4,.int .i64 2,.slice a32 4 4,.slice a42 2 k2] 29):=⟨_,rfl⟩
 rw[←hX]
 have hw3:Below w.heap.size w w3:=(hb1.trans (hb2.mono hb1.size)).trans (hb3.mono (Nat.le_trans hb1.size hb2.size))
 have h3X:Below w3.heap.size w3 X:=by rw[hX];exact(by (repeat' (first|assumption|exact Below.refl _ _|refine Zah ?_|refine Below.setCell ?_ (by first|omega|(simp<;>omega)) _|refine Below.alloc ?_ (by first|omega|(simp<;>omega)) _)))
 have hwX:=hw3.trans (h3X.mono hw3.size)
 have g0:X.heap[w3.heap.size]?=some (.cells #[.int .i64 3,.slice a10 2 2,.slice a20 4 4,.int .i64 2,.slice a30 4 4,.slice a40 0 k0] 29 (0,0)):=by rw[hX];(repeat' (first|exact Zac _ _ (by simp)|refine(heap_alloc_old _ _ (by first|omega|(simp<;>omega))).trans ?_))
 have g1:X.heap[w3.heap.size+1]?=some (.cells #[.int .i64 3,.slice a11 2 2,.slice a21 4 4,.int .i64 2,.slice a31 4 4,.slice a41 1 k1] 29 (0,0)):=by rw[hX];(repeat' (first|exact Zac _ _ (by simp)|refine(heap_alloc_old _ _ (by first|omega|(simp<;>omega))).trans ?_))
 have g2:X.heap[w3.heap.size+1+1]?=some (.cells #[.int .i64 3,.slice a12 2 2,.slice a22 4 4,.int .i64 2,.slice a32 4 4,.slice a42 2 k2] 29 (0,0)):=by rw[hX];(repeat' (first|exact Zac _ _ (by simp)|refine(heap_alloc_old _ _ (by first|omega|(simp<;>omega))).trans ?_))
 replace g0:=fun(V:World) (h:Below X.heap.size X V)=>(h.block _ (lt_of_block g0)).trans g0
 replace g1:=fun(V:World) (h:Below X.heap.size X V)=>(h.block _ (lt_of_block g1)).trans g1
 replace g2:=fun(V:World) (h:Below X.heap.size X V)=>(h.block _ (lt_of_block g2)).trans g2
 have HC:Hid (∀V,Below X.heap.size X V→(V.cell? ⟨w3.heap.size,0,none⟩=some (.int .i64 3)∧V.cell? ⟨w3.heap.size,1,none⟩=some (.slice a10 2 2)∧V.cell? ⟨w3.heap.size,2,none⟩=some (.slice a20 4 4)∧V.cell? ⟨w3.heap.size,3,none⟩=some (.int .i64 2)∧V.cell? ⟨w3.heap.size,4,none⟩=some (.slice a30 4 4)∧V.cell? ⟨w3.heap.size,5,none⟩=some (.slice a40 0 k0)∧V.cell? ⟨w3.heap.size+1,0,none⟩=some (.int .i64 3)∧V.cell? ⟨w3.heap.size+1,1,none⟩=some (.slice a11 2 2)∧V.cell? ⟨w3.heap.size+1,2,none⟩=some (.slice a21 4 4)∧V.cell? ⟨w3.heap.size+1,3,none⟩=some (.int .i64 2)∧V.cell? ⟨w3.heap.size+1,4,none⟩=some (.slice a31 4 4)∧V.cell? ⟨w3.heap.size+1,5,none⟩=some (.slice a41 1 k1)∧V.cell? ⟨w3.heap.size+1+1,0,none⟩=some (.int .i64 3)∧V.cell? ⟨w3.heap.size+1+1,1,none⟩=some (.slice a12 2 2)∧V.cell? ⟨w3.heap.size+1+1,2,none⟩=some (.slice a22 4 4)∧V.cell? ⟨w3.heap.size+1+1,3,none⟩=some (.int .i64 2)∧V.cell? ⟨w3.heap.size+1+1,4,none⟩=some (.slice a32 4 4)∧V.cell? ⟨w3.heap.size+1+1,5,none⟩=some (.slice a42 2 k2)∧w3.heap.size<V.heap.size∧w3.heap.size+1<V.heap.size∧w3.heap.size+1+1<V.heap.size)):=LH (fun V h=>⟨Zaa 0 (g0 V h) rfl,Zaa 1 (g0 V h) rfl,Zaa 2 (g0 V h) rfl,Zaa 3 (g0 V h) rfl,Zaa 4 (g0 V h) rfl,Zaa 5 (g0 V h) rfl,Zaa 0 (g1 V h) rfl,Zaa 1 (g1 V h) rfl,Zaa 2 (g1 V h) rfl,Zaa 3 (g1 V h) rfl,Zaa 4 (g1 V h) rfl,Zaa 5 (g1 V h) rfl,Zaa 0 (g2 V h) rfl,Zaa 1 (g2 V h) rfl,Zaa 2 (g2 V h) rfl,Zaa 3 (g2 V h) rfl,Zaa 4 (g2 V h) rfl,Zaa 5 (g2 V h) rfl,lt_of_block (g0 V h),lt_of_block (g1 V h),lt_of_block (g2 V h)⟩)
 have M0:=LH (fun(V:World) (h:Below X.heap.size X V)=>(((hM0.mono hb2).mono hb3).mono h3X).mono h)
 have M1:=LH (fun(V:World) (h:Below X.heap.size X V)=>((hM1.mono hb3).mono h3X).mono h)
 have M2:=LH (fun(V:World) (h:Below X.heap.size X V)=>(hM2.mono h3X).mono h)
 clear hX g0 g1 g2 hM0 hM1 hM2 hb1 hb2 hb3 h3X T0 T1 T2
 obtain⟨l1,hl1⟩:∃l:List Int,l=[0,0,1,1]:=⟨_,rfl⟩
 obtain⟨l4,hl4⟩:∃l:List Int,l=[0]:=⟨_,rfl⟩
 obtain⟨l5,hl5⟩:∃l:List Int,l=[1,2]:=⟨_,rfl⟩
 have F1:=fun(V:World) (h:Below X.heap.size X V)=>Z4z a10 a20 a30 a40 k0 V (M0.out V h)
 rw[←hl1] at F1
 replace F1:=LH F1
 have F2:=fun(V:World) (h:Below X.heap.size X V)=>Z6i a11 a21 a31 a41 k1 V (M1.out V h)
 replace F2:=LH F2
 have F3:=fun(V:World) (h:Below X.heap.size X V)=>Z6q a12 a22 a32 a42 k2 V (M2.out V h)
 replace F3:=LH F3
 have F4:=fun(V:World) (h:Below X.heap.size X V)=>Z1o a10 a20 a30 a40 k0 V 0 (by decide) 0 1 3 0 (by rw[Zc8];rfl) (by unfold Zp7;rw[Zc8];decide) (by decide) (by decide) (by decide) rfl (M0.out V h)
 change ∀V,_→Calls _ _ #[_,.int .i64 0,.int .i64 1] _ _ at F4
 replace F4:=LH F4
 have F5:=fun(V:World) (h:Below X.heap.size X V)=>Z1o a10 a20 a30 a40 k0 V 0 (by decide) 0 2 3 2 (by rw[Zc8];rfl) (by unfold Zp7;rw[Zc8];decide) (by decide) (by decide) (by decide) rfl (M0.out V h)
 change ∀V,_→Calls _ _ #[_,.int .i64 0,.int .i64 2] _ _ at F5
 replace F5:=LH F5
 have F6:=fun(V:World) (h:Below X.heap.size X V)=>Z1o a11 a21 a31 a41 k1 V 1 (by decide) 0 1 1 1 (by rw[Zcr];rfl) (by unfold Zp7;rw[Zcr];decide) (by decide) (by decide) (by decide) rfl (M1.out V h)
 change ∀V,_→Calls _ _ #[_,.int .i64 0,.int .i64 1] _ _ at F6
 replace F6:=LH F6
 have F7:=fun(V:World) (h:Below X.heap.size X V)=>Z3p a11 a21 a31 a41 k1 V (M1.out V h)
 replace F7:=LH F7
 have F8:=fun(V:World) (h:Below X.heap.size X V)=>Z9b a11 a21 a31 a41 k1 V (M1.out V h)
 replace F8:=LH F8
 have F9:=fun(V:World) (h:Below X.heap.size X V)=>Z7r a10 a20 a30 a40 k0 V 0 2 2 (by decide) (by decide) (by decide) Zk3.1 (M0.out V h)
 change ∀V,_→Calls _ _ #[_,.int .i64 0,.int .i64 2] _ _ at F9
 replace F9:=LH F9
 have F10:=fun(V:World) (h:Below X.heap.size X V)=>Z7r a10 a20 a30 a40 k0 V 0 3 3 (by decide) (by decide) (by decide) Zk3.2.1 (M0.out V h)
 change ∀V,_→Calls _ _ #[_,.int .i64 0,.int .i64 3] _ _ at F10
 replace F10:=LH F10
 have F11:=fun(V:World) (h:Below X.heap.size X V)=>Z7r a10 a20 a30 a40 k0 V 1 2 1 (by decide) (by decide) (by decide) Zk3.2.2 (M0.out V h)
 change ∀V,_→Calls _ _ #[_,.int .i64 1,.int .i64 2] _ _ at F11
 replace F11:=LH F11
 have F12:=fun(V:World) (h:Below X.heap.size X V)=>Z8z a12 a22 a32 a42 k2 V (M2.out V h)
 rw[←hl4] at F12
 replace F12:=LH F12
 have F13:=fun(V:World) (h:Below X.heap.size X V)=>Z97 a10 a20 a30 a40 k0 V (M0.out V h)
 rw[←hl5] at F13
 replace F13:=LH F13
 replace hl1:=LH hl1
 replace hl4:=LH hl4
 replace hl5:=LH hl5
 have hQ:=Below.refl X.heap.size X
 have hx:=HC.out _ hQ
 go_upto_region 8 with(first
  |(go_at_call 10;(with_reducible refine(F6.out _ hQ).mono ?_);rintro e v6 ⟨rfl,hb⟩;replace hQ:=Zdo hQ hb;replace hx:=HC.out _ hQ;replace i1:=i1.mono hb;dsimp only)
  |(go_at_call 10;(with_reducible refine(F5.out _ hQ).mono ?_);rintro e v5 ⟨rfl,hb⟩;replace hQ:=Zdo hQ hb;replace hx:=HC.out _ hQ;replace i1:=i1.mono hb;dsimp only)
  |(go_at_call 10;(with_reducible refine(F4.out _ hQ).mono ?_);rintro e v4 ⟨rfl,hb⟩;replace hQ:=Zdo hQ hb;replace hx:=HC.out _ hQ;replace i1:=i1.mono hb;dsimp only)
  |(go_at_call 31;(with_reducible refine(F3.out _ hQ).mono ?_);rintro e v3 ⟨rfl,hb⟩;replace hQ:=Zdo hQ hb;replace hx:=HC.out _ hQ;replace i1:=i1.mono hb;dsimp only)
  |(go_at_call 31;(with_reducible refine(F2.out _ hQ).mono ?_);rintro e v2 ⟨b2,c2,rfl,-,-,hb⟩;replace hQ:=Zdo hQ hb;replace hx:=HC.out _ hQ;replace i1:=i1.mono hb;dsimp only)
  |(go_at_call 31;(with_reducible refine(F1.out _ hQ).mono ?_);rintro e v1 ⟨b1,c1,rfl,o1,i1,hb⟩;replace hQ:=Zdo hQ hb;replace hx:=HC.out _ hQ; dsimp only))
 go_upto_region 9 with(first
  |(go_at_call 32;(with_reducible refine(F7.out _ hQ).mono ?_);rintro e v7 ⟨rfl,hb⟩;replace hQ:=Zdo hQ hb;replace hx:=HC.out _ hQ;replace i1:=i1.mono hb;dsimp only))
 obtain⟨GA,hGA⟩:∃G:World,G=v7.alloc (.cells #[.int .i64 2,.int .i64 3] 36):=⟨_,rfl⟩
 rw[←hGA]
 have hbG:Below v7.heap.size v7 GA:=by rw[hGA];exact(Below.refl _ _).alloc (Nat.le_refl _) _
 have sA:GA.heap[v7.heap.size]?=some (.cells #[.int .i64 2,.int .i64 3] 36 (0,0)):=by rw[hGA];exact Zac _ _ rfl
 replace sA:=LH sA
 clear hGA
 replace hQ:=Zdo hQ hbG
 replace hx:=HC.out _ hQ
 replace i1:=i1.mono hbG
 clear hbG hb
 go_upto_region 10 with(first
  |(go_at_call 33;(with_reducible refine(F8.out _ hQ).mono ?_);rintro e v8 ⟨rfl,hb⟩;replace hQ:=Zdo hQ hb;replace hx:=HC.out _ hQ;replace i1:=i1.mono hb;dsimp only))
 obtain⟨GB,hGB⟩:∃G:World,G=v8.alloc (.cells #[.int .i64 105,.int .i64 110] 36):=⟨_,rfl⟩
 rw[←hGB]
 have hbG:Below v8.heap.size v8 GB:=by rw[hGB];exact(Below.refl _ _).alloc (Nat.le_refl _) _
 have sB:GB.heap[v8.heap.size]?=some (.cells #[.int .i64 105,.int .i64 110] 36 (0,0)):=by rw[hGB];exact Zac _ _ rfl
 replace sB:=LH sB
 clear hGB
 replace hQ:=Zdo hQ hbG
 replace hx:=HC.out _ hQ
 replace i1:=i1.mono hbG
 replace sA:=LH ((hb.trans (hbG.mono hb.size)).block _ (lt_of_block sA.out) |>.trans sA.out)
 clear hbG hb
 have hS:=Below.refl GB.heap.size GB
 go_upto_region 14 with(first
  |(go_at_call 34;(with_reducible refine(F12.out _ hQ).mono ?_);rintro e v12 ⟨b4,c4,rfl,o4,i4,hb⟩;replace hQ:=Zdo hQ hb;replace hx:=HC.out _ hQ;replace hS:=hS.trans (hb.mono hS.size);replace i1:=i1.mono hb;dsimp only)
  |(go_at_call 9;(with_reducible refine(F11.out _ hQ).mono ?_);rintro e v11 ⟨rfl,hb⟩;replace hQ:=Zdo hQ hb;replace hx:=HC.out _ hQ;replace hS:=hS.trans (hb.mono hS.size);replace i1:=i1.mono hb;dsimp only)
  |(go_at_call 9;(with_reducible refine(F10.out _ hQ).mono ?_);rintro e v10 ⟨rfl,hb⟩;replace hQ:=Zdo hQ hb;replace hx:=HC.out _ hQ;replace hS:=hS.trans (hb.mono hS.size);replace i1:=i1.mono hb;dsimp only)
  |(go_at_call 9;(with_reducible refine(F9.out _ hQ).mono ?_);rintro e v9 ⟨rfl,hb⟩;replace hQ:=Zdo hQ hb;replace hx:=HC.out _ hQ;replace hS:=hS.trans (hb.mono hS.size);replace i1:=i1.mono hb;dsimp only))
 go_upto_region 14 with(fail)
 have hg0:=Zah hQ
 have KE:Hid (∀V,Below X.heap.size X V→(fun V=>Below X.heap.size X V∧V.cell? ⟨w3.heap.size,0,none⟩=some (.int .i64 3)∧V.cell? ⟨w3.heap.size,1,none⟩=some (.slice a10 2 2)∧V.cell? ⟨w3.heap.size,2,none⟩=some (.slice a20 4 4)∧V.cell? ⟨w3.heap.size,3,none⟩=some (.int .i64 2)∧V.cell? ⟨w3.heap.size,4,none⟩=some (.slice a30 4 4)∧V.cell? ⟨w3.heap.size,5,none⟩=some (.slice a40 0 k0)∧w3.heap.size<V.heap.size) V):=LH (fun V h=>by
  have:=HC.out V h
  obtain⟨q0,q1,q2,q3,q4,q5,q6,q7,q8,q9,q10,q11,q12,q13,q14,q15,q16,q17,q18,q19,q20⟩:=this
  exact⟨h,q0,q1,q2,q3,q4,q5,q18⟩)
 have hv:=LH (Zah (Below.refl v12.heap.size v12))
 go_region_held3 (fun V=>Below X.heap.size X V∧V.cell? ⟨w3.heap.size,0,none⟩=some (.int .i64 3)∧V.cell? ⟨w3.heap.size,1,none⟩=some (.slice a10 2 2)∧V.cell? ⟨w3.heap.size,2,none⟩=some (.slice a20 4 4)∧V.cell? ⟨w3.heap.size,3,none⟩=some (.int .i64 2)∧V.cell? ⟨w3.heap.size,4,none⟩=some (.slice a30 4 4)∧V.cell? ⟨w3.heap.size,5,none⟩=some (.slice a40 0 k0)∧w3.heap.size<V.heap.size) (first|exact KE.out _ (by assumption)) (first
  |(go_at_call 13;have hh:=hgp;(with_reducible refine(F13.out _ hgp).mono ?_);rintro e v14 ⟨b5,c5,rfl,o5,i5,hb⟩;have hg:=Zdo hgp hb;have hbd:=hb0.trans (hb.mono hb0.size);dsimp only)
  |(go_at_call 35;(with_reducible refine(Zku _ _ _ _ _ _).mono ?_);rintro e v13 ⟨rfl,hb1⟩;have hgp:=Zdo (And.left (by assumption)) hb1;have hb0:=hv.out.trans (hb1.mono hv.out.size);dsimp only))
 replace hS:=hS.trans (hbd.mono hS.size)
 replace sA:=(hS.block _ (lt_of_block sA.out)).trans sA.out
 replace sB:=(hS.block _ (lt_of_block sB.out)).trans sB.out
 replace i1:=i1.mono hbd
 replace i4:=i4.mono hbd
 have hE:=LH (hwX.trans (hg.mono hwX.size))
 have hEz:=LH hE.out.size
 have HS:Hid (∀V,Below v14.heap.size v14 V→(V.cell? ⟨v7.heap.size,0,none⟩=some (.int .i64 2)∧V.cell? ⟨v7.heap.size,1,none⟩=some (.int .i64 3)∧V.cell? ⟨v8.heap.size,0,none⟩=some (.int .i64 105)∧V.cell? ⟨v8.heap.size,1,none⟩=some (.int .i64 110)∧v7.heap.size<V.heap.size∧v8.heap.size<V.heap.size)):=LH (fun V h=>by
  have q1:=(h.block _ (lt_of_block sA)).trans sA
  have q2:=(h.block _ (lt_of_block sB)).trans sB
  exact⟨Zaa 0 q1 rfl,Zaa 1 q1 rfl,Zaa 0 q2 rfl,Zaa 1 q2 rfl,lt_of_block q1,lt_of_block q2⟩)
 clear hg hgp hg0 hb hb0 hb1 hbd hh hS sA sB hQ hx hwX hw3 HC M0 M1 M2 F1 F2 F3 F4 F5 F6 F7 F8 F9 F10 F11 F12 F13 KE hv
 have KE:Hid (∀V,Below v14.heap.size v14 V→(fun V=>Below v14.heap.size v14 V∧V.cell? ⟨v7.heap.size,0,none⟩=some (.int .i64 2)∧V.cell? ⟨v7.heap.size,1,none⟩=some (.int .i64 3)∧V.cell? ⟨v8.heap.size,0,none⟩=some (.int .i64 105)∧V.cell? ⟨v8.heap.size,1,none⟩=some (.int .i64 110)∧v7.heap.size<V.heap.size∧v8.heap.size<V.heap.size) V):=LH (fun V h=>⟨h,HS.out V h⟩)
 have I1:=LH (fun(V:World) (h:Below v14.heap.size v14 V)=>Z0y (c:=c1) 0 0 1 1 3 hl1.out (i1.mono h))
 have I2:=LH (fun(V:World) (h:Below v14.heap.size v14 V)=>Z2g (c:=c4) 0 3 hl4.out (i4.mono h))
 have I3:=LH (fun(V:World) (h:Below v14.heap.size v14 V)=>Z2i (c:=c5) 1 2 3 hl5.out (i5.mono h))
 clear i1 i4 i5 o1 o4 o5 HS
 go_upto_region 15 with(fail)
 simp only[List.append]
 have hB:=Zah (Below.refl v14.heap.size v14)
 as_aux_lemma=>
  refine wp_region_held_drew (S:=(fun V=>Below v14.heap.size v14 V∧V.cell? ⟨v7.heap.size,0,none⟩=some (.int .i64 2)∧V.cell? ⟨v7.heap.size,1,none⟩=some (.int .i64 3)∧V.cell? ⟨v8.heap.size,0,none⟩=some (.int .i64 105)∧V.cell? ⟨v8.heap.size,1,none⟩=some (.int .i64 110)∧v7.heap.size<V.heap.size∧v8.heap.size<V.heap.size)) (by kernel_rfl) (KE.out _ hB) (fun hHeld=>?_)
  (refine tkH 0 ?_;simp only[frT])
  (refine tkH 1 ?_;simp only[frT])
  (refine tkH 2 ?_;simp only[frT])
  (refine tkH 3 ?_;simp only[frT])
  (refine tkH 4 ?_;simp only[frT])
  (refine tkH 5 ?_;simp only[frT])
  (refine tkH 6 ?_;simp only[frT])
  as_aux_lemma=>
   (refine tkH 7 ?_;simp only[frT])
   (refine tkH 8 ?_;simp only[frT])
   (refine tkH 9 ?_;simp only[frT])
   (refine tkH 10 ?_;simp only[frT])
   (refine tkH 11 ?_;simp only[frT])
   (refine tkH 12 ?_;simp only[frT])
   (refine tkH 13 ?_;simp only[frT])
   (refine tkH 14 ?_;simp only[frT])
   as_aux_lemma=>
    (refine tkH 15 ?_;simp only[frT])
    (refine tkH 16 ?_;simp only[frT])
    (refine tkH 17 ?_;simp only[frT])
    (refine tkH 18 ?_;simp only[frT])
    (refine tkH 19 ?_;simp only[frT])
    (refine tkH 20 ?_;simp only[frT])
    (refine tkH 21 ?_;simp only[frT])
    (refine tkH 22 ?_;simp only[frT])
    as_aux_lemma=>
     (refine tkH 23 ?_;simp only[frT])
     (refine tkH 24 ?_;simp only[frT])
     (refine tkH 25 ?_;simp only[frT])
     (refine tkH 26 ?_;simp only[frT])
     (refine tkH 27 ?_;simp only[frT])
     (refine tkH 28 ?_;simp only[frT])
     (refine tkH 29 ?_;simp only[frT])
     (refine tkH 30 ?_;simp only[frT])
     as_aux_lemma=>
      (refine tkH 31 ?_;simp only[frT])
      (refine tkH 32 ?_;simp only[frT])
      (refine tkH 33 ?_;simp only[frT])
      (refine tkH 34 ?_;simp only[frT])
      (refine tkH 35 ?_;simp only[frT])
      (refine tkH 36 ?_;simp only[frT])
      (refine tkH 37 ?_;simp only[frT])
      (refine tkH 38 ?_;simp only[frT])
      as_aux_lemma=>
       (refine tkH 39 ?_;simp only[frT])
       (refine tkH 40 ?_;simp only[frT])
       (refine tkH 41 ?_;simp only[frT])
       (refine tkH 42 ?_;simp only[frT])
       (refine tkH 43 ?_;simp only[frT])
       (refine tkH 44 ?_;simp only[frT])
       (refine tkH 45 ?_;simp only[frT])
       (refine tkH 46 ?_;simp only[frT])
       as_aux_lemma=>
        (refine tkH 47 ?_;simp only[frT])
        (refine tkH 48 ?_;simp only[frT])
        (refine tkH 49 ?_;simp only[frT])
        (refine tkH 50 ?_;simp only[frT])
        (refine tkH 51 ?_;simp only[frT])
        (refine wpAnyH_ready (rs:=[52]) (by kernel_rfl) (by simp) ?_;refine AllReadyH.cons rfl (fun K hK=>?_) AllReadyH.nil;go_simp)
        refine hK.out _ _ (KE.out _ (hB.trans ((Zf6 _ _).mono hB.size))) (fun hHeld=>?_)
        (try simp only[frT])
        clear hK
        (refine wpAnyH_ready (rs:=[53]) (by kernel_rfl) (by simp) ?_;refine AllReadyH.cons rfl (fun K hK=>?_) AllReadyH.nil;go_simp)
        go_wp2_with (go_at_call 28;go_must (refine(I1.out _ hB).mono ?_;rintro e w20 ⟨rfl,hb⟩;dsimp only))
        replace hB:=hB.trans (hb.mono hB.size)
        clear hb
        refine hK.out _ _ (KE.out _ hB) (fun hHeld=>?_)
        (try simp only[frT])
        clear hK
        (refine tkH 54 ?_;simp only[frT])
        as_aux_lemma=>
         (refine tkH 55 ?_;simp only[frT])
         (refine tkH 56 ?_;simp only[frT])
         (refine tkH 57 ?_;simp only[frT])
         (refine tkH 58 ?_;simp only[frT])
         (refine tkH 59 ?_;simp only[frT])
         (refine tkH 60 ?_;simp only[frT])
         (refine tkH 61 ?_;simp only[frT])
         (refine tkH 62 ?_;simp only[frT])
         as_aux_lemma=>
          (refine tkH 63 ?_;simp only[frT])
          (refine tkH 64 ?_;simp only[frT])
          (refine tkH 65 ?_;simp only[frT])
          (refine tkH 66 ?_;simp only[frT])
          (refine tkH 67 ?_;simp only[frT])
          (refine tkH 68 ?_;simp only[frT])
          (refine tkH 69 ?_;simp only[frT])
          (refine tkH 70 ?_;simp only[frT])
          as_aux_lemma=>
           (refine tkH 71 ?_;simp only[frT])
           (refine tkH 72 ?_;simp only[frT])
           (refine tkH 73 ?_;simp only[frT])
           (refine tkH 74 ?_;simp only[frT])
           (refine tkH 75 ?_;simp only[frT])
           (refine tkH 76 ?_;simp only[frT])
           (refine wpAnyH_ready (rs:=[77]) (by kernel_rfl) (by simp) ?_;refine AllReadyH.cons rfl (fun K hK=>?_) AllReadyH.nil;go_simp)
           go_wp2_with (go_at_call 36;go_must (refine(Znw _ _ _).mono ?_;rintro e w21 ⟨rfl,hb⟩;dsimp only))
           replace hB:=hB.trans (hb.mono hB.size)
           clear hb
           refine hK.out _ _ (KE.out _ hB) (fun hHeld=>?_)
           (try simp only[frT])
           clear hK
           (refine tkH 78 ?_;simp only[frT])
           as_aux_lemma=>
            (refine tkH 79 ?_;simp only[frT])
            (refine tkH 80 ?_;simp only[frT])
            (refine tkH 81 ?_;simp only[frT])
            (refine wpAnyH_ready (rs:=[82]) (by kernel_rfl) (by simp) ?_;refine AllReadyH.cons rfl (fun K hK=>?_) AllReadyH.nil;go_simp)
            go_wp2_with (go_at_call 36;go_must (refine(Znw _ _ _).mono ?_;rintro e w22 ⟨rfl,hb⟩;dsimp only))
            replace hB:=hB.trans (hb.mono hB.size)
            clear hb
            refine hK.out _ _ (KE.out _ hB) (fun hHeld=>?_)
            (try simp only[frT])
            clear hK
            (refine tkH 83 ?_;simp only[frT])
            (refine tkH 84 ?_;simp only[frT])
            (refine tkH 85 ?_;simp only[frT])
            (refine tkH 86 ?_;simp only[frT])
            as_aux_lemma=>
             (refine tkH 87 ?_;simp only[frT])
             (refine tkH 88 ?_;simp only[frT])
             (refine tkH 89 ?_;simp only[frT])
             (refine tkH 90 ?_;simp only[frT])
             (refine tkH 91 ?_;simp only[frT])
             (refine tkH 92 ?_;simp only[frT])
             (refine tkH 93 ?_;simp only[frT])
             (refine tkH 94 ?_;simp only[frT])
             as_aux_lemma=>
              (refine tkH 95 ?_;simp only[frT])
              (refine tkH 96 ?_;simp only[frT])
              (refine tkH 97 ?_;simp only[frT])
              (refine tkH 98 ?_;simp only[frT])
              (refine wpAnyH_ready (rs:=[99]) (by kernel_rfl) (by simp) ?_;refine AllReadyH.cons rfl (fun K hK=>?_) AllReadyH.nil;go_simp)
              refine hK.out _ _ (KE.out _ (hB.trans ((Zf6 _ _).mono hB.size))) (fun hHeld=>?_)
              (try simp only[frT])
              clear hK
              (refine wpAnyH_ready (rs:=[100]) (by kernel_rfl) (by simp) ?_;refine AllReadyH.cons rfl (fun K hK=>?_) AllReadyH.nil;go_simp)
              go_wp2_with (go_at_call 28;go_must (refine(I2.out _ hB).mono ?_;rintro e w23 ⟨rfl,hb⟩;dsimp only))
              replace hB:=hB.trans (hb.mono hB.size)
              clear hb
              refine hK.out _ _ (KE.out _ hB) (fun hHeld=>?_)
              (try simp only[frT])
              clear hK
              (refine tkH 101 ?_;simp only[frT])
              (refine tkH 102 ?_;simp only[frT])
              as_aux_lemma=>
               (refine tkH 103 ?_;simp only[frT])
               (refine wpAnyH_ready (rs:=[104]) (by kernel_rfl) (by simp) ?_;refine AllReadyH.cons rfl (fun K hK=>?_) AllReadyH.nil;go_simp)
               refine hK.out _ _ (KE.out _ (hB.trans ((Zf6 _ _).mono hB.size))) (fun hHeld=>?_)
               (try simp only[frT])
               clear hK
               (refine wpAnyH_ready (rs:=[105]) (by kernel_rfl) (by simp) ?_;refine AllReadyH.cons rfl (fun K hK=>?_) AllReadyH.nil;go_simp)
               go_wp2_with (go_at_call 28;go_must (refine(I3.out _ hB).mono ?_;rintro e w24 ⟨rfl,hb⟩;dsimp only))
               replace hB:=hB.trans (hb.mono hB.size)
               clear hb
               refine hK.out _ _ (KE.out _ hB) (fun hHeld=>?_)
               (try simp only[frT])
               clear hK
               (refine tkH 106 ?_;simp only[frT])
               (refine tkH 107 ?_;simp only[frT])
               refine wpAnyH_done (by kernel_rfl) ?_ _
               go_wp2
               go_ret
               exact⟨rfl,hE.out.trans (hB.mono hEz.out)⟩
end Go.Proofs.YtklconegomgjaaaGreat
