/- What is proved here: the contract of first of layer 10, for a function that answers as a plain one does. Conditions: the chest is looked at; the things lie in memory and are below 6. -/
import Derived.Test.YtcgplocmncionaaGreatChSome
import Derived.Test.YtcgplocmncionaaGreatChLookG
import Derived.Test.YtcgplocmncionaaGreatSeEnterG
set_option linter.unusedVariables false
set_option linter.unusedSimpArgs false
namespace Go.Proofs.YtcgplocmncionaaGreat
open Go Go.RowKit Go.Shelf
attribute [local go_sem] Oper.semAt_some

theorem results_cell_cell {fn : Func} {p q : Tmp} {ty tz : TypeId} (h : fn.results = #[.cell p ty, .cell q tz]) (tmps : Array Value) (P : Program) (w : World) :
    (results fn tmps).run P w =
      ((asAddr (tmps.getD p undef)).run P w).andThen fun a w₁ => ((loadVar ty a).run P w₁).andThen fun x w₂ => ((asAddr (tmps.getD q undef)).run P w₂).andThen fun b w₃ => ((loadVar tz b).run P w₃).andThen fun y w₄ => .ok (.tuple #[x, y]) w₄ := by
  simp only [results, h]
  simp [Sem.run_bind, Result.andThen]
theorem keeps_putl {A : World} {b : Nat} {lp : Loop} (h : A.heap[b]? = some (.loop lp)) (o : Obj) : Keeps A (A.putObj b o) := ⟨by simp [World.putObj], fun p v e => by
  by_cases hb : p.block = b
  · simp [World.cell?, hb, h] at e
  · unfold World.cell? at e ⊢
    rw [World.putObj_heap_other hb]
    exact e⟩
theorem keeps_putd {A : World} {b : Nat} {d : Option (List Deferred)} (h : A.heap[b]? = some (.deferred d)) (o : Obj) : Keeps A (A.putObj b o) := ⟨by simp [World.putObj], fun p v e => by
  by_cases hb : p.block = b
  · simp [World.cell?, hb, h] at e
  · unfold World.cell? at e ⊢
    rw [World.putObj_heap_other hb]
    exact e⟩
theorem IntsN.keepK {B : Nat} {w W : World} {v : Value} {l : List Int} (h : IntsN B w v l) (hb : Keeps w W) : IntsN B W v l := by
  obtain ⟨a, c, e, h1, h2, h3⟩ := h; exact ⟨a, c, e, h1, h2.keep hb, h3⟩
theorem IntsN.weak {B B' : Nat} {w : World} {v : Value} {l : List Int} (h : IntsN B w v l) (hb : B' ≤ B) : IntsN B' w v l := by
  obtain ⟨a, c, e, h1, h2, h3⟩ := h; exact ⟨a, c, e, h1, h2, fun ad e2 => Nat.le_trans hb (h3 ad e2)⟩
theorem IntsN.setc {B : Nat} {w : World} {v : Value} {l : List Int} (h : IntsN B w v l) (b j : Nat) (u : Value) (hb : b < B) : IntsN B (w.setCell ⟨b, j, none⟩ u) v l :=
  h.grown (row := some b) ⟨rfl, rfl, rfl, by simp, fun i _ hr => Below.heap_setCell _ _ _ _ (fun e => hr (by rw [e]))⟩ (fun r e => by have := Option.some.inj e; omega)
/-- From w on memory has grown, and the map has turned at most, which is in order. -/
def ChG (w W : World) (bo : Nat) (c : ChH) : Prop := w.grownBy W (some bo) ∧ ∃ T, MapV W Tryz.prog 3 bo T ∧ MemoC c T
theorem ChG.below {w W W' : World} {bo B : Nat} {c : ChH} (h : ChG w W bo c) (hb : Below B W W') (hB : w.heap.size ≤ B) (hbo : bo < B) : ChG w W' bo c := by
  obtain ⟨hg, T, hT, hM⟩ := h
  exact ⟨grown_belowB hg hb hB, T, hT.below hb hbo, hM⟩
theorem ChG.chest {w W : World} {bm bo : Nat} {ap ac ar : Option Addr} {kp kc kr : Nat} {c : ChH} (h : ChG w W bo c) (hm : ChestW w bm bo ap ac ar kp kc kr c) : ChestW W bm bo ap ac ar kp kc kr c := by
  obtain ⟨hg, T, hT, hM⟩ := h
  exact hm.learn hg hT hM
theorem ChG.step {w W W' : World} {bm bo : Nat} {ap ac ar : Option Addr} {kp kc kr : Nat} {c : ChH} (h : ChG w W bo c) (hg : W.grownBy W' (some bo)) (hR : ChestW W' bm bo ap ac ar kp kc kr c) : ChG w W' bo c := ⟨grown_trans h.1 hg, hR.map⟩
theorem ChestW.start {w : World} {bm bo : Nat} {ap ac ar : Option Addr} {kp kc kr : Nat} {c : ChH} (hm : ChestW w bm bo ap ac ar kp kc kr c) : ChG w w bo c := ⟨World.grownBy.refl _ _, hm.map⟩
theorem ChG.set {w W : World} {bo : Nat} {c : ChH} (h : ChG w W bo c) (b j : Nat) (v : Value) (hb : w.heap.size ≤ b) (hne : bo ≠ b) : ChG w (W.setCell ⟨b, j, none⟩ v) bo c := by
  obtain ⟨hg, T, hT, hM⟩ := h
  exact ⟨grown_set hg b j v hb, T, map_set hT b j v hne, hM⟩
/-- first's own cells. -/
structure FirC (A : World) (b F : Nat) (caps : Array Value) (a : Option Addr) (cp n : Nat) (v : Value) (is : Bool) : Prop where
  q : A.heap[b]? = some (.cells #[.func (.func F) #[] caps] 104 (0, 0))
  r : A.heap[b + 1]? = some (.cells #[v] 23 (0, 0))
  d : A.heap[b + 1 + 1]? = some (.cells #[.bool is] 4 (0, 0))
  t : A.heap[b + 1 + 1 + 1]? = some (.cells #[.slice a n cp] 23 (0, 0))
section
variable {W W' : World} {b F : Nat} {caps : Array Value} {a : Option Addr} {cp n : Nat} {v : Value} {is : Bool}
theorem FirC.same (h : FirC W b F caps a cp n v is) (e : ∀ i, b ≤ i → i ≤ b + 3 → W'.heap[i]? = W.heap[i]?) : FirC W' b F caps a cp n v is :=
  ⟨(e _ (by omega) (by omega)).trans h.q, (e _ (by omega) (by omega)).trans h.r, (e _ (by omega) (by omega)).trans h.d, (e _ (by omega) (by omega)).trans h.t⟩
theorem FirC.lt (h : FirC W b F caps a cp n v is) : b + 3 < W.heap.size := by
  have := lt_of_block h.t
  omega
theorem FirC.cells (h : FirC W b F caps a cp n v is) :
    W.cell? ⟨b, 0, none⟩ = some (.func (.func F) #[] caps) ∧ W.cell? ⟨b + 1, 0, none⟩ = some v ∧ W.cell? ⟨b + 1 + 1, 0, none⟩ = some (.bool is) ∧ W.frozen? ⟨b + 1, 0, none⟩ = false ∧ W.frozen? ⟨b + 1 + 1, 0, none⟩ = false :=
  ⟨blk_cell 0 h.q rfl, blk_cell 0 h.r rfl, blk_cell 0 h.d rfl, blk_free 0 h.r, blk_free 0 h.d⟩
theorem FirC.setr (h : FirC W b F caps a cp n v is) (u : Value) : FirC (W.setCell ⟨b + 1, 0, none⟩ u) b F caps a cp n u is :=
  ⟨(Below.heap_setCell _ _ _ _ (fun e => by simp only at e; omega)).trans h.q, blk_set 0 _ h.r, (Below.heap_setCell _ _ _ _ (fun e => by simp only at e; omega)).trans h.d, (Below.heap_setCell _ _ _ _ (fun e => by simp only at e; omega)).trans h.t⟩
theorem FirC.setd (h : FirC W b F caps a cp n v is) (x : Bool) : FirC (W.setCell ⟨b + 1 + 1, 0, none⟩ (.bool x)) b F caps a cp n v x :=
  ⟨(Below.heap_setCell _ _ _ _ (fun e => by simp only at e; omega)).trans h.q, (Below.heap_setCell _ _ _ _ (fun e => by simp only at e; omega)).trans h.r, blk_set 0 _ h.d, (Below.heap_setCell _ _ _ _ (fun e => by simp only at e; omega)).trans h.t⟩
end
theorem CSome_any (a : Option Addr) (n cp : Nat) (w : World) : Calls Tryz.prog 79 #[.slice a n cp] w fun e w' => e = .returned (.func (.func 106) #[] #[.pointer (some ⟨w.heap.size, 0, none⟩)]) ∧ w' = w.alloc (.cells #[.slice a n cp] 23) := by
  go_enter Tryz.func79, Tryz.ntmps79
  go_wp2
  go_ret
  exact ⟨rfl, rfl⟩
/-- What first gives. -/
def FirstV (w W : World) (v : Value) : Option Nat → Prop
  | some s => IntsN w.heap.size W v (numI s)
  | none => v = .slice none 0 0
@[reducible] def wantV (F : Nat) (caps : Array Value) : Value := .agg #[.func (.func F) #[] caps]
set_option maxRecDepth 100000 in
set_option maxHeartbeats 2000000 in
theorem CFirst_any (ap ac ar : Option Addr) (kp kc kr : Nat) (c : ChH) (bm bo F : Nat) (caps : Array Value) (p : Nat → Bool) (a : Option Addr) (cp : Nat) (L : List Nat) (w : World) (hm : ChestW w bm bo ap ac ar kp kc kr c) (hL : L.length ≤ 6) (h6 : ∀ x ∈ L, x < 6) (hs : SlOk a L.length cp) (hi : IntsC w a (L.map fun (x : Nat) => (x : Int)))
    (hCF : ∀ (xs : Array Value) (W : World), (callFunc F xs).run Tryz.prog W = .ok (.enter F xs) W)
    (hF : ∀ (s : Nat) (W : World), s < 64 → w.grownBy W (some bo) → ChestW W bm bo ap ac ar kp kc kr c → Calls Tryz.prog F (#[.int .i64 (s : Int)] ++ caps) W fun e W' => e = .returned (.bool (p s)) ∧ W.grownBy W' (some bo) ∧ ChestW W' bm bo ap ac ar kp kc kr c) :
    Calls Tryz.prog 45 #[.slice a L.length cp, wantV F caps] w fun e w' => ∃ v, e = .returned (.tuple #[v, .bool (firstN L p).isSome]) ∧ FirstV w w' v (firstN L p) ∧ w.grownBy w' (some bo) ∧ ChestW w' bm bo ap ac ar kp kc kr c := by
  have SM := Lib.hid (fun W : World => CSome_any a L.length cp W)
  have hlo := hm.bo_lt
  have HF := Lib.hid hF
  have HSLT := Lib.hid (fun s (h : s ∈ allSetsN L) => (allSetsN_lt (b := 6) h6 h : s < 2 ^ 6))
  obtain ⟨X, hX⟩ : ∃ X : World, X = (((w.alloc (.cells #[.func (.func F) #[] caps] 104)).alloc (.cells #[.slice none 0 0] 23)).alloc (.cells #[.bool false] 4)).alloc (.cells #[.slice a L.length cp] 23) := ⟨_, rfl⟩
  have hSE := CSome_seq a cp L (w.heap.size + 1 + 1 + 1) X hL h6 hs
  have HFS : Hid (firstN L p = (allSetsN L).find? p) := Lib.hid rfl
  clear hF
  obtain ⟨res, hres⟩ : ∃ res, res = firstN L p := ⟨_, rfl⟩
  rw [← hres] at HFS ⊢
  clear hres
  refine (callsIn_wide (n := 0)).1 ?_
  refine callsIn_of_wp_marks Tryz.func45 rfl trivial ?_ rfl
  simp only [Tryz.ntmps45, List.size_toArray, List.length_cons, List.length_nil, Nat.reduceAdd, Nat.reduceSub, Array.replicate_succ, Array.replicate_zero, List.push_toArray, List.append_toArray, List.nil_append, List.cons_append]
  refine (wpIn_wide (n := 0)).2 ?_
  go_wp2_with (go_at_call 79; go_must ((with_reducible refine (SM.out _).mono ?_); rintro e w3 ⟨rfl, rfl⟩; dsimp only))
  have hsz : X.heap.size = w.heap.size + 1 + 1 + 1 + 1 := by rw [hX]; simp
  have hb0 : Below w.heap.size w X := by rw [hX]; exact ((((Below.refl _ w).alloc (Nat.le_refl _) _).alloc (by first | omega | (simp <;> omega)) _).alloc (by first | omega | (simp <;> omega)) _).alloc (by first | omega | (simp <;> omega)) _
  have hA0 : FirC X w.heap.size F caps a cp L.length (.slice none 0 0) false := by
    rw [hX]
    refine ⟨?_, ?_, ?_, ?_⟩
    · exact (heap_alloc_old _ _ (by first | omega | (simp <;> omega))).trans ((heap_alloc_old _ _ (by first | omega | (simp <;> omega))).trans ((heap_alloc_old _ _ (by simp)).trans (alloc_at _ _ rfl)))
    · exact (heap_alloc_old _ _ (by first | omega | (simp <;> omega))).trans ((heap_alloc_old _ _ (by simp)).trans (alloc_at _ _ (by simp)))
    · exact (heap_alloc_old _ _ (by simp)).trans (alloc_at _ _ (by simp))
    · exact alloc_at _ _ (by simp)
  have hrc : (((w.alloc (.cells #[.func (.func F) #[] caps] 104)).alloc (.cells #[.slice none 0 0] 23)).alloc (.cells #[.bool false] 4)).heap.size = w.heap.size + 1 + 1 + 1 := by simp
  rw [← hX, hrc]
  clear hX hrc
  refine (wpIn_wide (n := 0)).1 ?_
  refine wpIn_rangeFunc_X (gf := 106) (lb := #[.pointer (some ⟨w.heap.size + 1 + 1 + 1, 0, none⟩)]) rfl (enters_of Tryz.func106 (by kernel_rfl) rfl) hSE (Below.refl _ _) (Nat.le_refl _) (fun _ => rfl)
    (fun pre A => ChG w A bo c ∧ FirC A w.heap.size F caps a cp L.length (.slice none 0 0) false ∧ ∀ z ∈ pre, p z = false)
    (fun cd _ A => cd = .ret ∧ ∃ s v, res = some s ∧ FirC A w.heap.size F caps a cp L.length v true ∧ IntsN w.heap.size A v (numI s) ∧ ChG w A bo c)
    (fun s A A' h hb => ⟨h.1.below hb (by omega) (by omega), h.2.1.same (fun i h1 h2 => hb.block i (by omega)), h.2.2⟩)
    (fun cd s A o lp q hl => by
      obtain ⟨q0, s, v, q1, q2, q3, q4⟩ := q
      have hbp := below_put A (X.heap.size + 1) (X.heap.size + 1) o (Nat.le_refl _)
      exact ⟨q0, s, v, q1, q2.same (fun i h1 h2 => hbp.block i (by omega)), q3.keepK (keeps_putl hl o), q4.below hbp (by omega) (by omega)⟩)
    (fun s A h => ⟨h.2.1.t, hi.keep (hm.keeps h.1.1)⟩)
    ⟨hm.start.below hb0 (Nat.le_refl _) hlo, hA0, fun z hz => by cases hz⟩ ?round ?done ?stop
  case round =>
    intro l pre x W hl1 hl2 hI hpre
    have hx : x < 64 := HSLT.out x (hpre.subset (by simp))
    gi_wp2
    refine ⟨Above.refl _ _, hI, ?_⟩
    intro Wb hs2 hblk hIb
    clear hI
    obtain ⟨hG, hA, hN⟩ := hIb
    have hz1 := hA.lt
    have HC := Lib.hid (HF.out x Wb hx hG.1 (hG.chest hm))
    obtain ⟨c0, c1, c2, f1, f2⟩ := hA.cells
    have HPRE := Lib.hid (fun (h : p x = true) => show res = some x from by rw [HFS.out]; exact findN_pre hpre hN h)
    have HNO := Lib.hid (fun (h : p x = false) (z : Nat) (hz : z ∈ pre ++ [x]) => show p z = false from (List.mem_append.1 hz).elim (hN z) fun e => by rw [List.mem_singleton.1 e]; exact h)
    have LI := Lib.hid (fun W : World => CList_any x hx W)
    generalize p x = px at HC HPRE HNO
    have HA := Lib.hid hA
    have HG := Lib.hid hG
    clear hA hG hN
    cases px
    · gi_wp2
      refine ⟨trivial, rfl, ((CallsIn.inRound l (callsIn_wide.2 HC.out)).mono ?_)⟩
      rintro e w2 ⟨rfl, hg2, hR2⟩
      have hA2 : FirC w2 w.heap.size F caps a cp L.length (.slice none 0 0) false := HA.out.same (fun i h1 h2 => hg2.block i (by omega) (fun e => by have := Option.some.inj e; omega))
      gi_wp2
      exact ⟨Above.of_grown hg2 (fun r e => by have := Option.some.inj e; omega), HG.out.step hg2 hR2, hA2, HNO.out (by trivial)⟩
    · gi_wp2
      refine ⟨trivial, rfl, ((CallsIn.inRound l (callsIn_wide.2 HC.out)).mono ?_)⟩
      rintro e w2 ⟨rfl, hg2, hR2⟩
      have hA2 : FirC w2 w.heap.size F caps a cp L.length (.slice none 0 0) false := HA.out.same (fun i h1 h2 => hg2.block i (by omega) (fun e => by have := Option.some.inj e; omega))
      have hz2 := hg2.size
      gi_wp2
      refine ⟨trivial, rfl, ((CallsIn.inRound l (callsIn_wide.2 (LI.out w2))).mono ?_)⟩
      rintro e w3 ⟨v, rfl, hv3, hb3⟩
      have hv4 := hv3
      obtain ⟨a9, c9, rfl, -⟩ := hv4
      have hz3 := hb3.size
      have hA3 : FirC w3 w.heap.size F caps a cp L.length (.slice none 0 0) false := hA2.same (fun i h1 h2 => hb3.block i (by omega))
      have hG3 : ChG w w3 bo c := (HG.out.step hg2 hR2).below hb3 (by omega) (by omega)
      obtain ⟨c0, c1, c2, f1, f2⟩ := hA3.cells
      have hA5 := Lib.hid ((hA3.setr (.slice a9 (numI x).length c9)).setd true)
      have hI5 := Lib.hid (((hv3.setc (w.heap.size + 1) 0 (.slice a9 (numI x).length c9) (by omega)).setc (w.heap.size + 1 + 1) 0 (.bool true) (by omega)).weak (B' := w.heap.size) (by omega))
      have hG5 := Lib.hid ((hG3.set (w.heap.size + 1) 0 (.slice a9 (numI x).length c9) (by omega) (by omega)).set (w.heap.size + 1 + 1) 0 (.bool true) (by omega) (by omega))
      have z3 := hA3.lt
      have hab : Above X.heap.size Wb w3 := (Above.of_grown hg2 (fun r e => by have := Option.some.inj e; omega)).trans (Above.of_below hb3)
      clear hA3 hG3 hv3 hA2
      gi_wp2
      exact ⟨(hab.trans (above_set _ _ _ _ _ (by omega))).trans (above_set _ _ _ _ _ (by omega)), rfl, x, _, HPRE.out (by trivial), hA5.out, hI5.out, hG5.out⟩
  case done =>
    intro D A hD hI hK
    obtain ⟨hG, hA, hN⟩ := hI
    have HRN : Hid (res = none) := Lib.hid (by rw [HFS.out]; exact findN_no hN)
    obtain ⟨c0, c1, c2, f1, f2⟩ := hA.cells
    have z1 := hA.lt
    have hA2 := Lib.hid ((hA.setr (.slice none 0 0)).setd false)
    have hG2 := Lib.hid ((hG.set (w.heap.size + 1) 0 (.slice none 0 0) (by omega) (by omega)).set (w.heap.size + 1 + 1) 0 (.bool false) (by omega) (by omega))
    have hK2 := Lib.hid (show ((A.setCell ⟨w.heap.size + 1, 0, none⟩ (.slice none 0 0)).setCell ⟨w.heap.size + 1 + 1, 0, none⟩ (.bool false)).heap[D]? = some (.deferred (some [])) from (Below.heap_setCell _ _ _ _ (fun e => by simp only at e; omega)).trans ((Below.heap_setCell _ _ _ _ (fun e => by simp only at e; omega)).trans hK))
    clear hA hG hN hK HFS
    go_wp2
    refine ⟨by simp, .inl ⟨_, _, rfl, run_takeDeferred hK2.out, ?_⟩⟩
    have hbp := below_put ((A.setCell ⟨w.heap.size + 1, 0, none⟩ (.slice none 0 0)).setCell ⟨w.heap.size + 1 + 1, 0, none⟩ (.bool false)) X.heap.size D (.deferred none) hD
    have hA6 := hA2.out.same (fun i h1 h2 => hbp.block i (by omega))
    have hG6 := hG2.out.below hbp (by omega) (by omega)
    clear hbp
    obtain ⟨c0, c1, c2, -, -⟩ := hA6.cells
    refine ⟨.tuple #[.slice none 0 0, .bool false], ?_, .slice none 0 0, by rw [HRN.out]; rfl, by rw [HRN.out]; rfl, hG6.1, hG6.chest hm⟩
    rw [results_cell_cell rfl]
    go_simp
  case stop =>
    intro D cd pre A hD hI hK
    obtain ⟨rfl, s, v, q1, q2, q3, q4⟩ := hI
    have hbp := below_put A X.heap.size D (.deferred none) hD
    have hA6 := q2.same (fun i h1 h2 => hbp.block i (by omega))
    have hG6 := q4.below hbp (by omega) (by omega)
    have hI6 := q3.keepK (keeps_putd hK (.deferred none))
    have HRN := Lib.hid q1
    obtain ⟨c0, c1, c2, -, -⟩ := hA6.cells
    gi_wp2
    refine ⟨by simp, .inl ⟨_, _, rfl, run_takeDeferred hK, ?_⟩⟩
    refine ⟨.tuple #[v, .bool true], ?_, v, by rw [HRN.out]; rfl, by rw [HRN.out]; exact hI6, hG6.1, hG6.chest hm⟩
    rw [results_cell_cell rfl]
    go_simp
end Go.Proofs.YtcgplocmncionaaGreat
