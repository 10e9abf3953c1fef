/- What is proved here: the town of layer 3's laws in memory. No condition. Printed by wip/gentown.py. -/
import Derived.Test.YtklconegomgjaaaGreatPeTownXG
import Derived.Test.YtklconegomgjaaaGreatPeYearLG
set_option linter.unusedVariables false
set_option linter.unusedSimpArgs false
namespace Go.Proofs.YtklconegomgjaaaGreat
open Go Go.RowKit Go.Shelf
attribute [local go_sem] Oper.semAt_some

theorem exMents_mem {W : World} {g : Nat} (h : W.heap[g]? = some (.cells #[.int .i64 0, .int .i64 0, .int .i64 100, .int .i64 110, .int .i64 (-1), .int .i64 1, .int .i64 (-1), .int .i64 105, .int .i64 120, .int .i64 (-1), .int .i64 2, .int .i64 1, .int .i64 100, .int .i64 130, .int .i64 (-1), .int .i64 3, .int .i64 (-1), .int .i64 130, .int .i64 140, .int .i64 0] 38 (0, 0))) (k : Nat) : PeMentsC W (some ⟨g, 0, none⟩) (exTown k).ments := fun i hi => by
  have hi : i < 4 := hi
  obtain rfl | rfl | rfl | rfl : i = 0 ∨ i = 1 ∨ i = 2 ∨ i = 3 := by omega
  · exact ⟨g, 0, rfl, lt_of_block h, blk_cell 0 h rfl, blk_cell 1 h rfl, blk_cell 2 h rfl, blk_cell 3 h rfl, blk_cell 4 h rfl⟩
  · exact ⟨g, 0, rfl, lt_of_block h, blk_cell 5 h rfl, blk_cell 6 h rfl, blk_cell 7 h rfl, blk_cell 8 h rfl, blk_cell 9 h rfl⟩
  · exact ⟨g, 0, rfl, lt_of_block h, blk_cell 10 h rfl, blk_cell 11 h rfl, blk_cell 12 h rfl, blk_cell 13 h rfl, blk_cell 14 h rfl⟩
  · exact ⟨g, 0, rfl, lt_of_block h, blk_cell 15 h rfl, blk_cell 16 h rfl, blk_cell 17 h rfl, blk_cell 18 h rfl, blk_cell 19 h rfl⟩
/-- The laws' book in memory, all of it from B on. -/
def BookX (W : World) (B n3 n4 : Nat) : Prop :=
  ∃ n1 n2, B ≤ n1 ∧ B ≤ n2 ∧ B ≤ n3 ∧ B ≤ n4 ∧ W.heap[n1]? = some (.cells #[.int .u8 97, .int .i64 1, .bool false, .int .u8 101, .int .i64 3, .bool false, .int .u8 107, .int .i64 4, .bool false, .int .u8 104, .int .i64 0, .bool true] 137 (0, 0))
    ∧ W.heap[n2]? = some (.cells #[.int .u8 107, .int .i64 4, .bool false, .int .u8 121, .int .i64 2, .bool true, .int .u8 110, .int .i64 1, .bool false] 137 (0, 0))
    ∧ W.heap[n3]? = some (.cells #[.string ⟨#[114, 111, 109, 97, 110]⟩, .slice (some ⟨n1, 0, none⟩) 4 4, .string ⟨#[97, 98, 106, 97, 100]⟩, .slice (some ⟨n2, 0, none⟩) 3 3] 130 (0, 0))
    ∧ W.heap[n4]? = some (.cells #[.int .i64 0, .string ⟨#[107, 101]⟩, .int .i64 1, .string ⟨#[107, 121]⟩, .int .i64 0, .string ⟨#[104, 107, 97]⟩, .int .i64 1, .string ⟨#[107, 110]⟩] 134 (0, 0))
theorem BookX.book {W : World} {B n3 n4 : Nat} (h : BookX W B n3 n4) : BookC W (some ⟨n3, 0, none⟩) (some ⟨n4, 0, none⟩) 2 4 exBook := by
  obtain ⟨n1, n2, _, _, _, _, h1, h2, h3, h4⟩ := h
  exact exBook_mem h1 h2 h3 h4
theorem BookX.step {W W' : World} {B n3 n4 : Nat} (h : BookX W B n3 n4) (hs : ∀ b, B ≤ b → b < W.heap.size → W'.heap[b]? = W.heap[b]?) : BookX W' B n3 n4 := by
  obtain ⟨n1, n2, g1, g2, g3, g4, h1, h2, h3, h4⟩ := h
  exact ⟨n1, n2, g1, g2, g3, g4, (hs _ g1 (lt_of_block h1)).trans h1, (hs _ g2 (lt_of_block h2)).trans h2, (hs _ g3 (lt_of_block h3)).trans h3, (hs _ g4 (lt_of_block h4)).trans h4⟩
theorem BookX.mono {W W' : World} {B n3 n4 : Nat} (h : BookX W B n3 n4) (hb : Below W.heap.size W W') : BookX W' B n3 n4 := h.step fun b _ h => hb.block b h
set_option maxRecDepth 100000 in
set_option maxHeartbeats 4000000 in
theorem EBookX_any (w : World) : Calls Tryz.prog 21 #[] w fun e w' => ∃ n3 n4, e = .returned (.agg #[.int .i64 3, .slice (some ⟨n3, 0, none⟩) 2 2, .slice (some ⟨n4, 0, none⟩) 4 4]) ∧ BookX w' w.heap.size n3 n4 ∧ Below w.heap.size w w' := by
  have LE := Lib.hid (fun (a b : Int) (c : Bool) (V : World) => ELetter_any a b c V)
  go_enter Tryz.func21, Tryz.ntmps21
  go_wp2_with (go_at_call 67; go_must ((with_reducible refine (LE.out _ _ _ _).mono ?_); rintro e w2 ⟨rfl, rfl⟩; dsimp only))
  refine bodyPost_ret (v := .agg #[.int .i64 3, .slice (some ⟨w.heap.size + 1 + 1 + 1 + 1 + 1 + 1 + 1 + 1 + 1 + 1 + 1 + 1, 0, none⟩) 2 2, .slice (some ⟨w.heap.size + 1 + 1 + 1 + 1 + 1 + 1 + 1 + 1 + 1 + 1 + 1 + 1 + 1, 0, none⟩) 4 4]) ?_ rfl ⟨_, _, rfl, ⟨w.heap.size + 1 + 1 + 1 + 1 + 1, w.heap.size + 1 + 1 + 1 + 1 + 1 + 1 + 1 + 1 + 1 + 1, by omega, by omega, by omega, by omega, ?_, ?_, ?_, ?_⟩, ?_⟩
  · rw [results_one rfl]
    go_simp
  all_goals (try (repeat' (first | exact alloc_atE _ _ (by simp) | refine (heap_alloc_old _ _ (by first | omega | (simp <;> omega))).trans ?_)))
  exact (by (repeat' (first | assumption | exact Below.refl _ _ | refine below_drew' ?_ | refine Below.setCell ?_ (by first | omega | (simp <;> omega)) _ | refine Below.alloc ?_ (by first | omega | (simp <;> omega)) _)))
/-- The laws' mentions in memory. -/
def MentX (W : World) (g : Nat) : Prop := W.heap[g]? = some (.cells #[.int .i64 0, .int .i64 0, .int .i64 100, .int .i64 110, .int .i64 (-1), .int .i64 1, .int .i64 (-1), .int .i64 105, .int .i64 120, .int .i64 (-1), .int .i64 2, .int .i64 1, .int .i64 100, .int .i64 130, .int .i64 (-1), .int .i64 3, .int .i64 (-1), .int .i64 130, .int .i64 140, .int .i64 0] 38 (0, 0))
/-- A list of ties that stays where b is not. -/
theorem PeTiesC.other {w : World} {a : Option Addr} {l : List PeT} (h : PeTiesC w a l) {b : Nat} (hb : ∀ ad, a = some ad → ad.block ≠ b) (j : Nat) (v : Value) : PeTiesC (w.setCell ⟨b, j, none⟩ v) a l := fun i hi => by
  obtain ⟨g, off, e, hlt, h0, h1, h2⟩ := h i hi
  have hne : g ≠ b := hb _ e
  have hg : (w.setCell ⟨b, j, none⟩ v).heap[g]? = w.heap[g]? := setP_other hne
  refine ⟨g, off, e, by simpa using hlt, ?_, ?_, ?_⟩
  · exact (World.cell?_of_block (a := ⟨g, off + i * 3, none⟩) hg).trans h0
  · exact (World.cell?_of_block (a := ⟨g, off + i * 3 + 1, none⟩) hg).trans h1
  · exact (World.cell?_of_block (a := ⟨g, off + i * 3 + 2, none⟩) hg).trans h2
/-- What Town gives. -/
def TownPost (k : Nat) (w : World) (e : Ending) (w' : World) : Prop :=
  ∃ a1 a2 a3 a4 k4, e = .returned (.agg #[.int .i64 3, .slice a1 2 2, .slice a2 4 4, .int .i64 2, .slice a3 4 4, .slice a4 k k4]) ∧ TownC w' a1 a2 a3 a4 2 4 4 k4 (exTown k) ∧ Below w.heap.size w w'
theorem own_setT {W : World} {T base : Nat} {e : TypeId} {size n : Nat} {v : Value} {xs : List Value} (h : W.ownsRow base e size v n xs) (hb : T < base) (j : Nat) (u : Value) : (W.setCell ⟨T, j, none⟩ u).ownsRow base e size v n xs :=
  h.kept (grown_setP (World.grownBy.refl W _)) (by
    cases hv : v.ownBlock with
    | none => exact .inl rfl
    | some k => exact .inr (fun e => by have := (h.lt k hv).1; have := Option.some.inj e; omega))
set_option maxRecDepth 100000 in
set_option maxHeartbeats 4000000 in
theorem PTown0_any (w : World) : Calls Tryz.prog 30 #[.int .i64 0] w (TownPost 0 w) := by
  have BO := Lib.hid (fun (V : World) => EBookX_any V)
  have ME := Lib.hid (fun (a b c d f : Int) (V : World) => LMent_any a b c d f V)
  go_enter Tryz.func30, Tryz.ntmps30
  go_upto_region 1 with (fail)
  obtain ⟨X, hX⟩ : ∃ X : World, X = w.alloc (.cells #[.int .i64 0, .slice none 0 0, .slice none 0 0, .int .i64 0, .slice none 0 0, .slice none 0 0] 29) := ⟨_, rfl⟩
  rw [← hX]
  have hbX : Below w.heap.size w X := by rw [hX]; exact (Below.refl _ _).alloc (Nat.le_refl _) _
  have hR : X.heap[w.heap.size]? = some (.cells #[.int .i64 0, .slice none 0 0, .slice none 0 0, .int .i64 0, .slice none 0 0, .slice none 0 0] 29 (0, 0)) := by rw [hX]; exact alloc_atE _ _ rfl
  replace hX : X.heap.size = w.heap.size + 1 := by rw [hX]; simp
  replace hX := Lib.hid hX
  go_upto_region 2 with (first
    | (go_at_call 21; go_must ((with_reducible refine (BO.out _).mono ?_); rintro e w1 ⟨n3, n4, rfl, hBK, hb1⟩; have hA := hb1; dsimp only))
    | (go_at_call 35; go_must ((with_reducible refine (ME.out _ _ _ _ _ _).mono ?_); rintro e wn ⟨rfl, hbn⟩; replace hBK := hBK.mono hbn; replace hA := hA.trans (hbn.mono hA.size); clear hbn; dsimp only)))
  obtain ⟨X1, hX1⟩ : ∃ X1 : World, X1 = wn.alloc (.cells #[.int .i64 0, .int .i64 0, .int .i64 100, .int .i64 110, .int .i64 (-1), .int .i64 1, .int .i64 (-1), .int .i64 105, .int .i64 120, .int .i64 (-1), .int .i64 2, .int .i64 1, .int .i64 100, .int .i64 130, .int .i64 (-1), .int .i64 3, .int .i64 (-1), .int .i64 130, .int .i64 140, .int .i64 0] 38) := ⟨_, rfl⟩
  have hs1 : X1.heap.size = wn.heap.size + 1 := by rw [hX1]; simp
  have hBX : BookX X1 X.heap.size n3 n4 := by rw [hX1]; exact hBK.mono ((Below.refl _ _).alloc (Nat.le_refl _) _)
  have hMX : MentX X1 wn.heap.size := by rw [hX1]; exact alloc_atE _ _ rfl
  have hXR := hX.out
  have hgR : w.heap.size < wn.heap.size := by have := hA.size; omega
  have hAX : Below w.heap.size w X1 := by rw [hX1]; exact (hbX.trans (hA.mono hbX.size)).alloc (by have := hbX.size; have := hA.size; omega) _
  have hRX : X1.heap[w.heap.size]? = some (.cells #[.int .i64 0, .slice none 0 0, .slice none 0 0, .int .i64 0, .slice none 0 0, .slice none 0 0] 29 (0, 0)) := by rw [hX1]; exact (heap_alloc_old _ _ (Nat.lt_of_lt_of_le (lt_of_block hR) hA.size)).trans ((hA.block _ (lt_of_block hR)).trans hR)
  rw [← hX1, ← hs1]
  clear hX1 hBK hA hR hbX hX
  rw [hXR] at hBX
  clear hXR
  generalize hgm : wn.heap.size = gm at *
  clear hgm
  obtain ⟨Z, hZ⟩ : ∃ Z : World, Z = X1.alloc (.cells #[.int .i64 3, .slice (some ⟨n3, 0, none⟩) 2 2, .slice (some ⟨n4, 0, none⟩) 4 4, .int .i64 2, .slice (some ⟨gm, 0, none⟩) 4 4, .slice none 0 0] 29) := ⟨_, rfl⟩
  rw [← hZ]
  have hbZ : Below X1.heap.size X1 Z := by rw [hZ]; exact (Below.refl _ _).alloc (Nat.le_refl _) _
  have hT : Z.heap[X1.heap.size]? = some (.cells #[.int .i64 3, .slice (some ⟨n3, 0, none⟩) 2 2, .slice (some ⟨n4, 0, none⟩) 4 4, .int .i64 2, .slice (some ⟨gm, 0, none⟩) 4 4, .slice none 0 0] 29 (0, 0)) := by rw [hZ]; exact alloc_atE _ _ rfl
  have hTR := lt_of_block hRX
  have HBX := Lib.hid hBX
  have HMX := Lib.hid hMX
  have HGR := Lib.hid hgR
  have HTZ := Lib.hid (lt_of_block hT)
  have HRX := Lib.hid hRX
  have HAX := Lib.hid hAX
  clear hZ hBX hMX hgR hRX hAX hs1
  have r0 := (hbZ.block _ hTR).trans HRX.out
  have hT := hT
  have s0 := blk_cell 0 hT rfl
  have s1 := blk_cell 1 hT rfl
  have s2 := blk_cell 2 hT rfl
  have s3 := blk_cell 3 hT rfl
  have s4 := blk_cell 4 hT rfl
  have s5 := blk_cell 5 hT rfl
  have sz := lt_of_block hT
  have f0 := blk_free 0 r0
  have f1 := blk_free 1 r0
  have f2 := blk_free 2 r0
  have f3 := blk_free 3 r0
  have f4 := blk_free 4 r0
  have f5 := blk_free 5 r0
  have c0 := blk_cell 0 r0 rfl
  have c1 := blk_cell 1 r0 rfl
  have c2 := blk_cell 2 r0 rfl
  have c3 := blk_cell 3 r0 rfl
  have c4 := blk_cell 4 r0 rfl
  have c5 := blk_cell 5 r0 rfl
  have rz := lt_of_block r0
  simp only [List.getElem_toArray, List.getElem_cons_zero, List.getElem_cons_succ] at s0 s1 s2 s3 s4 s5 c0 c1 c2 c3 c4 c5
  have R0 := Lib.hid r0
  clear r0
  go_wp2
  have hs := blk_set 5 (.slice none 0 0) (blk_set 4 (.slice (some ⟨gm, 0, none⟩) 4 4) (blk_set 3 (.int .i64 2) (blk_set 2 (.slice (some ⟨n4, 0, none⟩) 4 4) (blk_set 1 (.slice (some ⟨n3, 0, none⟩) 2 2) (blk_set 0 (.int .i64 3) R0.out)))))
  have hE := ((((((Below.refl w.heap.size Z).setCell (p := ⟨w.heap.size, 0, none⟩) (Nat.le_refl _) (.int .i64 3)).setCell (p := ⟨w.heap.size, 1, none⟩) (Nat.le_refl _) (.slice (some ⟨n3, 0, none⟩) 2 2)).setCell (p := ⟨w.heap.size, 2, none⟩) (Nat.le_refl _) (.slice (some ⟨n4, 0, none⟩) 4 4)).setCell (p := ⟨w.heap.size, 3, none⟩) (Nat.le_refl _) (.int .i64 2)).setCell (p := ⟨w.heap.size, 4, none⟩) (Nat.le_refl _) (.slice (some ⟨gm, 0, none⟩) 4 4)).setCell (p := ⟨w.heap.size, 5, none⟩) (Nat.le_refl _) (.slice none 0 0)
  obtain ⟨F, hF⟩ : ∃ F : World, F = (((((Z.setCell ⟨w.heap.size, 0, none⟩ (.int .i64 3)).setCell ⟨w.heap.size, 1, none⟩ (.slice (some ⟨n3, 0, none⟩) 2 2)).setCell ⟨w.heap.size, 2, none⟩ (.slice (some ⟨n4, 0, none⟩) 4 4)).setCell ⟨w.heap.size, 3, none⟩ (.int .i64 2)).setCell ⟨w.heap.size, 4, none⟩ (.slice (some ⟨gm, 0, none⟩) 4 4)).setCell ⟨w.heap.size, 5, none⟩ (.slice none 0 0) := ⟨_, rfl⟩
  rw [← hF] at hs hE ⊢
  have hO : ∀ b, b ≠ w.heap.size → F.heap[b]? = Z.heap[b]? := fun b hb => by rw [hF, setP_other hb, setP_other hb, setP_other hb, setP_other hb, setP_other hb, setP_other hb]
  have hbk : BookX F (w.heap.size + 1) n3 n4 := HBX.out.step fun b g1 g2 => (hO b (by omega)).trans (hbZ.block b g2)
  have hmk : MentX F gm := (hO gm (by have := HGR.out; omega)).trans ((hbZ.block gm (lt_of_block HMX.out)).trans HMX.out)
  have htk : PeTiesC F none (exTown 0).ties := PeTiesC.nil _ _
  clear hF c0 c1 c2 c3 c4 c5 f0 f1 f2 f3 f4 f5 rz s0 s1 s2 s3 s4 s5 sz
  have c0 := blk_cell 0 hs rfl
  have c1 := blk_cell 1 hs rfl
  have c2 := blk_cell 2 hs rfl
  have c3 := blk_cell 3 hs rfl
  have c4 := blk_cell 4 hs rfl
  have c5 := blk_cell 5 hs rfl
  simp only [List.setIfInBounds_toArray, List.set_cons_zero, List.set_cons_succ, List.getElem_toArray, List.getElem_cons_zero, List.getElem_cons_succ] at c0 c1 c2 c3 c4 c5
  refine bodyPost_ret (v := .agg #[.int .i64 3, .slice (some ⟨n3, 0, none⟩) 2 2, .slice (some ⟨n4, 0, none⟩) 4 4, .int .i64 2, .slice (some ⟨gm, 0, none⟩) 4 4, .slice none 0 0]) ?_ rfl ⟨_, _, _, _, _, rfl, ⟨hbk.book, ⟨Nat.le_refl _, by decide, fun h => by cases h⟩, ⟨Nat.le_refl _, by decide, fun _ => rfl⟩, exMents_mem hmk _, htk⟩, (HAX.out.trans (hbZ.mono HAX.out.size)).trans hE⟩
  rw [results_one rfl]
  go_simp
set_option maxRecDepth 100000 in
set_option maxHeartbeats 4000000 in
theorem PTown1_any (w : World) : Calls Tryz.prog 30 #[.int .i64 1] w (TownPost 1 w) := by
  have BO := Lib.hid (fun (V : World) => EBookX_any V)
  have ME := Lib.hid (fun (a b c d f : Int) (V : World) => LMent_any a b c d f V)
  go_enter Tryz.func30, Tryz.ntmps30
  go_upto_region 1 with (fail)
  obtain ⟨X, hX⟩ : ∃ X : World, X = w.alloc (.cells #[.int .i64 0, .slice none 0 0, .slice none 0 0, .int .i64 0, .slice none 0 0, .slice none 0 0] 29) := ⟨_, rfl⟩
  rw [← hX]
  have hbX : Below w.heap.size w X := by rw [hX]; exact (Below.refl _ _).alloc (Nat.le_refl _) _
  have hR : X.heap[w.heap.size]? = some (.cells #[.int .i64 0, .slice none 0 0, .slice none 0 0, .int .i64 0, .slice none 0 0, .slice none 0 0] 29 (0, 0)) := by rw [hX]; exact alloc_atE _ _ rfl
  replace hX : X.heap.size = w.heap.size + 1 := by rw [hX]; simp
  replace hX := Lib.hid hX
  go_upto_region 2 with (first
    | (go_at_call 21; go_must ((with_reducible refine (BO.out _).mono ?_); rintro e w1 ⟨n3, n4, rfl, hBK, hb1⟩; have hA := hb1; dsimp only))
    | (go_at_call 35; go_must ((with_reducible refine (ME.out _ _ _ _ _ _).mono ?_); rintro e wn ⟨rfl, hbn⟩; replace hBK := hBK.mono hbn; replace hA := hA.trans (hbn.mono hA.size); clear hbn; dsimp only)))
  obtain ⟨X1, hX1⟩ : ∃ X1 : World, X1 = wn.alloc (.cells #[.int .i64 0, .int .i64 0, .int .i64 100, .int .i64 110, .int .i64 (-1), .int .i64 1, .int .i64 (-1), .int .i64 105, .int .i64 120, .int .i64 (-1), .int .i64 2, .int .i64 1, .int .i64 100, .int .i64 130, .int .i64 (-1), .int .i64 3, .int .i64 (-1), .int .i64 130, .int .i64 140, .int .i64 0] 38) := ⟨_, rfl⟩
  have hs1 : X1.heap.size = wn.heap.size + 1 := by rw [hX1]; simp
  have hBX : BookX X1 X.heap.size n3 n4 := by rw [hX1]; exact hBK.mono ((Below.refl _ _).alloc (Nat.le_refl _) _)
  have hMX : MentX X1 wn.heap.size := by rw [hX1]; exact alloc_atE _ _ rfl
  have hXR := hX.out
  have hgR : w.heap.size < wn.heap.size := by have := hA.size; omega
  have hAX : Below w.heap.size w X1 := by rw [hX1]; exact (hbX.trans (hA.mono hbX.size)).alloc (by have := hbX.size; have := hA.size; omega) _
  have hRX : X1.heap[w.heap.size]? = some (.cells #[.int .i64 0, .slice none 0 0, .slice none 0 0, .int .i64 0, .slice none 0 0, .slice none 0 0] 29 (0, 0)) := by rw [hX1]; exact (heap_alloc_old _ _ (Nat.lt_of_lt_of_le (lt_of_block hR) hA.size)).trans ((hA.block _ (lt_of_block hR)).trans hR)
  rw [← hX1, ← hs1]
  clear hX1 hBK hA hR hbX hX
  rw [hXR] at hBX
  clear hXR
  generalize hgm : wn.heap.size = gm at *
  clear hgm
  obtain ⟨Z, hZ⟩ : ∃ Z : World, Z = X1.alloc (.cells #[.int .i64 3, .slice (some ⟨n3, 0, none⟩) 2 2, .slice (some ⟨n4, 0, none⟩) 4 4, .int .i64 2, .slice (some ⟨gm, 0, none⟩) 4 4, .slice none 0 0] 29) := ⟨_, rfl⟩
  rw [← hZ]
  have hbZ : Below X1.heap.size X1 Z := by rw [hZ]; exact (Below.refl _ _).alloc (Nat.le_refl _) _
  have hT : Z.heap[X1.heap.size]? = some (.cells #[.int .i64 3, .slice (some ⟨n3, 0, none⟩) 2 2, .slice (some ⟨n4, 0, none⟩) 4 4, .int .i64 2, .slice (some ⟨gm, 0, none⟩) 4 4, .slice none 0 0] 29 (0, 0)) := by rw [hZ]; exact alloc_atE _ _ rfl
  have hTR := lt_of_block hRX
  have HBX := Lib.hid hBX
  have HMX := Lib.hid hMX
  have HGR := Lib.hid hgR
  have HTZ := Lib.hid (lt_of_block hT)
  have HRX := Lib.hid hRX
  have HAX := Lib.hid hAX
  clear hZ hBX hMX hgR hRX hAX hs1
  go_upto_region 3 with (fail)
  have SF3 : Hid (∀ U, Below Z.heap.size Z U → (fun U => Below Z.heap.size Z U ∧ U.cell? ⟨X1.heap.size, 5, none⟩ = some (.slice none 0 0) ∧ X1.heap.size < U.heap.size) U) := Lib.hid (fun U h => by
    have q1 := (h.block _ HTZ.out).trans hT
    exact ⟨h, blk_cell 5 q1 rfl, lt_of_block q1⟩)
  have hZ0 := below_drew' (Below.refl Z.heap.size Z)
  have hZz3 : Z.heap.size ≤ Z.heap.size := Nat.le_refl _
  refine wp_only ?_
  refine wp_region_z (fun U => Below Z.heap.size Z U ∧ U.cell? ⟨X1.heap.size, 5, none⟩ = some (.slice none 0 0) ∧ X1.heap.size < U.heap.size) 6 (by kernel_rfl) (SF3.out Z.drew (hZ0.mono hZz3)) (fun hHeld => ?_)
  (refine wpZ_take (i := 0) (v := ?_) rfl (by kernel_rfl) (by kernel_rfl) (by kernel_rfl) (by kernel_rfl) (fun _ _ _ h => h) (Or.inl ⟨by kernel_rfl, ?_⟩) (by assumption) ?_; rotate_left 1; (focus (intro w hSw; (try dsimp only at hSw); go_simp; first | done | with_reducible rfl)); simp only [Act.put, List.getElem_toArray, List.getElem_cons_succ, List.getElem_cons_zero, List.setIfInBounds_toArray, List.set_cons_succ, List.set_cons_zero])
  (refine wpZ_take (i := 1) (v := ?_) rfl (by kernel_rfl) (by kernel_rfl) (by kernel_rfl) (by kernel_rfl) (fun _ _ _ h => h) (Or.inl ⟨by kernel_rfl, ?_⟩) (by assumption) ?_; rotate_left 1; (focus (intro w hSw; (try dsimp only at hSw); go_simp; first | done | with_reducible rfl)); simp only [Act.put, List.getElem_toArray, List.getElem_cons_succ, List.getElem_cons_zero, List.setIfInBounds_toArray, List.set_cons_succ, List.set_cons_zero])
  refine wpZ_ready (rs := [2]) (by kernel_rfl) (by simp) (AllZ.cons rfl (fun K hK => ?_) AllZ.nil)
  go_simp
  refine (LTie_any true _).mono ?_
  rintro e V1 ⟨rfl, hb1⟩
  dsimp only
  have hB1 := hZ0.trans (hb1.mono hZ0.size)
  refine hK.out _ _ (fun _ => SF3.out _ (hB1.mono hZz3)) ?_
  (try simp only [Act.put, List.getElem_toArray, List.getElem_cons_succ, List.getElem_cons_zero, List.setIfInBounds_toArray, List.set_cons_succ, List.set_cons_zero])
  clear hK
  refine wpZ_ready (rs := [3]) (by kernel_rfl) (by simp) (AllZ.cons rfl (fun K hK => ?_) AllZ.nil)
  go_simp
  have hB1' := hB1.alloc hB1.size (.cells #[.int .i64 0, .int .i64 1, .bool true] 44)
  refine hK.out _ _ (fun _ => SF3.out _ (hB1'.mono hZz3)) ?_
  (try simp only [Act.put, List.getElem_toArray, List.getElem_cons_succ, List.getElem_cons_zero, List.setIfInBounds_toArray, List.set_cons_succ, List.set_cons_zero])
  clear hK
  refine wpZ_ready (rs := [4]) (by kernel_rfl) (by simp) (AllZ.cons rfl (fun K hK => ?_) AllZ.nil)
  have hown3 : (V1.alloc (.cells #[.int .i64 0, .int .i64 1, .bool true] 44)).ownsRow Z.heap.size 44 3 (.slice none 0 0) 0 (flatC tieCells []) := World.ownsRow_nil _ _ _ _
  refine step_app (.tmp 14) (.tmp 16) (v := .slice none 0 0) E_tie (by rfl) (by rfl) (by rfl) (by rfl) Z.heap.size 0 1 (flatC tieCells []) (tieCells ⟨0, 1, true⟩) hown3 (SrcAt.tie1 V1 0 1 true 44) (by omega) (by decide) (Nat.le_trans hZz3 hB1'.size) ?_
  intro v3 V3 ho3 hg3 _
  have hB3 : Below Z.heap.size Z V3 := (hB1'.mono hZz3).grown hg3 (Nat.le_trans hZz3 hB1'.size) (fun k e => (hown3.lt k e).1)
  replace ho3 : V3.ownsRow Z.heap.size 44 3 v3 1 (flatC tieCells [⟨0, 1, true⟩]) := ho3
  have hHeld2 := SF3.out _ hB3
  refine hK.out _ _ (fun _ => hHeld2) ?_
  (try simp only [Act.put, List.getElem_toArray, List.getElem_cons_succ, List.getElem_cons_zero, List.setIfInBounds_toArray, List.set_cons_succ, List.set_cons_zero])
  clear hK
  obtain ⟨ar3, cr3, rfl, hsr3, ht3⟩ := tie_own ho3 rfl
  have har3 : ∀ ad, ar3 = some ad → ad.block ≠ X1.heap.size := fun ad e => by
    have hlt := (ho3.lt ad.block (by rw [e]; rfl)).1
    have := HTZ.out
    omega
  have hK3 := (hB3.block _ HTZ.out).trans hT
  have kk3 := blk_free 5 hK3
  have kkz := lt_of_block hK3
  have HZZ := Nat.le_trans hZz3 hB1'.size
  replace HZZ := Lib.hid (Nat.le_trans HZZ hg3.size)
  clear hg3 hb1 hB1 hB1' hown3 hZ0 SF3
  simp only [List.length_cons, List.length_nil, Nat.reduceAdd] at hsr3 ⊢
  (refine wpZ_take (i := 5) (v := ?_) rfl (by kernel_rfl) (by kernel_rfl) (by kernel_rfl) (by kernel_rfl) (fun _ _ _ h => h) (Or.inl ⟨by kernel_rfl, ?_⟩) (by assumption) ?_; rotate_left 1; (focus (intro w hSw; (try dsimp only at hSw); go_simp; first | done | with_reducible rfl)); simp only [Act.put, List.getElem_toArray, List.getElem_cons_succ, List.getElem_cons_zero, List.setIfInBounds_toArray, List.set_cons_succ, List.set_cons_zero])
  refine wpZ_ready (rs := [6]) (by kernel_rfl) (by simp) (AllZ.cons rfl (fun K hK => ?_) AllZ.nil)
  (go_simp; refine hK.out _ _ (fun h => absurd rfl h) ?_; (try simp only [Act.put, List.getElem_toArray, List.getElem_cons_succ, List.getElem_cons_zero, List.setIfInBounds_toArray, List.set_cons_succ, List.set_cons_zero]); clear hK; refine wpZ_done (by kernel_rfl) ?_ _)
  dsimp only [onlyN]
  clear kk3 kkz hHeld hHeld2
  obtain ⟨G3, hG3⟩ : ∃ G3 : World, G3 = V3.setCell ⟨X1.heap.size, 5, none⟩ (.slice ar3 1 cr3) := ⟨_, rfl⟩
  rw [← hG3]
  have hb3 : Below X1.heap.size X1 G3 := by rw [hG3]; exact (hbZ.trans (hB3.mono (Nat.le_of_lt HTZ.out))).setCell (Nat.le_refl _) _
  have hT3 := blk_set 5 (.slice ar3 1 cr3) hK3
  rw [← hG3] at hT3
  simp only [List.setIfInBounds_toArray, List.set_cons_zero, List.set_cons_succ] at hT3
  replace ho3 := own_setT ho3 HTZ.out 5 (.slice ar3 1 cr3)
  rw [← hG3] at ho3
  replace ht3 := ht3.other har3 5 (.slice ar3 1 cr3)
  rw [← hG3] at ht3
  have hzG3 : Z.heap.size ≤ G3.heap.size := by rw [hG3]; simpa using HZZ.out
  have HarR3 : Hid (∀ ad, ar3 = some ad → ad.block ≠ w.heap.size) := Lib.hid (fun ad e => by
    have hlt := (ho3.lt ad.block (by rw [e]; rfl)).1
    have := HTZ.out
    have := HAX.out.size
    omega)
  clear hG3 hK3 HZZ hB3 har3 hbZ hT
  have r0 := (hb3.block _ hTR).trans HRX.out
  have hT := hT3
  have s0 := blk_cell 0 hT rfl
  have s1 := blk_cell 1 hT rfl
  have s2 := blk_cell 2 hT rfl
  have s3 := blk_cell 3 hT rfl
  have s4 := blk_cell 4 hT rfl
  have s5 := blk_cell 5 hT rfl
  have sz := lt_of_block hT
  have f0 := blk_free 0 r0
  have f1 := blk_free 1 r0
  have f2 := blk_free 2 r0
  have f3 := blk_free 3 r0
  have f4 := blk_free 4 r0
  have f5 := blk_free 5 r0
  have c0 := blk_cell 0 r0 rfl
  have c1 := blk_cell 1 r0 rfl
  have c2 := blk_cell 2 r0 rfl
  have c3 := blk_cell 3 r0 rfl
  have c4 := blk_cell 4 r0 rfl
  have c5 := blk_cell 5 r0 rfl
  have rz := lt_of_block r0
  simp only [List.getElem_toArray, List.getElem_cons_zero, List.getElem_cons_succ] at s0 s1 s2 s3 s4 s5 c0 c1 c2 c3 c4 c5
  have R0 := Lib.hid r0
  clear r0
  go_wp2
  have hs := blk_set 5 (.slice ar3 1 cr3) (blk_set 4 (.slice (some ⟨gm, 0, none⟩) 4 4) (blk_set 3 (.int .i64 2) (blk_set 2 (.slice (some ⟨n4, 0, none⟩) 4 4) (blk_set 1 (.slice (some ⟨n3, 0, none⟩) 2 2) (blk_set 0 (.int .i64 3) R0.out)))))
  have hE := ((((((Below.refl w.heap.size G3).setCell (p := ⟨w.heap.size, 0, none⟩) (Nat.le_refl _) (.int .i64 3)).setCell (p := ⟨w.heap.size, 1, none⟩) (Nat.le_refl _) (.slice (some ⟨n3, 0, none⟩) 2 2)).setCell (p := ⟨w.heap.size, 2, none⟩) (Nat.le_refl _) (.slice (some ⟨n4, 0, none⟩) 4 4)).setCell (p := ⟨w.heap.size, 3, none⟩) (Nat.le_refl _) (.int .i64 2)).setCell (p := ⟨w.heap.size, 4, none⟩) (Nat.le_refl _) (.slice (some ⟨gm, 0, none⟩) 4 4)).setCell (p := ⟨w.heap.size, 5, none⟩) (Nat.le_refl _) (.slice ar3 1 cr3)
  obtain ⟨F, hF⟩ : ∃ F : World, F = (((((G3.setCell ⟨w.heap.size, 0, none⟩ (.int .i64 3)).setCell ⟨w.heap.size, 1, none⟩ (.slice (some ⟨n3, 0, none⟩) 2 2)).setCell ⟨w.heap.size, 2, none⟩ (.slice (some ⟨n4, 0, none⟩) 4 4)).setCell ⟨w.heap.size, 3, none⟩ (.int .i64 2)).setCell ⟨w.heap.size, 4, none⟩ (.slice (some ⟨gm, 0, none⟩) 4 4)).setCell ⟨w.heap.size, 5, none⟩ (.slice ar3 1 cr3) := ⟨_, rfl⟩
  rw [← hF] at hs hE ⊢
  have hO : ∀ b, b ≠ w.heap.size → F.heap[b]? = G3.heap[b]? := fun b hb => by rw [hF, setP_other hb, setP_other hb, setP_other hb, setP_other hb, setP_other hb, setP_other hb]
  have hbk : BookX F (w.heap.size + 1) n3 n4 := HBX.out.step fun b g1 g2 => (hO b (by omega)).trans (hb3.block b g2)
  have hmk : MentX F gm := (hO gm (by have := HGR.out; omega)).trans ((hb3.block gm (lt_of_block HMX.out)).trans HMX.out)
  have htk : PeTiesC F ar3 (exTown 1).ties := by rw [hF]; exact ((((((ht3.other HarR3.out _ _).other HarR3.out _ _).other HarR3.out _ _).other HarR3.out _ _).other HarR3.out _ _).other HarR3.out _ _)
  clear hF c0 c1 c2 c3 c4 c5 f0 f1 f2 f3 f4 f5 rz s0 s1 s2 s3 s4 s5 sz
  have c0 := blk_cell 0 hs rfl
  have c1 := blk_cell 1 hs rfl
  have c2 := blk_cell 2 hs rfl
  have c3 := blk_cell 3 hs rfl
  have c4 := blk_cell 4 hs rfl
  have c5 := blk_cell 5 hs rfl
  simp only [List.setIfInBounds_toArray, List.set_cons_zero, List.set_cons_succ, List.getElem_toArray, List.getElem_cons_zero, List.getElem_cons_succ] at c0 c1 c2 c3 c4 c5
  refine bodyPost_ret (v := .agg #[.int .i64 3, .slice (some ⟨n3, 0, none⟩) 2 2, .slice (some ⟨n4, 0, none⟩) 4 4, .int .i64 2, .slice (some ⟨gm, 0, none⟩) 4 4, .slice ar3 1 cr3]) ?_ rfl ⟨_, _, _, _, _, rfl, ⟨hbk.book, ⟨Nat.le_refl _, by decide, fun h => by cases h⟩, hsr3, exMents_mem hmk _, htk⟩, (HAX.out.trans (hb3.mono HAX.out.size)).trans hE⟩
  rw [results_one rfl]
  go_simp
set_option maxRecDepth 100000 in
set_option maxHeartbeats 4000000 in
theorem PTown2_any (w : World) : Calls Tryz.prog 30 #[.int .i64 2] w (TownPost 2 w) := by
  have BO := Lib.hid (fun (V : World) => EBookX_any V)
  have ME := Lib.hid (fun (a b c d f : Int) (V : World) => LMent_any a b c d f V)
  go_enter Tryz.func30, Tryz.ntmps30
  go_upto_region 1 with (fail)
  obtain ⟨X, hX⟩ : ∃ X : World, X = w.alloc (.cells #[.int .i64 0, .slice none 0 0, .slice none 0 0, .int .i64 0, .slice none 0 0, .slice none 0 0] 29) := ⟨_, rfl⟩
  rw [← hX]
  have hbX : Below w.heap.size w X := by rw [hX]; exact (Below.refl _ _).alloc (Nat.le_refl _) _
  have hR : X.heap[w.heap.size]? = some (.cells #[.int .i64 0, .slice none 0 0, .slice none 0 0, .int .i64 0, .slice none 0 0, .slice none 0 0] 29 (0, 0)) := by rw [hX]; exact alloc_atE _ _ rfl
  replace hX : X.heap.size = w.heap.size + 1 := by rw [hX]; simp
  replace hX := Lib.hid hX
  go_upto_region 2 with (first
    | (go_at_call 21; go_must ((with_reducible refine (BO.out _).mono ?_); rintro e w1 ⟨n3, n4, rfl, hBK, hb1⟩; have hA := hb1; dsimp only))
    | (go_at_call 35; go_must ((with_reducible refine (ME.out _ _ _ _ _ _).mono ?_); rintro e wn ⟨rfl, hbn⟩; replace hBK := hBK.mono hbn; replace hA := hA.trans (hbn.mono hA.size); clear hbn; dsimp only)))
  obtain ⟨X1, hX1⟩ : ∃ X1 : World, X1 = wn.alloc (.cells #[.int .i64 0, .int .i64 0, .int .i64 100, .int .i64 110, .int .i64 (-1), .int .i64 1, .int .i64 (-1), .int .i64 105, .int .i64 120, .int .i64 (-1), .int .i64 2, .int .i64 1, .int .i64 100, .int .i64 130, .int .i64 (-1), .int .i64 3, .int .i64 (-1), .int .i64 130, .int .i64 140, .int .i64 0] 38) := ⟨_, rfl⟩
  have hs1 : X1.heap.size = wn.heap.size + 1 := by rw [hX1]; simp
  have hBX : BookX X1 X.heap.size n3 n4 := by rw [hX1]; exact hBK.mono ((Below.refl _ _).alloc (Nat.le_refl _) _)
  have hMX : MentX X1 wn.heap.size := by rw [hX1]; exact alloc_atE _ _ rfl
  have hXR := hX.out
  have hgR : w.heap.size < wn.heap.size := by have := hA.size; omega
  have hAX : Below w.heap.size w X1 := by rw [hX1]; exact (hbX.trans (hA.mono hbX.size)).alloc (by have := hbX.size; have := hA.size; omega) _
  have hRX : X1.heap[w.heap.size]? = some (.cells #[.int .i64 0, .slice none 0 0, .slice none 0 0, .int .i64 0, .slice none 0 0, .slice none 0 0] 29 (0, 0)) := by rw [hX1]; exact (heap_alloc_old _ _ (Nat.lt_of_lt_of_le (lt_of_block hR) hA.size)).trans ((hA.block _ (lt_of_block hR)).trans hR)
  rw [← hX1, ← hs1]
  clear hX1 hBK hA hR hbX hX
  rw [hXR] at hBX
  clear hXR
  generalize hgm : wn.heap.size = gm at *
  clear hgm
  obtain ⟨Z, hZ⟩ : ∃ Z : World, Z = X1.alloc (.cells #[.int .i64 3, .slice (some ⟨n3, 0, none⟩) 2 2, .slice (some ⟨n4, 0, none⟩) 4 4, .int .i64 2, .slice (some ⟨gm, 0, none⟩) 4 4, .slice none 0 0] 29) := ⟨_, rfl⟩
  rw [← hZ]
  have hbZ : Below X1.heap.size X1 Z := by rw [hZ]; exact (Below.refl _ _).alloc (Nat.le_refl _) _
  have hT : Z.heap[X1.heap.size]? = some (.cells #[.int .i64 3, .slice (some ⟨n3, 0, none⟩) 2 2, .slice (some ⟨n4, 0, none⟩) 4 4, .int .i64 2, .slice (some ⟨gm, 0, none⟩) 4 4, .slice none 0 0] 29 (0, 0)) := by rw [hZ]; exact alloc_atE _ _ rfl
  have hTR := lt_of_block hRX
  have HBX := Lib.hid hBX
  have HMX := Lib.hid hMX
  have HGR := Lib.hid hgR
  have HTZ := Lib.hid (lt_of_block hT)
  have HRX := Lib.hid hRX
  have HAX := Lib.hid hAX
  clear hZ hBX hMX hgR hRX hAX hs1
  go_upto_region 3 with (fail)
  have SF3 : Hid (∀ U, Below Z.heap.size Z U → (fun U => Below Z.heap.size Z U ∧ U.cell? ⟨X1.heap.size, 5, none⟩ = some (.slice none 0 0) ∧ X1.heap.size < U.heap.size) U) := Lib.hid (fun U h => by
    have q1 := (h.block _ HTZ.out).trans hT
    exact ⟨h, blk_cell 5 q1 rfl, lt_of_block q1⟩)
  have hZ0 := below_drew' (Below.refl Z.heap.size Z)
  have hZz3 : Z.heap.size ≤ Z.heap.size := Nat.le_refl _
  refine wp_only ?_
  refine wp_region_z (fun U => Below Z.heap.size Z U ∧ U.cell? ⟨X1.heap.size, 5, none⟩ = some (.slice none 0 0) ∧ X1.heap.size < U.heap.size) 6 (by kernel_rfl) (SF3.out Z.drew (hZ0.mono hZz3)) (fun hHeld => ?_)
  (refine wpZ_take (i := 0) (v := ?_) rfl (by kernel_rfl) (by kernel_rfl) (by kernel_rfl) (by kernel_rfl) (fun _ _ _ h => h) (Or.inl ⟨by kernel_rfl, ?_⟩) (by assumption) ?_; rotate_left 1; (focus (intro w hSw; (try dsimp only at hSw); go_simp; first | done | with_reducible rfl)); simp only [Act.put, List.getElem_toArray, List.getElem_cons_succ, List.getElem_cons_zero, List.setIfInBounds_toArray, List.set_cons_succ, List.set_cons_zero])
  (refine wpZ_take (i := 1) (v := ?_) rfl (by kernel_rfl) (by kernel_rfl) (by kernel_rfl) (by kernel_rfl) (fun _ _ _ h => h) (Or.inl ⟨by kernel_rfl, ?_⟩) (by assumption) ?_; rotate_left 1; (focus (intro w hSw; (try dsimp only at hSw); go_simp; first | done | with_reducible rfl)); simp only [Act.put, List.getElem_toArray, List.getElem_cons_succ, List.getElem_cons_zero, List.setIfInBounds_toArray, List.set_cons_succ, List.set_cons_zero])
  refine wpZ_ready (rs := [2]) (by kernel_rfl) (by simp) (AllZ.cons rfl (fun K hK => ?_) AllZ.nil)
  go_simp
  refine (LTie_any true _).mono ?_
  rintro e V1 ⟨rfl, hb1⟩
  dsimp only
  have hB1 := hZ0.trans (hb1.mono hZ0.size)
  refine hK.out _ _ (fun _ => SF3.out _ (hB1.mono hZz3)) ?_
  (try simp only [Act.put, List.getElem_toArray, List.getElem_cons_succ, List.getElem_cons_zero, List.setIfInBounds_toArray, List.set_cons_succ, List.set_cons_zero])
  clear hK
  refine wpZ_ready (rs := [3]) (by kernel_rfl) (by simp) (AllZ.cons rfl (fun K hK => ?_) AllZ.nil)
  go_simp
  have hB1' := hB1.alloc hB1.size (.cells #[.int .i64 0, .int .i64 1, .bool true] 44)
  refine hK.out _ _ (fun _ => SF3.out _ (hB1'.mono hZz3)) ?_
  (try simp only [Act.put, List.getElem_toArray, List.getElem_cons_succ, List.getElem_cons_zero, List.setIfInBounds_toArray, List.set_cons_succ, List.set_cons_zero])
  clear hK
  refine wpZ_ready (rs := [4]) (by kernel_rfl) (by simp) (AllZ.cons rfl (fun K hK => ?_) AllZ.nil)
  have hown3 : (V1.alloc (.cells #[.int .i64 0, .int .i64 1, .bool true] 44)).ownsRow Z.heap.size 44 3 (.slice none 0 0) 0 (flatC tieCells []) := World.ownsRow_nil _ _ _ _
  refine step_app (.tmp 14) (.tmp 16) (v := .slice none 0 0) E_tie (by rfl) (by rfl) (by rfl) (by rfl) Z.heap.size 0 1 (flatC tieCells []) (tieCells ⟨0, 1, true⟩) hown3 (SrcAt.tie1 V1 0 1 true 44) (by omega) (by decide) (Nat.le_trans hZz3 hB1'.size) ?_
  intro v3 V3 ho3 hg3 _
  have hB3 : Below Z.heap.size Z V3 := (hB1'.mono hZz3).grown hg3 (Nat.le_trans hZz3 hB1'.size) (fun k e => (hown3.lt k e).1)
  replace ho3 : V3.ownsRow Z.heap.size 44 3 v3 1 (flatC tieCells [⟨0, 1, true⟩]) := ho3
  have hHeld2 := SF3.out _ hB3
  refine hK.out _ _ (fun _ => hHeld2) ?_
  (try simp only [Act.put, List.getElem_toArray, List.getElem_cons_succ, List.getElem_cons_zero, List.setIfInBounds_toArray, List.set_cons_succ, List.set_cons_zero])
  clear hK
  obtain ⟨ar3, cr3, rfl, hsr3, ht3⟩ := tie_own ho3 rfl
  have har3 : ∀ ad, ar3 = some ad → ad.block ≠ X1.heap.size := fun ad e => by
    have hlt := (ho3.lt ad.block (by rw [e]; rfl)).1
    have := HTZ.out
    omega
  have hK3 := (hB3.block _ HTZ.out).trans hT
  have kk3 := blk_free 5 hK3
  have kkz := lt_of_block hK3
  have HZZ := Nat.le_trans hZz3 hB1'.size
  replace HZZ := Lib.hid (Nat.le_trans HZZ hg3.size)
  clear hg3 hb1 hB1 hB1' hown3 hZ0 SF3
  simp only [List.length_cons, List.length_nil, Nat.reduceAdd] at hsr3 ⊢
  (refine wpZ_take (i := 5) (v := ?_) rfl (by kernel_rfl) (by kernel_rfl) (by kernel_rfl) (by kernel_rfl) (fun _ _ _ h => h) (Or.inl ⟨by kernel_rfl, ?_⟩) (by assumption) ?_; rotate_left 1; (focus (intro w hSw; (try dsimp only at hSw); go_simp; first | done | with_reducible rfl)); simp only [Act.put, List.getElem_toArray, List.getElem_cons_succ, List.getElem_cons_zero, List.setIfInBounds_toArray, List.set_cons_succ, List.set_cons_zero])
  refine wpZ_ready (rs := [6]) (by kernel_rfl) (by simp) (AllZ.cons rfl (fun K hK => ?_) AllZ.nil)
  (go_simp; refine hK.out _ _ (fun h => absurd rfl h) ?_; (try simp only [Act.put, List.getElem_toArray, List.getElem_cons_succ, List.getElem_cons_zero, List.setIfInBounds_toArray, List.set_cons_succ, List.set_cons_zero]); clear hK; refine wpZ_done (by kernel_rfl) ?_ _)
  dsimp only [onlyN]
  clear kk3 kkz hHeld hHeld2
  obtain ⟨G3, hG3⟩ : ∃ G3 : World, G3 = V3.setCell ⟨X1.heap.size, 5, none⟩ (.slice ar3 1 cr3) := ⟨_, rfl⟩
  rw [← hG3]
  have hb3 : Below X1.heap.size X1 G3 := by rw [hG3]; exact (hbZ.trans (hB3.mono (Nat.le_of_lt HTZ.out))).setCell (Nat.le_refl _) _
  have hT3 := blk_set 5 (.slice ar3 1 cr3) hK3
  rw [← hG3] at hT3
  simp only [List.setIfInBounds_toArray, List.set_cons_zero, List.set_cons_succ] at hT3
  replace ho3 := own_setT ho3 HTZ.out 5 (.slice ar3 1 cr3)
  rw [← hG3] at ho3
  replace ht3 := ht3.other har3 5 (.slice ar3 1 cr3)
  rw [← hG3] at ht3
  have hzG3 : Z.heap.size ≤ G3.heap.size := by rw [hG3]; simpa using HZZ.out
  have HarR3 : Hid (∀ ad, ar3 = some ad → ad.block ≠ w.heap.size) := Lib.hid (fun ad e => by
    have hlt := (ho3.lt ad.block (by rw [e]; rfl)).1
    have := HTZ.out
    have := HAX.out.size
    omega)
  clear hG3 hK3 HZZ hB3 har3 hbZ hT
  go_upto_region 5 with (fail)
  have SF5 : Hid (∀ U, Below Z.heap.size G3 U → (fun U => Below Z.heap.size G3 U ∧ U.cell? ⟨X1.heap.size, 5, none⟩ = some (.slice ar3 1 cr3) ∧ X1.heap.size < U.heap.size) U) := Lib.hid (fun U h => by
    have q1 := (h.block _ HTZ.out).trans hT3
    exact ⟨h, blk_cell 5 q1 rfl, lt_of_block q1⟩)
  have hZ0 := below_drew' (Below.refl G3.heap.size G3)
  have hZz5 : Z.heap.size ≤ G3.heap.size := hzG3
  refine wp_only ?_
  refine wp_region_z (fun U => Below Z.heap.size G3 U ∧ U.cell? ⟨X1.heap.size, 5, none⟩ = some (.slice ar3 1 cr3) ∧ X1.heap.size < U.heap.size) 6 (by kernel_rfl) (SF5.out G3.drew (hZ0.mono hZz5)) (fun hHeld => ?_)
  (refine wpZ_take (i := 0) (v := ?_) rfl (by kernel_rfl) (by kernel_rfl) (by kernel_rfl) (by kernel_rfl) (fun _ _ _ h => h) (Or.inl ⟨by kernel_rfl, ?_⟩) (by assumption) ?_; rotate_left 1; (focus (intro w hSw; (try dsimp only at hSw); go_simp; first | done | with_reducible rfl)); simp only [Act.put, List.getElem_toArray, List.getElem_cons_succ, List.getElem_cons_zero, List.setIfInBounds_toArray, List.set_cons_succ, List.set_cons_zero])
  (refine wpZ_take (i := 1) (v := ?_) rfl (by kernel_rfl) (by kernel_rfl) (by kernel_rfl) (by kernel_rfl) (fun _ _ _ h => h) (Or.inl ⟨by kernel_rfl, ?_⟩) (by assumption) ?_; rotate_left 1; (focus (intro w hSw; (try dsimp only at hSw); go_simp; first | done | with_reducible rfl)); simp only [Act.put, List.getElem_toArray, List.getElem_cons_succ, List.getElem_cons_zero, List.setIfInBounds_toArray, List.set_cons_succ, List.set_cons_zero])
  refine wpZ_ready (rs := [2]) (by kernel_rfl) (by simp) (AllZ.cons rfl (fun K hK => ?_) AllZ.nil)
  go_simp
  refine (LTie_any false _).mono ?_
  rintro e V1 ⟨rfl, hb1⟩
  dsimp only
  have hB1 := hZ0.trans (hb1.mono hZ0.size)
  refine hK.out _ _ (fun _ => SF5.out _ (hB1.mono hZz5)) ?_
  (try simp only [Act.put, List.getElem_toArray, List.getElem_cons_succ, List.getElem_cons_zero, List.setIfInBounds_toArray, List.set_cons_succ, List.set_cons_zero])
  clear hK
  refine wpZ_ready (rs := [3]) (by kernel_rfl) (by simp) (AllZ.cons rfl (fun K hK => ?_) AllZ.nil)
  go_simp
  have hB1' := hB1.alloc hB1.size (.cells #[.int .i64 0, .int .i64 1, .bool false] 44)
  refine hK.out _ _ (fun _ => SF5.out _ (hB1'.mono hZz5)) ?_
  (try simp only [Act.put, List.getElem_toArray, List.getElem_cons_succ, List.getElem_cons_zero, List.setIfInBounds_toArray, List.set_cons_succ, List.set_cons_zero])
  clear hK
  refine wpZ_ready (rs := [4]) (by kernel_rfl) (by simp) (AllZ.cons rfl (fun K hK => ?_) AllZ.nil)
  have hown5 : (V1.alloc (.cells #[.int .i64 0, .int .i64 1, .bool false] 44)).ownsRow Z.heap.size 44 3 (.slice ar3 1 cr3) 1 (flatC tieCells [⟨0, 1, true⟩]) := own_below ho3 hB1'
  refine step_app (.tmp 22) (.tmp 24) (v := .slice ar3 1 cr3) E_tie (by rfl) (by rfl) (by rfl) (by rfl) Z.heap.size 1 1 (flatC tieCells [⟨0, 1, true⟩]) (tieCells ⟨0, 1, false⟩) hown5 (SrcAt.tie1 V1 0 1 false 44) (by omega) (by decide) (Nat.le_trans hZz5 hB1'.size) ?_
  intro v5 V5 ho5 hg5 _
  have hB5 : Below Z.heap.size G3 V5 := (hB1'.mono hZz5).grown hg5 (Nat.le_trans hZz5 hB1'.size) (fun k e => (hown5.lt k e).1)
  replace ho5 : V5.ownsRow Z.heap.size 44 3 v5 2 (flatC tieCells [⟨0, 1, true⟩, ⟨0, 1, false⟩]) := ho5
  have hHeld2 := SF5.out _ hB5
  refine hK.out _ _ (fun _ => hHeld2) ?_
  (try simp only [Act.put, List.getElem_toArray, List.getElem_cons_succ, List.getElem_cons_zero, List.setIfInBounds_toArray, List.set_cons_succ, List.set_cons_zero])
  clear hK
  obtain ⟨ar5, cr5, rfl, hsr5, ht5⟩ := tie_own ho5 rfl
  have har5 : ∀ ad, ar5 = some ad → ad.block ≠ X1.heap.size := fun ad e => by
    have hlt := (ho5.lt ad.block (by rw [e]; rfl)).1
    have := HTZ.out
    omega
  have hK5 := (hB5.block _ HTZ.out).trans hT3
  have kk3 := blk_free 5 hK5
  have kkz := lt_of_block hK5
  have HZZ := Nat.le_trans hZz5 hB1'.size
  replace HZZ := Lib.hid (Nat.le_trans HZZ hg5.size)
  clear hg5 hb1 hB1 hB1' hown5 hZ0 SF5
  simp only [List.length_cons, List.length_nil, Nat.reduceAdd] at hsr5 ⊢
  (refine wpZ_take (i := 5) (v := ?_) rfl (by kernel_rfl) (by kernel_rfl) (by kernel_rfl) (by kernel_rfl) (fun _ _ _ h => h) (Or.inl ⟨by kernel_rfl, ?_⟩) (by assumption) ?_; rotate_left 1; (focus (intro w hSw; (try dsimp only at hSw); go_simp; first | done | with_reducible rfl)); simp only [Act.put, List.getElem_toArray, List.getElem_cons_succ, List.getElem_cons_zero, List.setIfInBounds_toArray, List.set_cons_succ, List.set_cons_zero])
  refine wpZ_ready (rs := [6]) (by kernel_rfl) (by simp) (AllZ.cons rfl (fun K hK => ?_) AllZ.nil)
  (go_simp; refine hK.out _ _ (fun h => absurd rfl h) ?_; (try simp only [Act.put, List.getElem_toArray, List.getElem_cons_succ, List.getElem_cons_zero, List.setIfInBounds_toArray, List.set_cons_succ, List.set_cons_zero]); clear hK; refine wpZ_done (by kernel_rfl) ?_ _)
  dsimp only [onlyN]
  clear kk3 kkz hHeld hHeld2
  obtain ⟨G5, hG5⟩ : ∃ G5 : World, G5 = V5.setCell ⟨X1.heap.size, 5, none⟩ (.slice ar5 2 cr5) := ⟨_, rfl⟩
  rw [← hG5]
  have hb5 : Below X1.heap.size X1 G5 := by rw [hG5]; exact (hb3.trans (hB5.mono (Nat.le_of_lt HTZ.out))).setCell (Nat.le_refl _) _
  have hT5 := blk_set 5 (.slice ar5 2 cr5) hK5
  rw [← hG5] at hT5
  simp only [List.setIfInBounds_toArray, List.set_cons_zero, List.set_cons_succ] at hT5
  replace ho5 := own_setT ho5 HTZ.out 5 (.slice ar5 2 cr5)
  rw [← hG5] at ho5
  replace ht5 := ht5.other har5 5 (.slice ar5 2 cr5)
  rw [← hG5] at ht5
  have hzG5 : Z.heap.size ≤ G5.heap.size := by rw [hG5]; simpa using HZZ.out
  have HarR5 : Hid (∀ ad, ar5 = some ad → ad.block ≠ w.heap.size) := Lib.hid (fun ad e => by
    have hlt := (ho5.lt ad.block (by rw [e]; rfl)).1
    have := HTZ.out
    have := HAX.out.size
    omega)
  clear hG5 hK5 HZZ hB5 har5 hb3 hT3
  have r0 := (hb5.block _ hTR).trans HRX.out
  have hT := hT5
  have s0 := blk_cell 0 hT rfl
  have s1 := blk_cell 1 hT rfl
  have s2 := blk_cell 2 hT rfl
  have s3 := blk_cell 3 hT rfl
  have s4 := blk_cell 4 hT rfl
  have s5 := blk_cell 5 hT rfl
  have sz := lt_of_block hT
  have f0 := blk_free 0 r0
  have f1 := blk_free 1 r0
  have f2 := blk_free 2 r0
  have f3 := blk_free 3 r0
  have f4 := blk_free 4 r0
  have f5 := blk_free 5 r0
  have c0 := blk_cell 0 r0 rfl
  have c1 := blk_cell 1 r0 rfl
  have c2 := blk_cell 2 r0 rfl
  have c3 := blk_cell 3 r0 rfl
  have c4 := blk_cell 4 r0 rfl
  have c5 := blk_cell 5 r0 rfl
  have rz := lt_of_block r0
  simp only [List.getElem_toArray, List.getElem_cons_zero, List.getElem_cons_succ] at s0 s1 s2 s3 s4 s5 c0 c1 c2 c3 c4 c5
  have R0 := Lib.hid r0
  clear r0
  go_wp2
  have hs := blk_set 5 (.slice ar5 2 cr5) (blk_set 4 (.slice (some ⟨gm, 0, none⟩) 4 4) (blk_set 3 (.int .i64 2) (blk_set 2 (.slice (some ⟨n4, 0, none⟩) 4 4) (blk_set 1 (.slice (some ⟨n3, 0, none⟩) 2 2) (blk_set 0 (.int .i64 3) R0.out)))))
  have hE := ((((((Below.refl w.heap.size G5).setCell (p := ⟨w.heap.size, 0, none⟩) (Nat.le_refl _) (.int .i64 3)).setCell (p := ⟨w.heap.size, 1, none⟩) (Nat.le_refl _) (.slice (some ⟨n3, 0, none⟩) 2 2)).setCell (p := ⟨w.heap.size, 2, none⟩) (Nat.le_refl _) (.slice (some ⟨n4, 0, none⟩) 4 4)).setCell (p := ⟨w.heap.size, 3, none⟩) (Nat.le_refl _) (.int .i64 2)).setCell (p := ⟨w.heap.size, 4, none⟩) (Nat.le_refl _) (.slice (some ⟨gm, 0, none⟩) 4 4)).setCell (p := ⟨w.heap.size, 5, none⟩) (Nat.le_refl _) (.slice ar5 2 cr5)
  obtain ⟨F, hF⟩ : ∃ F : World, F = (((((G5.setCell ⟨w.heap.size, 0, none⟩ (.int .i64 3)).setCell ⟨w.heap.size, 1, none⟩ (.slice (some ⟨n3, 0, none⟩) 2 2)).setCell ⟨w.heap.size, 2, none⟩ (.slice (some ⟨n4, 0, none⟩) 4 4)).setCell ⟨w.heap.size, 3, none⟩ (.int .i64 2)).setCell ⟨w.heap.size, 4, none⟩ (.slice (some ⟨gm, 0, none⟩) 4 4)).setCell ⟨w.heap.size, 5, none⟩ (.slice ar5 2 cr5) := ⟨_, rfl⟩
  rw [← hF] at hs hE ⊢
  have hO : ∀ b, b ≠ w.heap.size → F.heap[b]? = G5.heap[b]? := fun b hb => by rw [hF, setP_other hb, setP_other hb, setP_other hb, setP_other hb, setP_other hb, setP_other hb]
  have hbk : BookX F (w.heap.size + 1) n3 n4 := HBX.out.step fun b g1 g2 => (hO b (by omega)).trans (hb5.block b g2)
  have hmk : MentX F gm := (hO gm (by have := HGR.out; omega)).trans ((hb5.block gm (lt_of_block HMX.out)).trans HMX.out)
  have htk : PeTiesC F ar5 (exTown 2).ties := by rw [hF]; exact ((((((ht5.other HarR5.out _ _).other HarR5.out _ _).other HarR5.out _ _).other HarR5.out _ _).other HarR5.out _ _).other HarR5.out _ _)
  clear hF c0 c1 c2 c3 c4 c5 f0 f1 f2 f3 f4 f5 rz s0 s1 s2 s3 s4 s5 sz
  have c0 := blk_cell 0 hs rfl
  have c1 := blk_cell 1 hs rfl
  have c2 := blk_cell 2 hs rfl
  have c3 := blk_cell 3 hs rfl
  have c4 := blk_cell 4 hs rfl
  have c5 := blk_cell 5 hs rfl
  simp only [List.setIfInBounds_toArray, List.set_cons_zero, List.set_cons_succ, List.getElem_toArray, List.getElem_cons_zero, List.getElem_cons_succ] at c0 c1 c2 c3 c4 c5
  refine bodyPost_ret (v := .agg #[.int .i64 3, .slice (some ⟨n3, 0, none⟩) 2 2, .slice (some ⟨n4, 0, none⟩) 4 4, .int .i64 2, .slice (some ⟨gm, 0, none⟩) 4 4, .slice ar5 2 cr5]) ?_ rfl ⟨_, _, _, _, _, rfl, ⟨hbk.book, ⟨Nat.le_refl _, by decide, fun h => by cases h⟩, hsr5, exMents_mem hmk _, htk⟩, (HAX.out.trans (hb5.mono HAX.out.size)).trans hE⟩
  rw [results_one rfl]
  go_simp
end Go.Proofs.YtklconegomgjaaaGreat
