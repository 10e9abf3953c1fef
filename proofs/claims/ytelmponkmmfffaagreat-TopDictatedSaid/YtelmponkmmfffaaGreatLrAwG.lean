/- What is proved here: contracts of the laws' Shelf and marks of layer 2. No condition. -/
/- What is proved here: the contract of Nearest at a shelf in which nothing is wrong, and that has forms. Conditions: the letter is one, and lies in memory. -/
/- What is proved here: the functions of layer 2 at the shelf and the letters of the laws' Awake; the contract of the laws' marks. Conditions: they lie in memory. -/
/- What is proved here: the contract of the laws' Awake of layer 2. No condition. -/
import Derived.Test.YtelmponkmmfffaaGreatLrSameG
import Derived.Test.YtelmponkmmfffaaGreatLeExG
import Derived.Test.YtelmponkmmfffaaGreatLeTextG
import Derived.Test.YtelmponkmmfffaaGreatLeOfG
import Derived.Test.YtelmponkmmfffaaGreatDw3
set_option linter.unusedVariables false
set_option linter.unusedSimpArgs false
namespace Go.Proofs.YtelmponkmmfffaaGreat
open Go Go.RowKit Go.Shelf
theorem no_strs (W : World) : StrsC W none [] := fun i hi => absurd hi (Nat.not_lt_zero i)
theorem no_ok : SlOk none 0 0 := ⟨Nat.le_refl _, by omega, fun _ => rfl⟩
theorem part_words {W : World} {b : Nat} {l : List LeP} {i : Nat} {hi : i < l.length} {aw : Option Addr} {cw : Nat} {ws : List ByteArray} (hz : b < W.heap.size) (h0 : W.cell? ⟨b, i * 3, none⟩ = some (.slice aw ws.length cw)) (h1 : W.cell? ⟨b, i * 3 + 1, none⟩ = some (.int .i64 l[i].lo)) (h2 : W.cell? ⟨b, i * 3 + 2, none⟩ = some (.int .i64 l[i].hi)) (hw : l[i].words = ws) (ho : SlOk aw ws.length cw) (hs : StrsC W aw ws) :
    ∃ b' off, some (⟨b, 0, none⟩ : Addr) = some ⟨b', off, none⟩ ∧ b' < W.heap.size ∧ (∃ aw cw, W.cell? ⟨b', off + i * 3, none⟩ = some (.slice aw l[i].words.length cw) ∧ SlOk aw l[i].words.length cw ∧ StrsC W aw l[i].words) ∧ W.cell? ⟨b', off + i * 3 + 1, none⟩ = some (.int .i64 l[i].lo) ∧ W.cell? ⟨b', off + i * 3 + 2, none⟩ = some (.int .i64 l[i].hi) := by
  subst hw
  exact ⟨b, 0, rfl, hz, ⟨aw, cw, by rw [Nat.zero_add]; exact h0, ho, hs⟩, by rw [Nat.zero_add]; exact h1, by rw [Nat.zero_add]; exact h2⟩
theorem StrsC.keepN {W V : World} {a : Option Addr} {l : List ByteArray} {b : Nat} (h : StrsC W a l) (hne : ∀ ad, a = some ad → ad.block ≠ b) (hk : ∀ k, k < W.heap.size → k ≠ b → V.heap[k]? = W.heap[k]?) (hs : W.heap.size ≤ V.heap.size) : StrsC V a l := fun i hi => by
  obtain ⟨b1, o1, e, hlt, hc⟩ := h i hi
  exact ⟨b1, o1, e, Nat.lt_of_lt_of_le hlt hs, (World.cell?_of_block (a := ⟨b1, o1 + i, none⟩) (hk b1 hlt (hne _ e))).trans hc⟩
set_option maxRecDepth 100000 in
set_option maxHeartbeats 4000000 in
theorem LShelf_any (w : World) :
    Calls Tryz.prog 19 #[] w fun e w' => ∃ af kf, e = .returned (.agg #[.int .i64 exS2.width, .slice af exS2.forms.length kf]) ∧ ShelfC w' af kf exS2 ∧ Below w.heap.size w w' := by
  have GexTT := fun U => LGiven_any (⟨#[116, 111, 32, 116, 104, 101]⟩ : ByteArray) (by decide) U
  rw [spl_exTT] at GexTT
  have GexIA := fun U => LGiven_any (⟨#[105, 32, 97, 115, 107]⟩ : ByteArray) (by decide) U
  rw [spl_exIA] at GexIA
  replace GexTT := Lib.hid GexTT
  replace GexIA := Lib.hid GexIA
  obtain ⟨X, hX⟩ : ∃ X : World, X = w.alloc (.cells #[.int .i64 0, .slice none 0 0] 24) := ⟨_, rfl⟩
  have hwX : Below w.heap.size w X := by rw [hX]; exact (Below.refl _ w).alloc (Nat.le_refl _) _
  have gX : X.heap[w.heap.size]? = some (.cells #[.int .i64 0, .slice none 0 0] 24 (0, 0)) := by rw [hX]; exact alloc_at _ _ rfl
  have HX := Lib.hid hX
  clear hX
  go_enter Tryz.func19, Tryz.ntmps19
  go_upto_region 1 with (fail)
  rw [← HX.out]
  clear HX
  go_wp2_with (first
    | (have hh := hb8; (go_at_call 66; go_must ((with_reducible refine (LRoom_any _ _ _).mono ?_); rintro e w9 ⟨rfl, hb9⟩; (have B1 : Below X.heap.size X w4 := hb1.trans ((hb2.trans ((hb3.trans (hb4.mono hb3.size)).mono hb2.size)).mono hb1.size)); (have B2 : Below w4.heap.size w4 w7 := ((Below.refl _ _).alloc (Nat.le_refl _) _).trans ((hb5.trans ((hb6.trans (hb7.mono hb6.size)).mono hb5.size)).mono (by simp))); (have B3 : Below w7.heap.size w7 w9 := ((Below.refl _ _).alloc (Nat.le_refl _) _).trans ((hb8.trans (hb9.mono hb8.size)).mono (by simp))); (have B9 : Below X.heap.size X w9 := B1.trans ((B2.trans (B3.mono B2.size)).mono B1.size)); (have gX9 := (B9.block _ (lt_of_block gX)).trans gX); (have x0 := blk_cell 0 gX9 rfl); (have x1 := blk_cell 1 gX9 rfl); (have f0 := blk_free 0 gX9); (have f1 := blk_free 1 gX9); (have xz := lt_of_block gX9); (simp only [List.getElem_toArray, List.getElem_cons_zero, List.getElem_cons_succ] at x0 x1); dsimp only)))
    | (have hh := hb7; (go_at_call 66; go_must ((with_reducible refine (LRoom_any _ _ _).mono ?_); rintro e w8 ⟨rfl, hb8⟩; dsimp only)))
    | (have hh := hb6; (go_at_call 66; go_must ((with_reducible refine (LRoom_any _ _ _).mono ?_); rintro e w7 ⟨rfl, hb7⟩; dsimp only)))
    | (have hh := hb5; (go_at_call 65; go_must ((with_reducible refine (GexIA.out _).mono ?_); rintro e w6 ⟨a6, k6, rfl, o6, s6, hb6, l6⟩; dsimp only)))
    | (have hh := hb4; (go_at_call 66; go_must ((with_reducible refine (LRoom_any _ _ _).mono ?_); rintro e w5 ⟨rfl, hb5⟩; dsimp only)))
    | (have hh := hb3; (go_at_call 66; go_must ((with_reducible refine (LRoom_any _ _ _).mono ?_); rintro e w4 ⟨rfl, hb4⟩; dsimp only)))
    | (have hh := hb2; (go_at_call 65; go_must ((with_reducible refine (GexIA.out _).mono ?_); rintro e w3 ⟨a3, k3, rfl, o3, s3, hb3, l3⟩; dsimp only)))
    | (have hh := hb1; (go_at_call 66; go_must ((with_reducible refine (LRoom_any _ _ _).mono ?_); rintro e w2 ⟨rfl, hb2⟩; dsimp only)))
    | ((go_at_call 65; go_must ((with_reducible refine (GexTT.out _).mono ?_); rintro e w1 ⟨a1, k1, rfl, o1, s1, hb1, l1⟩; dsimp only))))
  have q45 := (hb5.block _ (by simp)).trans (alloc_at w4 (.cells #[.slice a1 exTT.length k1, .int .i64 0, .int .i64 0, .slice none 0 0, .int .i64 1, .int .i64 2, .slice a3 exIA.length k3, .int .i64 0, .int .i64 0, .slice none 0 0, .int .i64 1, .int .i64 3] 62) rfl)
  have B47 : Below w5.heap.size w5 w9 := hb6.trans ((hb7.trans (B3.mono hb7.size)).mono hb6.size)
  have B79 := hb8.trans (hb9.mono hb8.size)
  have q4 := (B47.block _ (lt_of_block q45)).trans q45
  have q7 := (B79.block _ (by simp)).trans (alloc_at w7 (.cells #[.slice none 0 0, .int .i64 1, .int .i64 2, .slice a6 exIA.length k6, .int .i64 0, .int .i64 0, .slice none 0 0, .int .i64 0, .int .i64 2] 62) rfl)
  have s1 := s1.mono (hb2.trans ((hb3.trans (hb4.mono hb3.size)).mono hb2.size))
  have s1 := s1.mono (B2.trans (B3.mono B2.size))
  have s3 := (s3.mono hb4).mono (B2.trans (B3.mono B2.size))
  have s6 := (s6.mono hb7).mono B3
  have n0 : w.heap.size < X.heap.size := lt_of_block gX
  have n1 : X.heap.size ≤ w4.heap.size := B1.size
  have n2 : w4.heap.size < w5.heap.size := lt_of_block q45
  have n3 : w5.heap.size ≤ w7.heap.size := (hb6.trans (hb7.mono hb6.size)).size
  have n4 : w7.heap.size < w9.heap.size := lt_of_block q7
  obtain ⟨V, hV⟩ : ∃ V : World, V = (((w9.setCell ⟨w.heap.size, 0, none⟩ (.int .i64 12)).setCell ⟨w.heap.size, 1, none⟩ (.slice (some ⟨w9.heap.size + 1, 0, none⟩) 3 3)).alloc (.cells #[.slice none 0 0, .int .i64 1, .int .i64 2, .slice none 0 0, .int .i64 1, .int .i64 2] 62)).alloc (.cells #[.string (⟨#[112, 108, 101, 97]⟩ : ByteArray), .slice (some ⟨w4.heap.size, 0, none⟩) 4 4, .string (⟨#[110, 111, 116, 101]⟩ : ByteArray), .slice (some ⟨w7.heap.size, 0, none⟩) 3 3, .string (⟨#[108, 105, 115, 116]⟩ : ByteArray), .slice (some ⟨w9.heap.size, 0, none⟩) 2 2] 43) := ⟨_, rfl⟩
  rw [← hV]
  have hkeep : ∀ k, k < w9.heap.size → k ≠ w.heap.size → V.heap[k]? = w9.heap[k]? := fun k hk hne => by
    rw [hV]
    exact (heap_alloc_old _ _ (by simp; omega)).trans ((heap_alloc_old _ _ (by simp; exact hk)).trans ((Below.heap_setCell _ _ _ _ hne).trans (Below.heap_setCell _ _ _ _ hne)))
  have hVs : V.heap.size = w9.heap.size + 1 + 1 := by rw [hV]; simp
  have q9 : V.heap[w9.heap.size]? = some (.cells #[.slice none 0 0, .int .i64 1, .int .i64 2, .slice none 0 0, .int .i64 1, .int .i64 2] 62 (0, 0)) := by rw [hV]; exact (heap_alloc_old _ _ (by simp)).trans (alloc_at _ _ (by simp))
  have qF : V.heap[w9.heap.size + 1]? = some (.cells #[.string (⟨#[112, 108, 101, 97]⟩ : ByteArray), .slice (some ⟨w4.heap.size, 0, none⟩) 4 4, .string (⟨#[110, 111, 116, 101]⟩ : ByteArray), .slice (some ⟨w7.heap.size, 0, none⟩) 3 3, .string (⟨#[108, 105, 115, 116]⟩ : ByteArray), .slice (some ⟨w9.heap.size, 0, none⟩) 2 2] 43 (0, 0)) := by rw [hV]; exact alloc_at _ _ (by simp)
  have hbV : Below w.heap.size w V := by rw [hV]; exact (((((hwX.trans (B9.mono hwX.size)).setCell (Nat.le_refl _) _).setCell (Nat.le_refl _) _).alloc (by simp; omega) _).alloc (by simp; omega) _)
  have v0 : V.cell? ⟨w.heap.size, 0, none⟩ = some (.int .i64 12) := by
    have := blk_set 1 (.slice (some ⟨w9.heap.size + 1, 0, none⟩) 3 3) (blk_set 0 (.int .i64 12) gX9)
    refine blk_cell (t := 24) (cs := #[.int .i64 12, .slice (some ⟨w9.heap.size + 1, 0, none⟩) 3 3]) 0 ?_ rfl
    rw [hV]
    exact (heap_alloc_old _ _ (by simp; omega)).trans ((heap_alloc_old _ _ (by simp; omega)).trans this)
  have v1 : V.cell? ⟨w.heap.size, 1, none⟩ = some (.slice (some ⟨w9.heap.size + 1, 0, none⟩) 3 3) := by
    have := blk_set 1 (.slice (some ⟨w9.heap.size + 1, 0, none⟩) 3 3) (blk_set 0 (.int .i64 12) gX9)
    refine blk_cell (t := 24) (cs := #[.int .i64 12, .slice (some ⟨w9.heap.size + 1, 0, none⟩) 3 3]) 1 ?_ rfl
    rw [hV]
    exact (heap_alloc_old _ _ (by simp; omega)).trans ((heap_alloc_old _ _ (by simp; omega)).trans this)
  have p4 := (hkeep _ (lt_of_block q4) (by omega)).trans q4
  have p7 := (hkeep _ (lt_of_block q7) (by omega)).trans q7
  have t1 := s1.keepN (b := w.heap.size) (V := V) (fun ad e => by have := l1 ad e; omega) hkeep (by omega)
  have t3 := s3.keepN (b := w.heap.size) (V := V) (fun ad e => by have := l3 ad e; have := hb1.size; have := hb2.size; omega) hkeep (by omega)
  have t6 := s6.keepN (b := w.heap.size) (V := V) (fun ad e => by have := l6 ad e; omega) hkeep (by omega)
  have hS : ShelfC V (some ⟨w9.heap.size + 1, 0, none⟩) 3 exS2 := by
    refine ⟨⟨Nat.le_refl _, by decide, fun h => by cases h⟩, fun i hi => ?_, fun x hx => by
      have h3 : x = ⟨(⟨#[112, 108, 101, 97]⟩ : ByteArray), exPlea⟩ ∨ x = ⟨(⟨#[110, 111, 116, 101]⟩ : ByteArray), exNote⟩ ∨ x = ⟨(⟨#[108, 105, 115, 116]⟩ : ByteArray), exList⟩ := by simpa [exS2] using hx
      rcases h3 with rfl | rfl | rfl <;> decide⟩
    have h3 : i = 0 ∨ i = 1 ∨ i = 2 := by have : exS2.forms.length = 3 := rfl; omega
    rcases h3 with rfl | rfl | rfl
    · refine ⟨w9.heap.size + 1, 0, rfl, lt_of_block qF, blk_cell 0 qF rfl, some ⟨w4.heap.size, 0, none⟩, 4, blk_cell 1 qF rfl, ⟨Nat.le_refl _, by decide, fun h => by cases h⟩, fun j hj => ?_⟩
      have h4 : j = 0 ∨ j = 1 ∨ j = 2 ∨ j = 3 := by have : exPlea.length = 4 := rfl; have : j < exPlea.length := hj; omega
      rcases h4 with rfl | rfl | rfl | rfl
      · exact part_words (l := exPlea) (i := 0) (hi := by decide) (lt_of_block p4) (blk_cell 0 p4 rfl) (blk_cell 1 p4 rfl) (blk_cell 2 p4 rfl) rfl o1 t1
      · exact part_words (l := exPlea) (i := 1) (hi := by decide) (lt_of_block p4) (blk_cell 3 p4 rfl) (blk_cell 4 p4 rfl) (blk_cell 5 p4 rfl) (ws := []) rfl no_ok (no_strs _)
      · exact part_words (l := exPlea) (i := 2) (hi := by decide) (lt_of_block p4) (blk_cell 6 p4 rfl) (blk_cell 7 p4 rfl) (blk_cell 8 p4 rfl) rfl o3 t3
      · exact part_words (l := exPlea) (i := 3) (hi := by decide) (lt_of_block p4) (blk_cell 9 p4 rfl) (blk_cell 10 p4 rfl) (blk_cell 11 p4 rfl) (ws := []) rfl no_ok (no_strs _)
    · refine ⟨w9.heap.size + 1, 0, rfl, lt_of_block qF, blk_cell 2 qF rfl, some ⟨w7.heap.size, 0, none⟩, 3, blk_cell 3 qF rfl, ⟨Nat.le_refl _, by decide, fun h => by cases h⟩, fun j hj => ?_⟩
      have h4 : j = 0 ∨ j = 1 ∨ j = 2 := by have : exNote.length = 3 := rfl; have : j < exNote.length := hj; omega
      rcases h4 with rfl | rfl | rfl
      · exact part_words (l := exNote) (i := 0) (hi := by decide) (lt_of_block p7) (blk_cell 0 p7 rfl) (blk_cell 1 p7 rfl) (blk_cell 2 p7 rfl) (ws := []) rfl no_ok (no_strs _)
      · exact part_words (l := exNote) (i := 1) (hi := by decide) (lt_of_block p7) (blk_cell 3 p7 rfl) (blk_cell 4 p7 rfl) (blk_cell 5 p7 rfl) rfl o6 t6
      · exact part_words (l := exNote) (i := 2) (hi := by decide) (lt_of_block p7) (blk_cell 6 p7 rfl) (blk_cell 7 p7 rfl) (blk_cell 8 p7 rfl) (ws := []) rfl no_ok (no_strs _)
    · refine ⟨w9.heap.size + 1, 0, rfl, lt_of_block qF, blk_cell 4 qF rfl, some ⟨w9.heap.size, 0, none⟩, 2, blk_cell 5 qF rfl, ⟨Nat.le_refl _, by decide, fun h => by cases h⟩, fun j hj => ?_⟩
      have h4 : j = 0 ∨ j = 1 := by have : exList.length = 2 := rfl; have : j < exList.length := hj; omega
      rcases h4 with rfl | rfl
      · exact part_words (l := exList) (i := 0) (hi := by decide) (lt_of_block q9) (blk_cell 0 q9 rfl) (blk_cell 1 q9 rfl) (blk_cell 2 q9 rfl) (ws := []) rfl no_ok (no_strs _)
      · exact part_words (l := exList) (i := 1) (hi := by decide) (lt_of_block q9) (blk_cell 3 q9 rfl) (blk_cell 4 q9 rfl) (blk_cell 5 q9 rfl) (ws := []) rfl no_ok (no_strs _)
  have vz : w.heap.size < V.heap.size := by omega
  have HS := Lib.hid hS
  clear hV hS hkeep q9 qF p4 p7 q4 q7 t1 t3 t6 s1 s3 s6 x0 x1 f0 f1 gX9 gX hVs
  refine bodyPost_ret (v := .agg #[.int .i64 12, .slice (some ⟨w9.heap.size + 1, 0, none⟩) 3 3]) ?_ rfl ⟨some ⟨w9.heap.size + 1, 0, none⟩, 3, rfl, HS.out, hbV⟩
  rw [results_one rfl]
  go_simp
end Go.Proofs.YtelmponkmmfffaaGreat
namespace Go.Proofs.YtelmponkmmfffaaGreat
open Go Go.RowKit Go.Shelf
theorem near_made (n : Nat) (hn : n ≤ 6) (V : World) : (Instr.makeSlice 35 (.int .i64 (n : Int)) (.int .i64 (n : Int))).run Tryz.prog V = .ok (.slice (some ⟨V.heap.size, 0, none⟩) n n) (V.alloc (.cells (((List.replicate n (0 : Int)).map (Value.int .i64)).toArray) 3)) := by
  obtain ⟨i, hi, hz, hsz, hby⟩ := info_parts E_int.info
  have := run_makeSlice (P := Tryz.prog) (w := V) 35 3 i _ E_int.und hi hz .i64 .i64 n n (by omega) (Int.le_refl _) (by rw [hsz, Int.toNat_natCast]; omega) (by rw [hby]; omega) (by omega)
  rw [hsz, Int.toNat_natCast, Nat.mul_one] at this
  have e : madeCells #[.int .i64 0] n = ((List.replicate n (0 : Int)).map (Value.int .i64)).toArray := by
    apply Array.ext
    · rw [size_madeCells]; simp
    · intro i h1 h2
      simp [madeCells, Nat.mod_one]
  rw [← e]
  exact this
def fillN (n k : Nat) : List Int := (List.range n).map fun j => if j < k then (j : Int) else 0
theorem fill_zero (n : Nat) : fillN n 0 = List.replicate n 0 := by
  apply List.ext_getElem
  · simp [fillN]
  · intro i h1 h2
    simp [fillN]
theorem fill_all (n : Nat) : fillN n n = (List.range n).map fun (k : Nat) => (k : Int) := by
  apply List.ext_getElem
  · simp [fillN]
  · intro i h1 h2
    simp [fillN] at h1 ⊢
    omega
theorem fill_set (n k : Nat) : (fillN n k).set k (k : Int) = fillN n (k + 1) := by
  apply List.ext_getElem
  · simp [fillN]
  · intro i h1 h2
    simp only [fillN, List.getElem_set, List.getElem_map, List.getElem_range]
    split
    · rename_i h; subst h; simp
    · split <;> split <;> omega
set_option maxRecDepth 100000 in
set_option maxHeartbeats 8000000 in
theorem LNearest_any (af : Option Addr) (kf : Nat) (s : LeS) (al : Option Addr) (l : List ByteArray) (cl : Nat) (w : World) (hm : ShelfC w af kf s) (hv : LeValid s) (h0 : 0 < s.forms.length) (hl : letB l = true) (hil : StrsC w al l) :
    Calls Tryz.prog 28 #[(.agg #[.int .i64 s.width, .slice af s.forms.length kf]), .slice al l.length cl] w fun e w' => e = .returned (.tuple #[.int .i64 ((leastK (nearF s l) s.forms.length).1 : Int), .int .i64 (leastK (nearF s l) s.forms.length).2, .int .i64 0]) ∧ Below w.heap.size w w' := by
  obtain ⟨X, hX⟩ : ∃ X : World, X = (w.alloc (.cells #[.int .i64 s.width, .slice af s.forms.length kf] 24)).alloc (.cells #[.slice al l.length cl] 44) := ⟨_, rfl⟩
  have hwX : Below w.heap.size w X := by rw [hX]; exact ((Below.refl _ w).alloc (Nat.le_refl _) _).alloc (by simp) _
  have g0 : X.heap[w.heap.size]? = some (.cells #[.int .i64 s.width, .slice af s.forms.length kf] 24 (0, 0)) := by rw [hX]; exact (heap_alloc_old _ _ (by simp)).trans (alloc_at _ _ rfl)
  have g1 : X.heap[w.heap.size + 1]? = some (.cells #[.slice al l.length cl] 44 (0, 0)) := by rw [hX]; exact alloc_at _ _ (by simp)
  have hn4 := hv.many
  have C := Lib.hid (LCheck_any af kf s X (hm.mono hwX) hv)
  have LT := Lib.hid (fun V (h : Below w.heap.size w V) => LLettered_any al l cl V (hil.mono h) hl)
  have LS := Lib.hid (fun V (h : Below X.heap.size X V) q2 (g2 : BlkI V q2 3 ((List.range s.forms.length).map fun (k : Nat) => (k : Int))) => LLeastN_any af kf s w.heap.size (w.heap.size + 1) q2 al l cl V ((hm.mono hwX).mono h) hv hl ((hil.mono hwX).mono h) ((h.block _ (lt_of_block g0)).trans g0) ((h.block _ (lt_of_block g1)).trans g1) g2)
  have HC : Hid (∀ V, Below X.heap.size X V → (V.cell? ⟨w.heap.size, 0, none⟩ = some (.int .i64 s.width) ∧ V.cell? ⟨w.heap.size, 1, none⟩ = some (.slice af s.forms.length kf) ∧ V.cell? ⟨w.heap.size + 1, 0, none⟩ = some (.slice al l.length cl) ∧ w.heap.size < V.heap.size ∧ w.heap.size + 1 < V.heap.size)) := Lib.hid (fun V h => by
    have e0 := (h.block _ (lt_of_block g0)).trans g0
    have e1 := (h.block _ (lt_of_block g1)).trans g1
    exact ⟨blk_cell 0 e0 rfl, blk_cell 1 e0 rfl, blk_cell 0 e1 rfl, lt_of_block e0, lt_of_block e1⟩)
  obtain ⟨y0, y1, y2, yz, yw⟩ := HC.out X (Below.refl _ _)
  have hne : ¬ (s.forms.length : Int) = 0 := by omega
  have hneb := eqi_f hne
  have HX := Lib.hid hX
  have HMK := Lib.hid (fun V => near_made s.forms.length (by omega) V)
  clear hX hm hv hil g0 g1
  generalize leastK (nearF s l) s.forms.length = r at *
  go_enter Tryz.func28, Tryz.ntmps28
  go_upto_region 1 with (fail)
  rw [← HX.out]
  clear HX
  go_upto_region 3 with (go_at_call 68; go_must ((with_reducible refine C.out.mono ?_); rintro e w2 ⟨rfl, hb2⟩; dsimp only))
  clear y0 y1 y2 yz yw
  obtain ⟨y0, y1, y2, yz, yw⟩ := HC.out w2 hb2
  go_upto_region 4 with (go_at_call 50; go_must ((with_reducible refine (LT.out w2 (hwX.trans (hb2.mono hwX.size))).mono ?_); rintro e w3 ⟨rfl, hb3⟩; dsimp only))
  have hX3 := hb2.trans (hb3.mono hb2.size)
  clear y0 y1 y2 yz yw C LT
  obtain ⟨y0, y1, y2, yz, yw⟩ := HC.out w3 hX3
  go_upto_region 8 with (fail)
  have hmk := HMK.out w3
  go_upto_region 9 with (fail)
  clear hmk
  obtain ⟨Y, hY⟩ : ∃ Y : World, Y = w3.alloc (.cells (Array.replicate s.forms.length (Value.int .i64 0)) 3) := ⟨_, rfl⟩
  rw [← hY]
  have hXY : Below X.heap.size X Y := by rw [hY]; exact hX3.alloc hX3.size _
  have hB0 : BlkI Y w3.heap.size 3 (fillN s.forms.length 0) := by rw [hY, fill_zero, BlkI, List.map_replicate, List.toArray_replicate]; exact alloc_at _ _ rfl
  have hw3 := hX3.size
  clear hY y0 y1 y2 yz yw hb2 hb3
  obtain ⟨y0, y1, y2, yz, yw⟩ := HC.out Y hXY
  go_upto_region 10 with (fail)
  go_loopw [35] (fun i V => ∃ k : Nat, k ≤ s.forms.length ∧ i = .int .i64 k ∧ Below X.heap.size X V ∧ BlkI V w3.heap.size 3 (fillN s.forms.length k)) (fun i _ => s.forms.length - (intOf i).toNat)
  case atStart => exact ⟨0, Nat.zero_le _, rfl, hXY, hB0⟩
  case round =>
    clear y0 y1 y2 yz yw hB0 hXY
    rename World => V
    obtain ⟨k, hk, rfl, hbV, hB⟩ := hrel
    by_cases hlt : k < s.forms.length
    · have f0 := hB.free k
      have c0 := hB.cell k (by simpa [fillN] using hlt)
      have z0 := hB.lt
      have hltI : (k : Int) < s.forms.length := by omega
      have HB := Lib.hid hB
      clear hB
      go_wp2
      go_roundw
      case rel => exact ⟨k + 1, by omega, by go_num, hbV.setCell hw3 _, by rw [← fill_set]; exact HB.out.set k k⟩
      case measure => simp [intOf]; omega
    · obtain rfl : k = s.forms.length := by omega
      rw [fill_all] at hB
      have L := Lib.hid (LS.out V hbV w3.heap.size hB)
      clear hB
      go_wp2_with (go_at_call 80; go_must ((with_reducible refine L.out.mono ?_); rintro e w5 ⟨rfl, hb5⟩; dsimp only))
      go_ret3
      exact ⟨rfl, hwX.trans ((hbV.trans (hb5.mono hbV.size)).mono hwX.size)⟩
end Go.Proofs.YtelmponkmmfffaaGreat
namespace Go.Proofs.YtelmponkmmfffaaGreat
open Go Go.RowKit Go.Shelf
def exTwo : List Int := [2]
def exFB : List (List ByteArray) := [exA1, exBC]
def exText : ByteArray := (⟨#[116, 111, 32, 116, 104, 101, 32, 106, 117, 100, 103, 101, 10, 105, 32, 97, 115, 107, 32, 109, 101, 114, 99, 121, 10]⟩ : ByteArray)
theorem awMake (af : Option Addr) (kf : Nat) (w : World) (hm : ShelfC w af kf exS2) (al : Option Addr) (cl : Nat) (ho : SlOk al 2 cl) (hi : StrRowsC w al [exJ, exM]) : Calls Tryz.prog 9 #[.agg #[.int .i64 exS2.width, .slice af exS2.forms.length kf], .int .i64 0, .slice al 2 cl] w fun e w' => ∃ a c, e = .returned (.tuple #[.slice a exLA.length c, .int .i64 0]) ∧ SlOk a exLA.length c ∧ StrsC w' a exLA ∧ Below w.heap.size w w' := by
  have C := LMake_any af kf exS2 0 al [exJ, exM] cl w hm exS2_valid (by decide) ho hi ex_put
  have e : makeF (exS2.forms[0]'(by decide)).parts [exJ, exM] = exLA := ex_make
  rw [e] at C
  exact C
theorem awOf (af : Option Addr) (kf : Nat) (w : World) (hm : ShelfC w af kf exS2) (al : Option Addr) (cl : Nat) (ho : SlOk al exLC.length cl) (hi : StrsC w al exLC) : Calls Tryz.prog 21 #[.agg #[.int .i64 exS2.width, .slice af exS2.forms.length kf], .slice al exLC.length cl] w fun e w' => ∃ a c, e = .returned (.tuple #[.slice a exTwo.length c, .int .i64 0]) ∧ SlOk a exTwo.length c ∧ IntsC w' a exTwo ∧ Below w.heap.size w w' := by
  have C := LOf_any af kf exS2 al exLC cl w hm exS2_valid ho hi let_exLC
  rw [ex_of] at C
  exact C
theorem awFills (af : Option Addr) (kf : Nat) (w : World) (hm : ShelfC w af kf exS2) (al : Option Addr) (cl : Nat) (ho : SlOk al exLC.length cl) (hi : StrsC w al exLC) : Calls Tryz.prog 11 #[.agg #[.int .i64 exS2.width, .slice af exS2.forms.length kf], .int .i64 2, .slice al exLC.length cl] w fun e w' => ∃ a c, e = .returned (.tuple #[.slice a exFB.length c, .int .i64 2, .int .i64 0]) ∧ SlOk a exFB.length c ∧ StrRowsC w' a exFB ∧ Below w.heap.size w w' := by
  have e : (waysG (exS2.forms[2]'(by decide)).parts exLC).2 = ([1, 2], 2) := ex_ways
  have C := LFills_any af kf exS2 2 al exLC cl w hm exS2_valid (by decide) ho hi let_exLC (by rw [e]; decide)
  rw [e] at C
  have e2 : fillsF (exS2.forms[2]'(by decide)).parts [1, 2] exLC = exFB := ex_fills
  simp only at C
  rw [e2] at C
  exact C
theorem awWrite (af : Option Addr) (kf : Nat) (w : World) (hm : ShelfC w af kf exS2) (al : Option Addr) (cl : Nat) (hi : StrsC w al exLA) : Calls Tryz.prog 22 #[.agg #[.int .i64 exS2.width, .slice af exS2.forms.length kf], .slice al exLA.length cl] w fun e w' => e = .returned (.tuple #[.string exText, .int .i64 0]) ∧ Below w.heap.size w w' := by
  have C := LWrite_any af kf exS2 al exLA cl w hm exS2_valid hi let_exLA
  have e : (⟨(textL exS2.width exLA).toArray⟩ : ByteArray) = exText := ex_text
  rw [e] at C
  exact C
theorem awRead1 (af : Option Addr) (kf : Nat) (w : World) (hm : ShelfC w af kf exS2) : Calls Tryz.prog 23 #[.agg #[.int .i64 exS2.width, .slice af exS2.forms.length kf], .string (⟨#[116, 111, 32, 116, 104, 101, 32, 106, 117, 100, 103, 101, 10, 105, 32, 97, 115, 107, 32, 109, 101, 114, 99, 121, 10]⟩ : ByteArray)] w fun e w' => ∃ a c, e = .returned (.tuple #[.slice a exLA.length c, .int .i64 0]) ∧ SlOk a exLA.length c ∧ StrsC w' a exLA ∧ Below w.heap.size w w' := by
  have C := LRead_any af kf exS2 (⟨#[116, 111, 32, 116, 104, 101, 32, 106, 117, 100, 103, 101, 10, 105, 32, 97, 115, 107, 32, 109, 101, 114, 99, 121, 10]⟩ : ByteArray) w hm exS2_valid (by decide) ex_read1.1 true ex_read1.2
  rw [ex_pieces1] at C
  exact C.mono fun e w' ⟨a, c, h1, h2, h3⟩ => ⟨a, c, h1, (h2 rfl).1, (h2 rfl).2, h3⟩
theorem awRead2 (af : Option Addr) (kf : Nat) (w : World) (hm : ShelfC w af kf exS2) : Calls Tryz.prog 23 #[.agg #[.int .i64 exS2.width, .slice af exS2.forms.length kf], .string (⟨#[116, 111, 32, 116, 104, 101, 10]⟩ : ByteArray)] w fun e w' => ∃ a c, e = .returned (.tuple #[.slice a exTT.length c, .int .i64 0]) ∧ Below w.heap.size w w' := by
  have C := LRead_any af kf exS2 (⟨#[116, 111, 32, 116, 104, 101, 10]⟩ : ByteArray) w hm exS2_valid (by decide) ex_read2.1 true ex_read2.2
  rw [ex_pieces2] at C
  exact C.mono fun e w' ⟨a, c, h1, h2, h3⟩ => ⟨a, c, h1, h3⟩
theorem awRead3 (af : Option Addr) (kf : Nat) (w : World) (hm : ShelfC w af kf exS2) : Calls Tryz.prog 23 #[.agg #[.int .i64 exS2.width, .slice af exS2.forms.length kf], .string (⟨#[116, 111, 32, 116, 104, 101, 32, 106, 117, 100, 103, 101, 32, 105, 10, 97, 115, 107, 32, 109, 101, 114, 99, 121, 10]⟩ : ByteArray)] w fun e w' => ∃ a c, e = .returned (.tuple #[.slice a 0 c, .int .i64 6]) ∧ Below w.heap.size w w' := by
  have C := LRead_any af kf exS2 (⟨#[116, 111, 32, 116, 104, 101, 32, 106, 117, 100, 103, 101, 32, 105, 10, 97, 115, 107, 32, 109, 101, 114, 99, 121, 10]⟩ : ByteArray) w hm exS2_valid (by decide) ex_read3.1 false ex_read3.2
  exact C.mono fun e w' ⟨a, c, h1, h2, h3⟩ => ⟨a, c, h1, h3⟩
theorem awFewest (aa ab : Option Addr) (ca cb : Nat) (w : World) (ha : StrsC w aa exLA) (hb : StrsC w ab exLB) : Calls Tryz.prog 24 #[.slice aa exLA.length ca, .slice ab exLB.length cb] w fun e w' => ∃ am cm, e = .returned (.tuple #[.slice am exMarks.length cm, .int .i64 2, .int .i64 0]) ∧ SlOk am exMarks.length cm ∧ MarksC w' am exMarks ∧ Below w.heap.size w w' := by
  have C := LFewest_any aa ab exLA exLB ca cb w let_exLA let_exLB ha hb
  rw [ex_marks, ex_corr] at C
  exact C
theorem awApply (aa am : Option Addr) (ca cm : Nat) (w : World) (ha : StrsC w aa exLA) (hb : MarksC w am exMarks) : Calls Tryz.prog 25 #[.slice aa exLA.length ca, .slice am exMarks.length cm] w fun e w' => ∃ ao co, e = .returned (.tuple #[.slice ao exLB.length co, .int .i64 0]) ∧ SlOk ao exLB.length co ∧ StrsC w' ao exLB ∧ Below w.heap.size w w' :=
  LApply_any aa exLA ca am exMarks cm exLB w let_exLA ha hb (by decide) ex_apply (by decide)
theorem awMend2 (af : Option Addr) (kf : Nat) (w : World) (hm : ShelfC w af kf exS2) (al : Option Addr) (cl : Nat) (hi : StrsC w al exLA) : Calls Tryz.prog 27 #[.agg #[.int .i64 exS2.width, .slice af exS2.forms.length kf], .int .i64 2, .slice al exLA.length cl] w fun e w' => e = .returned (.tuple #[.int .i64 2, .int .i64 0]) ∧ Below w.heap.size w w' := by
  have C := LMend_any af kf exS2 2 al exLA cl w hm exS2_valid (by decide) let_exLA hi
  have e : mendsF (exS2.forms[2]'(by decide)).parts exLA = 2 := ex_mends
  rw [e] at C
  exact C
theorem awMend3 (af : Option Addr) (kf : Nat) (w : World) (hm : ShelfC w af kf exS2) (al : Option Addr) (cl : Nat) : Calls Tryz.prog 27 #[.agg #[.int .i64 exS2.width, .slice af exS2.forms.length kf], .int .i64 3, .slice al exLA.length cl] w fun e w' => e = .returned (.tuple #[.int .i64 0, .int .i64 4]) ∧ Below w.heap.size w w' :=
  LMend_none af kf exS2 3 al exLA cl w hm exS2_valid (by decide)
theorem awNear (af : Option Addr) (kf : Nat) (w : World) (hm : ShelfC w af kf exS2) (al : Option Addr) (cl : Nat) (hi : StrsC w al exLA) : Calls Tryz.prog 28 #[.agg #[.int .i64 exS2.width, .slice af exS2.forms.length kf], .slice al exLA.length cl] w fun e w' => e = .returned (.tuple #[.int .i64 0, .int .i64 0, .int .i64 0]) ∧ Below w.heap.size w w' := by
  have C := LNearest_any af kf exS2 al exLA cl w hm exS2_valid (by decide) let_exLA hi
  rw [ex_near] at C
  exact C
theorem awSames (a b : Option Addr) (ca : Nat) (w : World) (ha : SlOk a exFB.length ca) (hb : SlOk b 2 2) (hi : StrRowsC w a exFB) (hj : StrRowsC w b exFB) : Calls Tryz.prog 31 #[.slice a exFB.length ca, .slice b 2 2] w fun e w' => e = .returned (.bool true) ∧ Below w.heap.size w w' :=
  LSames_any a b exFB ca 2 w ha hb hi hj
theorem awEqual (a b : Option Addr) (ca cb : Nat) (w : World) (ha : SlOk a exMarks.length ca) (hb : SlOk b exMarks.length cb) (hi : MarksC w a exMarks) (hj : MarksC w b exMarks) : Calls Tryz.prog 32 #[.slice a exMarks.length ca, .slice b exMarks.length cb] w fun e w' => e = .returned (.bool true) ∧ Below w.heap.size w w' :=
  LEqualM_any a b exMarks ca cb w ha hb hi hj (fun x hx W => by
    have h : x = (0, (⟨#[]⟩ : ByteArray)) ∨ x = (2, (⟨#[]⟩ : ByteArray)) ∨ x = (3, (⟨#[102, 111, 114]⟩ : ByteArray)) := by
      simp only [exMarks, List.mem_cons, List.not_mem_nil, or_false] at hx
      rcases hx with h | h | h | h | h | h | h <;> simp [h]
    rcases h with rfl | rfl | rfl
    · exact mark_eq0 W
    · exact mark_eq2 W
    · exact mark_eq3 W)
def exMarkCells : Array Value := #[.int .i64 0, .string ⟨#[]⟩, .int .i64 2, .string ⟨#[]⟩, .int .i64 0, .string ⟨#[]⟩, .int .i64 0, .string ⟨#[]⟩, .int .i64 0, .string ⟨#[]⟩, .int .i64 3, .string ⟨#[102, 111, 114]⟩, .int .i64 0, .string ⟨#[]⟩]
theorem marks_blk {W : World} {b : Nat} {t : TypeId} (h : W.heap[b]? = some (.cells exMarkCells t (0, 0))) : MarksC W (some ⟨b, 0, none⟩) exMarks := fun i hi => by
  have h7 : i = 0 ∨ i = 1 ∨ i = 2 ∨ i = 3 ∨ i = 4 ∨ i = 5 ∨ i = 6 := by have : exMarks.length = 7 := rfl; omega
  rcases h7 with rfl | rfl | rfl | rfl | rfl | rfl | rfl <;> exact ⟨b, 0, rfl, lt_of_block h, blk_cell _ h rfl, blk_cell _ h rfl⟩
set_option maxRecDepth 100000 in
theorem LMarks_any (w : World) : Calls Tryz.prog 26 #[] w fun e w' => ∃ a, e = .returned (.slice a exMarks.length 7) ∧ SlOk a exMarks.length 7 ∧ MarksC w' a exMarks ∧ Below w.heap.size w w' := by
  go_enter Tryz.func26, Tryz.ntmps26
  go_wp2
  go_ret
  exact ⟨some ⟨w.heap.size, 0, none⟩, rfl, ⟨Nat.le_refl _, by decide, fun h => by cases h⟩, marks_blk (t := 146) (alloc_at _ _ rfl), (by (repeat' (first | assumption | exact Below.refl _ _ | refine below_drew' ?_ | refine Below.setCell ?_ (by first | omega | (simp <;> omega)) _ | refine Below.alloc ?_ (by first | omega | (simp <;> omega)) _)))⟩
/-- Two lists of words, just put side by side. -/
theorem rows_blk {W : World} {b : Nat} {t : TypeId} {a1 a2 : Option Addr} {c1 c2 : Nat} {l1 l2 : List ByteArray} (h : W.heap[b]? = some (.cells #[.slice a1 l1.length c1, .slice a2 l2.length c2] t (0, 0))) (o1 : SlOk a1 l1.length c1) (o2 : SlOk a2 l2.length c2) (s1 : StrsC W a1 l1) (s2 : StrsC W a2 l2) : StrRowsC W (some ⟨b, 0, none⟩) [l1, l2] := fun i hi => by
  have h2 : i = 0 ∨ i = 1 := by simp at hi; omega
  rcases h2 with rfl | rfl
  · exact ⟨b, 0, a1, c1, rfl, lt_of_block h, blk_cell 0 h rfl, o1, s1⟩
  · exact ⟨b, 0, a2, c2, rfl, lt_of_block h, blk_cell 1 h rfl, o2, s2⟩
theorem awMakeN (af : Option Addr) (kf : Nat) (W : World) (hm : ShelfC W af kf exS2) (a1 a2 : Option Addr) (c1 c2 : Nat) (o1 : SlOk a1 exJ.length c1) (o2 : SlOk a2 exM.length c2) (s1 : StrsC W a1 exJ) (s2 : StrsC W a2 exM) : Calls Tryz.prog 9 #[.agg #[.int .i64 exS2.width, .slice af exS2.forms.length kf], .int .i64 0, .slice (some ⟨W.heap.size, 0, none⟩) 2 2] (W.alloc (.cells #[.slice a1 exJ.length c1, .slice a2 exM.length c2] 44)) fun e w' => ∃ a c, e = .returned (.tuple #[.slice a exLA.length c, .int .i64 0]) ∧ SlOk a exLA.length c ∧ StrsC w' a exLA ∧ Below W.heap.size W w' :=
  (awMake af kf _ (hm.mono (al_on W _)) _ 2 ⟨Nat.le_refl _, by decide, fun h => by cases h⟩ (rows_blk (t := 44) (alloc_at _ _ rfl) o1 o2 (s1.mono (al_on W _)) (s2.mono (al_on W _)))).mono fun e w' ⟨a, c, h1, h2, h3, h4⟩ => ⟨a, c, h1, h2, h3, (al_on W _).trans (h4.mono (by simp))⟩
theorem awSamesN (a : Option Addr) (ca : Nat) (W : World) (ha : SlOk a exFB.length ca) (hi : StrRowsC W a exFB) (a1 a2 : Option Addr) (c1 c2 : Nat) (o1 : SlOk a1 exA1.length c1) (o2 : SlOk a2 exBC.length c2) (s1 : StrsC W a1 exA1) (s2 : StrsC W a2 exBC) : Calls Tryz.prog 31 #[.slice a exFB.length ca, .slice (some ⟨W.heap.size, 0, none⟩) 2 2] (W.alloc (.cells #[.slice a1 exA1.length c1, .slice a2 exBC.length c2] 44)) fun e w' => e = .returned (.bool true) ∧ Below W.heap.size W w' :=
  (awSames a _ ca _ ha ⟨Nat.le_refl _, by decide, fun h => by cases h⟩ (hi.mono (al_on W _)) (rows_blk (t := 44) (alloc_at _ _ rfl) o1 o2 (s1.mono (al_on W _)) (s2.mono (al_on W _)))).mono fun e w' ⟨h1, h4⟩ => ⟨h1, (al_on W _).trans (h4.mono (by simp))⟩
end Go.Proofs.YtelmponkmmfffaaGreat
namespace Go.Proofs.YtelmponkmmfffaaGreat
open Go Go.RowKit Go.Shelf
set_option maxRecDepth 100000 in
set_option maxHeartbeats 16000000 in
theorem LAwake_any (w : World) : Calls Tryz.prog 6 #[] w fun e w' => e = .returned (.bool true) ∧ Below w.heap.size w w' := by
  have GexLA := fun U => LWords_any (⟨#[116, 111, 32, 116, 104, 101, 32, 106, 117, 100, 103, 101, 32, 105, 32, 97, 115, 107, 32, 109, 101, 114, 99, 121]⟩ : ByteArray) (by decide) U
  rw [spl_exLA] at GexLA
  replace GexLA := Lib.hid GexLA
  have GexLB := fun U => LWords_any (⟨#[116, 111, 32, 106, 117, 100, 103, 101, 32, 105, 32, 97, 115, 107, 32, 102, 111, 114, 32, 109, 101, 114, 99, 121]⟩ : ByteArray) (by decide) U
  rw [spl_exLB] at GexLB
  replace GexLB := Lib.hid GexLB
  have GexLC := fun U => LWords_any (⟨#[97, 32, 98, 32, 99]⟩ : ByteArray) (by decide) U
  rw [spl_exLC] at GexLC
  replace GexLC := Lib.hid GexLC
  have GexJ := fun U => LWords_any (⟨#[106, 117, 100, 103, 101]⟩ : ByteArray) (by decide) U
  rw [spl_exJ] at GexJ
  replace GexJ := Lib.hid GexJ
  have GexM := fun U => LWords_any (⟨#[109, 101, 114, 99, 121]⟩ : ByteArray) (by decide) U
  rw [spl_exM] at GexM
  replace GexM := Lib.hid GexM
  have GexA1 := fun U => LWords_any (⟨#[97]⟩ : ByteArray) (by decide) U
  rw [spl_exA1] at GexA1
  replace GexA1 := Lib.hid GexA1
  have GexBC := fun U => LWords_any (⟨#[98, 32, 99]⟩ : ByteArray) (by decide) U
  rw [spl_exBC] at GexBC
  replace GexBC := Lib.hid GexBC
  go_enter Tryz.func6, Tryz.ntmps6
  go_upto_region 2 with (go_at_call 19; go_must ((with_reducible refine (LShelf_any _).mono ?_); rintro e w1 ⟨af, kf, rfl, hS1, hb1⟩; dsimp only))
  obtain ⟨X, hX⟩ : ∃ X : World, X = w1.alloc (.cells #[.int .i64 exS2.width, .slice af exS2.forms.length kf] 24) := ⟨_, rfl⟩
  rw [← hX]
  have h1X : Below w1.heap.size w1 X := by rw [hX]; exact al_on w1 _
  have g1 : X.heap[w1.heap.size]? = some (.cells #[.int .i64 exS2.width, .slice af exS2.forms.length kf] 24 (0, 0)) := by rw [hX]; exact alloc_at _ _ rfl
  clear hX
  go_upto_region 3 with (first
    | (have hh := bA; (go_at_call 20; go_must ((with_reducible refine (GexLB.out _).mono ?_); rintro e wB ⟨aB, kB, rfl, oB, sB, bB, lB⟩; dsimp only)))
    | (go_at_call 20; go_must ((with_reducible refine (GexLA.out _).mono ?_); rintro e wA ⟨aA, kA, rfl, oA, sA, bA, lA⟩; dsimp only)))
  obtain ⟨Y, hY⟩ : ∃ Y : World, Y = wB := ⟨_, rfl⟩
  subst hY
  have hXY : Below X.heap.size X Y := bA.trans (bB.mono bA.size)
  have hwY : Below w.heap.size w Y := hb1.trans ((h1X.trans (hXY.mono h1X.size)).mono hb1.size)
  replace g1 := fun (V : World) (h : Below Y.heap.size Y V) => (h.block _ (Nat.lt_of_lt_of_le (lt_of_block g1) hXY.size)).trans ((hXY.block _ (lt_of_block g1)).trans g1)
  have HC : Hid (∀ V, Below Y.heap.size Y V → (V.cell? ⟨w1.heap.size, 0, none⟩ = some (.int .i64 exS2.width) ∧ V.cell? ⟨w1.heap.size, 1, none⟩ = some (.slice af exS2.forms.length kf) ∧ w1.heap.size < V.heap.size)) := Lib.hid (fun V h => ⟨blk_cell 0 (g1 V h) rfl, blk_cell 1 (g1 V h) rfl, lt_of_block (g1 V h)⟩)
  have KE : Hid (∀ V, Below Y.heap.size Y V → (fun V => Below Y.heap.size Y V ∧ V.cell? ⟨w1.heap.size, 0, none⟩ = some (.int .i64 exS2.width) ∧ V.cell? ⟨w1.heap.size, 1, none⟩ = some (.slice af exS2.forms.length kf) ∧ w1.heap.size < V.heap.size) V) := Lib.hid (fun V h => ⟨h, HC.out V h⟩)
  have M := Lib.hid (fun (V : World) (h : Below Y.heap.size Y V) => ((hS1.mono h1X).mono hXY).mono h)
  have SA := Lib.hid (fun (V : World) (h : Below Y.heap.size Y V) => (sA.mono bB).mono h)
  have SB := Lib.hid (fun (V : World) (h : Below Y.heap.size Y V) => sB.mono h)
  have HW := Lib.hid hwY
  clear g1 hS1 h1X hXY hwY sA sB bA bB hb1 lA lB
  have hQ := Below.refl Y.heap.size Y
  have hg0 := below_drew' hQ
  refine wp_region_held_drew (S := (fun V => Below Y.heap.size Y V ∧ V.cell? ⟨w1.heap.size, 0, none⟩ = some (.int .i64 exS2.width) ∧ V.cell? ⟨w1.heap.size, 1, none⟩ = some (.slice af exS2.forms.length kf) ∧ w1.heap.size < V.heap.size)) (by kernel_rfl) (KE.out _ hg0) (fun hHeld => ?_)
  (refine wpAnyH_take (i := 0) (v := ?_) rfl (by kernel_rfl) (by kernel_rfl) (by kernel_rfl) (fun _ _ _ h => h) (Or.inl ⟨by kernel_rfl, ?_⟩) (by assumption) ?_; rotate_left 1; (focus (intro w hSw; (try dsimp only at hSw); go_simp; first | done | with_reducible rfl)); simp only [Act.put, List.getElem_toArray, List.getElem_cons_succ, List.getElem_cons_zero, List.setIfInBounds_toArray, List.set_cons_succ, List.set_cons_zero])
  (refine wpAnyH_ready (rs := [1]) (by kernel_rfl) (by simp) ?_; refine AllReadyH.cons rfl (fun K hK => ?_) AllReadyH.nil; go_simp)
  refine (GexJ.out _).mono ?_
  rintro e wJ ⟨aJ, kJ, rfl, oJ, sJ, bJ, lJ⟩
  dsimp only
  have hg1 := q_on hg0 bJ
  refine hK.out _ _ (KE.out _ hg1) (fun hHeld => ?_)
  (try simp only [Act.put, List.getElem_toArray, List.getElem_cons_succ, List.getElem_cons_zero, List.setIfInBounds_toArray, List.set_cons_succ, List.set_cons_zero])
  clear hK
  (refine wpAnyH_ready (rs := [2]) (by kernel_rfl) (by simp) ?_; refine AllReadyH.cons rfl (fun K hK => ?_) AllReadyH.nil; go_simp)
  refine (GexM.out _).mono ?_
  rintro e wM ⟨aM, kM, rfl, oM, sM, bM, lM⟩
  dsimp only
  have hg2 := q_on hg1 bM
  replace sJ := sJ.mono bM
  refine hK.out _ _ (KE.out _ hg2) (fun hHeld => ?_)
  (try simp only [Act.put, List.getElem_toArray, List.getElem_cons_succ, List.getElem_cons_zero, List.setIfInBounds_toArray, List.set_cons_succ, List.set_cons_zero])
  clear hK
  (refine wpAnyH_ready (rs := [3]) (by kernel_rfl) (by simp) ?_; refine AllReadyH.cons rfl (fun K hK => ?_) AllReadyH.nil; go_simp)
  refine hK.out _ _ (KE.out _ (q_on hg2 (al_on wM _))) (fun hHeld => ?_)
  (try simp only [Act.put, List.getElem_toArray, List.getElem_cons_succ, List.getElem_cons_zero, List.setIfInBounds_toArray, List.set_cons_succ, List.set_cons_zero])
  clear hK
  (refine wpAnyH_ready (rs := [4]) (by kernel_rfl) (by simp) ?_; refine AllReadyH.cons rfl (fun K hK => ?_) AllReadyH.nil; go_simp)
  refine (awMakeN af kf wM (M.out _ hg2) aJ aM kJ kM oJ oM sJ sM).mono ?_
  rintro e w4 ⟨a4, k4, rfl, o4, i4, b4⟩
  dsimp only
  have hg4 := q_on hg2 b4
  refine hK.out _ _ (KE.out _ hg4) (fun hHeld => ?_)
  (try simp only [Act.put, List.getElem_toArray, List.getElem_cons_succ, List.getElem_cons_zero, List.setIfInBounds_toArray, List.set_cons_succ, List.set_cons_zero])
  clear hK
  (refine wpAnyH_take (i := 5) (v := ?_) rfl (by kernel_rfl) (by kernel_rfl) (by kernel_rfl) (fun _ _ _ h => h) (Or.inl ⟨by kernel_rfl, ?_⟩) (by assumption) ?_; rotate_left 1; (focus (intro w hSw; (try dsimp only at hSw); go_simp; first | done | with_reducible rfl)); simp only [Act.put, List.getElem_toArray, List.getElem_cons_succ, List.getElem_cons_zero, List.setIfInBounds_toArray, List.set_cons_succ, List.set_cons_zero])
  (refine wpAnyH_take (i := 6) (v := ?_) rfl (by kernel_rfl) (by kernel_rfl) (by kernel_rfl) (fun _ _ _ h => h) (Or.inl ⟨by kernel_rfl, ?_⟩) (by assumption) ?_; rotate_left 1; (focus (intro w hSw; (try dsimp only at hSw); go_simp; first | done | with_reducible rfl)); simp only [Act.put, List.getElem_toArray, List.getElem_cons_succ, List.getElem_cons_zero, List.setIfInBounds_toArray, List.set_cons_succ, List.set_cons_zero])
  (refine wpAnyH_take (i := 7) (v := ?_) rfl (by kernel_rfl) (by kernel_rfl) (by kernel_rfl) (fun _ _ _ h => h) (Or.inl ⟨by kernel_rfl, ?_⟩) (by assumption) ?_; rotate_left 1; (focus (intro w hSw; (try dsimp only at hSw); go_simp; first | done | with_reducible rfl)); simp only [Act.put, List.getElem_toArray, List.getElem_cons_succ, List.getElem_cons_zero, List.setIfInBounds_toArray, List.set_cons_succ, List.set_cons_zero])
  (refine wpAnyH_take (i := 8) (v := ?_) rfl (by kernel_rfl) (by kernel_rfl) (by kernel_rfl) (fun _ _ _ h => h) (Or.inl ⟨by kernel_rfl, ?_⟩) (by assumption) ?_; rotate_left 1; (focus (intro w hSw; (try dsimp only at hSw); go_simp; first | done | with_reducible rfl)); simp only [Act.put, List.getElem_toArray, List.getElem_cons_succ, List.getElem_cons_zero, List.setIfInBounds_toArray, List.set_cons_succ, List.set_cons_zero])
  (refine wpAnyH_take (i := 9) (v := ?_) rfl (by kernel_rfl) (by kernel_rfl) (by kernel_rfl) (fun _ _ _ h => h) (Or.inl ⟨by kernel_rfl, ?_⟩) (by assumption) ?_; rotate_left 1; (focus (intro w hSw; (try dsimp only at hSw); go_simp; first | done | with_reducible rfl)); simp only [Act.put, List.getElem_toArray, List.getElem_cons_succ, List.getElem_cons_zero, List.setIfInBounds_toArray, List.set_cons_succ, List.set_cons_zero])
  refine wpAnyH_done (by kernel_rfl) ?_ _
  replace hQ := hg4
  clear hg0 hg1 hg2 hg4 sJ sM oJ oM bJ bM b4 lJ lM hHeld
  have HM4 := Lib.hid (fun (V : World) (h : Below w4.heap.size w4 V) => LSameW_any a4 aA exLA k4 kA V o4 oA (i4.mono h) (SA.out V (q_on hQ h)))
  clear i4 o4
  obtain ⟨Z, hZ⟩ : ∃ Z : World, Z = w4 := ⟨_, rfl⟩
  rw [← hZ] at hQ HM4 ⊢
  clear hZ
  have B4 := Below.refl Z.heap.size Z
  replace HC := Lib.hid (fun (V : World) (h : Below Z.heap.size Z V) => HC.out V (q_on hQ h))
  replace M := Lib.hid (fun (V : World) (h : Below Z.heap.size Z V) => M.out V (q_on hQ h))
  replace SA := Lib.hid (fun (V : World) (h : Below Z.heap.size Z V) => SA.out V (q_on hQ h))
  replace SB := Lib.hid (fun (V : World) (h : Below Z.heap.size Z V) => SB.out V (q_on hQ h))
  replace HW := Lib.hid (HW.out.trans (hQ.mono HW.out.size))
  replace KE : Hid (∀ V, Below Z.heap.size Z V → (fun V => Below Z.heap.size Z V ∧ V.cell? ⟨w1.heap.size, 0, none⟩ = some (.int .i64 exS2.width) ∧ V.cell? ⟨w1.heap.size, 1, none⟩ = some (.slice af exS2.forms.length kf) ∧ w1.heap.size < V.heap.size) V) := Lib.hid (fun V h => ⟨h, HC.out V h⟩)
  replace hQ := B4
  clear B4
  go_upto_region 4 with (fail)
  have hg0 := below_drew' hQ
  go_region_held3 (fun V => Below Z.heap.size Z V ∧ V.cell? ⟨w1.heap.size, 0, none⟩ = some (.int .i64 exS2.width) ∧ V.cell? ⟨w1.heap.size, 1, none⟩ = some (.slice af exS2.forms.length kf) ∧ w1.heap.size < V.heap.size) (first | exact KE.out _ (by assumption)) (first
    | (go_at_call 21; have hh := hgp; (with_reducible refine (awOf af kf _ (M.out _ hgp) _ _ o5 i5).mono ?_); rintro e w6 ⟨a6, c6, rfl, o6, i6, hb⟩; have hg := q_on hgp hb; dsimp only)
    | (go_at_call 20; (with_reducible refine (GexLC.out _).mono ?_); rintro e w5 ⟨a5, k5, rfl, o5, i5, hb1, -⟩; have hgp := q_on (And.left (by assumption)) hb1; dsimp only))
  replace hQ := hg
  have HI6 := Lib.hid (fun (V : World) (h : Below w6.heap.size w6 V) => DInts_one (c := c6) 2 3 (show exTwo = [2] from rfl) (i6.mono h))
  clear hg hgp o5 i5 hb1 hb hg0 o6 i6
  obtain ⟨Z2, hZ2⟩ : ∃ Z2 : World, Z2 = w6 := ⟨_, rfl⟩
  rw [← hZ2] at hQ HI6 ⊢
  clear hZ2
  go_upto_region 5 with (fail)
  have hg0 := below_drew' hQ
  have hd0 := below_drew' (Below.refl Z2.heap.size Z2)
  go_region_held3 (fun V => Below Z.heap.size Z V ∧ V.cell? ⟨w1.heap.size, 0, none⟩ = some (.int .i64 exS2.width) ∧ V.cell? ⟨w1.heap.size, 1, none⟩ = some (.slice af exS2.forms.length kf) ∧ w1.heap.size < V.heap.size) (first | exact KE.out _ (by assumption)) (first
    | (go_at_call 11; have hh := hgp; (with_reducible refine (awFills af kf _ (M.out _ hgp) _ _ o7 i7).mono ?_); rintro e w8 ⟨a8, c8, rfl, o8, i8, hb⟩; have hg := q_on hgp hb; have hd := q_on hdp hb; dsimp only)
    | (go_at_call 20; (with_reducible refine (GexLC.out _).mono ?_); rintro e w7 ⟨a7, k7, rfl, o7, i7, hb1, -⟩; have hgp := q_on (And.left (by assumption)) hb1; have hdp := q_on hd0 hb1; dsimp only))
  replace hQ := hg
  replace HM4 := Lib.hid (fun (V : World) (h : Below w8.heap.size w8 V) => HM4.out V (q_on hQ h))
  replace HI6 := Lib.hid (fun (V : World) (h : Below w8.heap.size w8 V) => HI6.out V (q_on hd h))
  have HF8 := Lib.hid (fun (V : World) (h : Below w8.heap.size w8 V) => i8.mono h)
  have O8 := Lib.hid o8
  replace HC := Lib.hid (fun (V : World) (h : Below w8.heap.size w8 V) => HC.out V (q_on hQ h))
  replace M := Lib.hid (fun (V : World) (h : Below w8.heap.size w8 V) => M.out V (q_on hQ h))
  replace SA := Lib.hid (fun (V : World) (h : Below w8.heap.size w8 V) => SA.out V (q_on hQ h))
  replace SB := Lib.hid (fun (V : World) (h : Below w8.heap.size w8 V) => SB.out V (q_on hQ h))
  replace HW := Lib.hid (HW.out.trans (hQ.mono HW.out.size))
  replace hQ := Below.refl w8.heap.size w8
  have hx := HC.out _ hQ
  clear hg hgp o7 i7 hb1 hb hg0 hd0 hd hdp o8 i8 KE
  go_upto_region 15 with (first
    | (go_at_call 27; (with_reducible refine (awMend3 af kf _ (M.out _ hQ) _ _).mono ?_); rintro e v10 ⟨rfl, hb⟩; replace iR := iR.mono hb; replace iK := iK.mono hb; replace iP := iP.mono hb; replace hQ := q_on hQ hb; replace hx := HC.out _ hQ; dsimp only)
    | (go_at_call 23; (with_reducible refine (awRead3 af kf _ (M.out _ hQ)).mono ?_); rintro e v9 ⟨aT, cT, rfl, hb⟩; replace iR := iR.mono hb; replace iK := iK.mono hb; replace iP := iP.mono hb; replace hQ := q_on hQ hb; replace hx := HC.out _ hQ; dsimp only)
    | (go_at_call 23; (with_reducible refine (awRead2 af kf _ (M.out _ hQ)).mono ?_); rintro e v8 ⟨aS, cS, rfl, hb⟩; replace iR := iR.mono hb; replace iK := iK.mono hb; replace iP := iP.mono hb; replace hQ := q_on hQ hb; replace hx := HC.out _ hQ; dsimp only)
    | (go_at_call 28; go_must ((with_reducible refine (awNear af kf _ (M.out _ hQ) _ _ (SA.out _ hQ)).mono ?_); rintro e v7 ⟨rfl, hb⟩; replace iR := iR.mono hb; replace iK := iK.mono hb; replace iP := iP.mono hb; replace hQ := q_on hQ hb; replace hx := HC.out _ hQ; dsimp only))
    | (go_at_call 27; (with_reducible refine (awMend2 af kf _ (M.out _ hQ) _ _ (SA.out _ hQ)).mono ?_); rintro e v6 ⟨rfl, hb⟩; replace iR := iR.mono hb; replace iK := iK.mono hb; replace iP := iP.mono hb; replace hQ := q_on hQ hb; replace hx := HC.out _ hQ; dsimp only)
    | (go_at_call 25; go_must ((with_reducible refine (awApply _ _ _ _ _ (SA.out _ hQ) iq).mono ?_); rintro e v5 ⟨aP, cP, rfl, oP, iP, hb⟩; replace iR := iR.mono hb; replace iK := iK.mono hb; replace hQ := q_on hQ hb; replace hx := HC.out _ hQ; dsimp only))
    | (go_at_call 26; go_must ((with_reducible refine (LMarks_any _).mono ?_); rintro e v4 ⟨aq, rfl, oq, iq, hb⟩; replace iR := iR.mono hb; replace iK := iK.mono hb; replace hQ := q_on hQ hb; replace hx := HC.out _ hQ; dsimp only))
    | (go_at_call 24; go_must ((with_reducible refine (awFewest _ _ _ _ _ (SA.out _ hQ) (SB.out _ hQ)).mono ?_); rintro e v3 ⟨aK, cK, rfl, oK, iK, hb⟩; replace iR := iR.mono hb; replace hQ := q_on hQ hb; replace hx := HC.out _ hQ; dsimp only))
    | (go_at_call 23; (with_reducible refine (awRead1 af kf _ (M.out _ hQ)).mono ?_); rintro e v2 ⟨aR, cR, rfl, oR, iR, hb⟩; replace hQ := q_on hQ hb; replace hx := HC.out _ hQ; dsimp only)
    | (go_at_call 22; go_must ((with_reducible refine (awWrite af kf _ (M.out _ hQ) _ _ (SA.out _ hQ)).mono ?_); rintro e v1 ⟨rfl, hb⟩; replace hQ := q_on hQ hb; replace hx := HC.out _ hQ; dsimp only)))
  have I1 := Lib.hid (fun (V : World) (h : Below v10.heap.size v10 V) => HM4.out V (q_on hQ h))
  have I2 := Lib.hid (fun (V : World) (h : Below v10.heap.size v10 V) => HI6.out V (q_on hQ h))
  have I3 := Lib.hid (fun (V : World) (h : Below v10.heap.size v10 V) => HF8.out V (q_on hQ h))
  have I4 := Lib.hid (fun (V : World) (h : Below v10.heap.size v10 V) => LSameW_any aR aA exLA cR kA V oR oA (iR.mono h) (SA.out V (q_on hQ h)))
  have I5 := Lib.hid (fun (V : World) (h : Below v10.heap.size v10 V) => iK.mono h)
  have I6 := Lib.hid (fun (V : World) (h : Below v10.heap.size v10 V) => LSameW_any aP aB exLB cP kB V oP oB (iP.mono h) (SB.out V (q_on hQ h)))
  have hE := Lib.hid (HW.out.trans (hQ.mono HW.out.size))
  have hEz := Lib.hid hE.out.size
  have OK := Lib.hid oK
  clear hb hQ hx HC M SA SB HM4 HI6 HF8 HW iR iK iP iq oR oK oq oP oA oB GexLA GexLB GexLC GexJ GexM
  have hB := Below.refl v10.heap.size v10
  simp only [List.append]
  have hT : exText.toList = ByteArray.toList (⟨#[116, 111, 32, 116, 104, 101, 32, 106, 117, 100, 103, 101, 10, 105, 32, 97, 115, 107, 32, 109, 101, 114, 99, 121, 10]⟩ : ByteArray) := rfl
  go_wp2_with (first
    | (go_at_call 29; (with_reducible refine (I6.out _ hB).mono ?_); rintro e u9 ⟨rfl, hb⟩; replace hB := q_on hB hb; dsimp only)
    | (go_at_call 32; (with_reducible refine (awEqual _ _ _ _ _ OK.out oq (I5.out _ hB) iq).mono ?_); rintro e u8 ⟨rfl, hb⟩; replace hB := q_on hB hb; dsimp only)
    | (go_at_call 26; (with_reducible refine (LMarks_any _).mono ?_); rintro e u7 ⟨aq, rfl, oq, iq, hb⟩; replace hB := q_on hB hb; dsimp only)
    | (go_at_call 29; (with_reducible refine (I4.out _ hB).mono ?_); rintro e u6 ⟨rfl, hb⟩; replace hB := q_on hB hb; dsimp only)
    | (go_at_call 31; (with_reducible refine (awSamesN _ _ _ O8.out (I3.out _ hB) _ _ _ _ ow1 ow2 iw1 iw2).mono ?_); rintro e u5 ⟨rfl, hb⟩; replace hB := q_on hB hb; dsimp only)
    | (go_at_call 20; (with_reducible refine (GexBC.out _).mono ?_); rintro e u4 ⟨aw2, kw2, rfl, ow2, iw2, hb, -⟩; replace iw1 := iw1.mono hb; replace hB := q_on hB hb; dsimp only)
    | (go_at_call 20; (with_reducible refine (GexA1.out _).mono ?_); rintro e u3 ⟨aw1, kw1, rfl, ow1, iw1, hb, -⟩; replace hB := q_on hB hb; dsimp only)
    | (go_at_call 30; (with_reducible refine (I2.out _ hB).mono ?_); rintro e u2 ⟨rfl, hb⟩; replace hB := q_on hB hb; dsimp only)
    | (go_at_call 29; (with_reducible refine (I1.out _ hB).mono ?_); rintro e u1 ⟨rfl, hb⟩; replace hB := q_on hB hb; dsimp only))
  go_ret
  exact ⟨rfl, hE.out.trans (hB.mono hEz.out)⟩
end Go.Proofs.YtelmponkmmfffaaGreat
