/- What is proved here: the contract of the reference of layer 7: With. Conditions: numbers in range. -/
import Derived.Test.YtnlolliankhfmaaRef7K
import Derived.Test.YtnlolliankhfmaaWords
import Derived.Test.YtnlolliankhfmaaPlain
set_option linter.unusedVariables false
set_option linter.unusedSimpArgs false
namespace Go.Proofs.Ytnlolliankhfmaa
open Go Go.RowKit

theorem results_cell_one {fn : Func} {p : Tmp} {ty : TypeId} (h : fn.results = #[.cell p ty]) (tmps : Array Value) (P : Program) (w : World) :
    (results fn tmps).run P w = ((asAddr (tmps.getD p undef)).run P w).andThen fun a w₁ => ((loadVar ty a).run P w₁) := by
  simp only [results, h]
  simp [Sem.run_bind, Result.andThen]
theorem far1 {X : World} {g b o a : Nat} {u : Value} (h : b ≠ g) : (X.setCell ⟨g, a, none⟩ u).cell? ⟨b, o, none⟩ = X.cell? ⟨b, o, none⟩ :=
  World.cell?_of_block (a := ⟨b, o, none⟩) (Below.heap_setCell X ⟨g, a, none⟩ u b h)
theorem set5_far {X : World} {g b o a0 a1 a2 a3 a4 : Nat} {u0 u1 u2 u3 u4 : Value} (h : b ≠ g) : (((((X.setCell ⟨g, a0, none⟩ u0).setCell ⟨g, a1, none⟩ u1).setCell ⟨g, a2, none⟩ u2).setCell ⟨g, a3, none⟩ u3).setCell ⟨g, a4, none⟩ u4).drew.cell? ⟨b, o, none⟩ = X.cell? ⟨b, o, none⟩ := by
  rw [World.cell?_drew, far1 h, far1 h, far1 h, far1 h, far1 h]
theorem drew_heap (Y : World) : Y.drew.heap = Y.heap := rfl
theorem set5_heap {X : World} {g b a0 a1 a2 a3 a4 : Nat} {u0 u1 u2 u3 u4 : Value} (h : b ≠ g) : (((((X.setCell ⟨g, a0, none⟩ u0).setCell ⟨g, a1, none⟩ u1).setCell ⟨g, a2, none⟩ u2).setCell ⟨g, a3, none⟩ u3).setCell ⟨g, a4, none⟩ u4).drew.heap[b]? = X.heap[b]? := by
  rw [drew_heap]
  rw [Below.heap_setCell _ _ _ _ h, Below.heap_setCell _ _ _ _ h, Below.heap_setCell _ _ _ _ h, Below.heap_setCell _ _ _ _ h, Below.heap_setCell _ _ _ _ h]
theorem set4_far {X : World} {g b a0 a1 a2 a3 : Nat} {u0 u1 u2 u3 : Value} (h : b ≠ g) : ((((X.setCell ⟨g, a0, none⟩ u0).setCell ⟨g, a1, none⟩ u1).setCell ⟨g, a2, none⟩ u2).setCell ⟨g, a3, none⟩ u3).heap[b]? = X.heap[b]? := by
  rw [Below.heap_setCell _ _ _ _ h, Below.heap_setCell _ _ _ _ h, Below.heap_setCell _ _ _ _ h, Below.heap_setCell _ _ _ _ h]
theorem WordsC.far {w W : World} {a : Option Addr} {l : List MoWord} (h : WordsC w a l) (hb : ∀ b off, a = some ⟨b, off, none⟩ → W.heap[b]? = w.heap[b]?) (hs : w.heap.size ≤ W.heap.size) : WordsC W a l := fun i hi => by
  obtain ⟨b, off, e, hlt, h1, h2, h3, h4, h5⟩ := h i hi
  have hh := hb b off e
  have hc : ∀ o, W.cell? ⟨b, o, none⟩ = w.cell? ⟨b, o, none⟩ := fun o => World.cell?_of_block (a := ⟨b, o, none⟩) hh
  exact ⟨b, off, e, Nat.lt_of_lt_of_le hlt hs, (hc _).trans h1, (hc _).trans h2, (hc _).trans h3, (hc _).trans h4, (hc _).trans h5⟩
theorem with_keep {B bl ol g p : Nat} {wr W : World} {v2 x u0 u1 u2 u3 u4 : Value} (h : Below wr.heap.size wr W) (c2 : wr.cell? ⟨B, 2, none⟩ = some v2) (hx : wr.cell? ⟨bl, ol, none⟩ = some x)
    (p0 : wr.cell? ⟨g, p, none⟩ = some u0) (p1 : wr.cell? ⟨g, p + 1, none⟩ = some u1) (p2 : wr.cell? ⟨g, p + 2, none⟩ = some u2) (p3 : wr.cell? ⟨g, p + 3, none⟩ = some u3) (p4 : wr.cell? ⟨g, p + 4, none⟩ = some u4) :
    Below wr.heap.size wr W ∧ W.cell? ⟨B, 2, none⟩ = some v2 ∧ W.cell? ⟨bl, ol, none⟩ = some x ∧ W.cell? ⟨g, p, none⟩ = some u0 ∧ W.cell? ⟨g, p + 1, none⟩ = some u1 ∧ W.cell? ⟨g, p + 2, none⟩ = some u2 ∧ W.cell? ⟨g, p + 3, none⟩ = some u3 ∧ W.cell? ⟨g, p + 4, none⟩ = some u4 ∧
      B < W.heap.size ∧ bl < W.heap.size ∧ g < W.heap.size :=
  ⟨h, cell_below h c2, cell_below h hx, cell_below h p0, cell_below h p1, cell_below h p2, cell_below h p3, cell_below h p4, lt_of_cell (cell_below h c2), lt_of_cell (cell_below h hx), lt_of_cell (cell_below h p0)⟩

set_option maxRecDepth 100000 in
set_option maxHeartbeats 4000000 in
theorem With7_any (ac az aw ap : Option Addr) (cc cz cw cp : Nat) (m : MoList) (al : Option Addr) (l : List Int) (cl : Nat) (w : World) (hm : ListC w ac az aw ap cc cz cw cp m) (hsl : SlOk al l.length cl) (hil : IntsC w al l) (hlb : ∀ x ∈ l, 0 ≤ x ∧ x < m.words.length) (hz : m.words.length ≤ 1000) :
    Calls Try.prog 49 #[(.agg #[.slice ac m.claimants.length cc, .slice az m.sums.length cz, .slice aw m.words.length cw, .slice ap m.paid.length cp]), .slice al l.length cl] w fun e w' => ∃ aw' cw', e = .returned (listV ac az aw' ap cc cz cw' cp (withWords m l)) ∧ ListC w' ac az aw' ap cc cz cw' cp (withWords m l) ∧ Below w.heap.size w w' := by
  have hll := hsl.len
  obtain ⟨W1, hW1⟩ : ∃ W1 : World, W1 = ((w.alloc (.cells #[.slice ac m.claimants.length cc, .slice az m.sums.length cz, .slice aw m.words.length cw, .slice ap m.paid.length cp] 27))).alloc (.cells #[.slice none 0 0, .slice none 0 0, .slice none 0 0, .slice none 0 0] 27) := ⟨_, rfl⟩
  have hz1 : W1.heap.size = w.heap.size + 2 := by rw [hW1]; simp
  have hA1 : Below (w.heap.size + 1) (w.alloc (.cells #[.slice ac m.claimants.length cc, .slice az m.sums.length cz, .slice aw m.words.length cw, .slice ap m.paid.length cp] 27)) W1 := by rw [hW1]; exact (Below.refl _ _).alloc (by simp) _
  have hS1 : W1.heap[w.heap.size + 1]? = some (.cells #[.slice none 0 0, .slice none 0 0, .slice none 0 0, .slice none 0 0] 27 (0, 0)) := by
    have := blk_new (w.alloc (.cells #[.slice ac m.claimants.length cc, .slice az m.sums.length cz, .slice aw m.words.length cw, .slice ap m.paid.length cp] 27)) (.cells #[.slice none 0 0, .slice none 0 0, .slice none 0 0, .slice none 0 0] 27 (0, 0))
    rw [hW1]; simpa using this
  have hS0 : W1.heap[w.heap.size]? = some (.cells #[.slice ac m.claimants.length cc, .slice az m.sums.length cz, .slice aw m.words.length cw, .slice ap m.paid.length cp] 27 (0, 0)) := blk_below hA1 (by omega) (blk_new w (.cells #[.slice ac m.claimants.length cc, .slice az m.sums.length cz, .slice aw m.words.length cw, .slice ap m.paid.length cp] 27 (0, 0)))
  obtain ⟨c0, c1, c2, c3⟩ := box_four hA1
  have fz := blk_free 2 hS0
  have HW1 := Lib.hid hW1
  clear hW1
  have hbz1 : w.heap.size < W1.heap.size := by omega
  have hsw := hm.okw
  have hmade : (W1.alloc (.cells #[] 70)).ownsRow (w.heap.size + 2) 70 5 (.slice (some ⟨w.heap.size + 1 + 1, 0, none⟩) 0 0) 0 [] := by
    have h := World.ownsRow_made (base := W1.heap.size) (e := 70) (size := 5) W1 #[] 0 (Nat.le_refl _) (by decide) rfl
    rw [hz1] at h
    exact h
  have hww := hm.words.mono (box_old hA1)
  go_enter Try.func49, Try.ntmps49
  go_wp2_with (at_builtin; rw [← HW1.out]; (go_must (refine wpList_app (.tmp 7) (.tmp 9) E_word rfl rfl rfl rfl (w.heap.size + 2) 0 m.words.length [] (wordsFlat m.words) hmade ?g1 (by omega) (by decide) (by simp; omega) ?_); (case g1 => exact SrcAt.words hsw.2.2 (hww.mono ((Below.refl _ _).alloc (Nat.le_refl _) _))); (intro v1 w1 ho1 hg1 _); (simp only [Nat.zero_add, List.nil_append] at ho1); (have hb1 := app_fresh (n := 0) (c := 0) (show (W1.alloc _).grownBy w1 (some W1.heap.size) by rw [hz1]; exact hg1)); (have hz2 := hb1.size; clear hg1); (obtain ⟨-, a9, c9, rfl, hs9, -⟩ := words_own ho1; have b1 := blk_below hb1 hbz1 hS0; have e1 : w1.cell? ⟨w.heap.size, 2, none⟩ = some (.slice aw m.words.length cw) := blk_cell 2 b1 rfl; have e2 := blk_free 2 b1; have e3 := lt_of_block b1); (simp only [Act.put, List.setIfInBounds_toArray, List.set_cons_succ, List.set_cons_zero])))
  have B1 : (w1.setCell ⟨w.heap.size, 2, none⟩ (.slice a9 m.words.length c9)).heap[w.heap.size]? = some (.cells #[.slice ac m.claimants.length cc, .slice az m.sums.length cz, .slice a9 m.words.length c9, .slice ap m.paid.length cp] 27 (0, 0)) := blk_set 2 _ b1
  have B2 : (w1.setCell ⟨w.heap.size, 2, none⟩ (.slice a9 m.words.length c9)).heap[w.heap.size + 1]? = some (.cells #[.slice none 0 0, .slice none 0 0, .slice none 0 0, .slice none 0 0] 27 (0, 0)) := (Below.heap_setCell _ _ _ _ (by simp)).trans (blk_below hb1 (by omega) hS1)
  have B3 : Below w.heap.size w (w1.setCell ⟨w.heap.size, 2, none⟩ (.slice a9 m.words.length c9)) := (box_old (hA1.trans (hb1.mono (by omega)))).setCell (Nat.le_refl _) _
  have B4 : (w1.setCell ⟨w.heap.size, 2, none⟩ (.slice a9 m.words.length c9)).ownsRow (w.heap.size + 2) 70 5 (.slice a9 m.words.length c9) m.words.length (wordsFlat m.words) := ownsRow_setCell_other ho1 (fun e => by have := (ho1.lt _ e).1; simp at this; omega) _
  clear c0 c1 c2 c3 fz b1 e1 e2 ho1 hmade
  go_loopw [5] (fun i wr => ∃ k : Nat, k ≤ l.length ∧ i = .int .i64 k ∧ wr.ownsRow (w.heap.size + 2) 70 5 (.slice a9 m.words.length c9) m.words.length (wordsFlat (cameTo m.words (l.take k))) ∧ wr.heap[w.heap.size]? = some (.cells #[.slice ac m.claimants.length cc, .slice az m.sums.length cz, .slice a9 m.words.length c9, .slice ap m.paid.length cp] 27 (0, 0)) ∧ wr.heap[w.heap.size + 1]? = some (.cells #[.slice none 0 0, .slice none 0 0, .slice none 0 0, .slice none 0 0] 27 (0, 0)) ∧ Below w.heap.size w wr) (fun i _ => l.length - (intOf i).toNat)
  case atStart => exact ⟨0, Nat.zero_le _, rfl, B4, B1, B2, B3⟩
  case round =>
    clear B1 B2 B3 B4
    obtain ⟨k, hk, rfl, ho, B1, B2, B3⟩ := hrel
    have c0 : wr.cell? ⟨w.heap.size, 0, none⟩ = some (.slice ac m.claimants.length cc) := blk_cell 0 B1 rfl
    have c1 : wr.cell? ⟨w.heap.size, 1, none⟩ = some (.slice az m.sums.length cz) := blk_cell 1 B1 rfl
    have c2 : wr.cell? ⟨w.heap.size, 2, none⟩ = some (.slice a9 m.words.length c9) := blk_cell 2 B1 rfl
    have c3 : wr.cell? ⟨w.heap.size, 3, none⟩ = some (.slice ap m.paid.length cp) := blk_cell 3 B1 rfl
    have hbz := lt_of_block B1
    by_cases hlt : k < l.length
    · obtain ⟨bl, ol, rfl, hbl, hx⟩ := hil k hlt
      have hxb := hlb _ (List.getElem_mem hlt)
      have hcs := cameTo_succ m.words l k hlt
      have hcl := cameTo_len m.words (l.take k)
      generalize l[k] = x at hx hxb hcs
      generalize hws2 : cameTo m.words (l.take (k + 1)) = ws2 at hcs
      have HW2 := Lib.hid hws2
      clear hws2
      generalize cameTo m.words (l.take k) = ws at ho hcs hcl
      obtain ⟨q, rfl⟩ := Int.eq_ofNat_of_zero_le hxb.1
      simp only [Int.toNat_natCast] at hcs
      have hq : q < ws.length := by omega
      have hqm : q < m.words.length := by omega
      rw [setCame_eq _ _ hq] at hcs
      have hst := wordsFlat_set ws q hq { ws[q] with came := true }
      rw [← hcs] at hst
      have hg := wordsFlat_get ws q hq
      generalize ws[q] = y at hst hg hcs
      have HC := Lib.hid hcs
      have HL := Lib.hid hcl
      clear hcs hcl
      obtain ⟨says, sum, of, back, came⟩ := y
      simp only at hst
      have hxw := cell_below B3 hx
      have hblw := lt_of_cell hxw
      rcases ho.2 with ⟨_, hn0⟩ | ⟨g, cap, cur, hv, hbg, hgg, _⟩
      · omega
      · obtain ⟨rfl, rfl⟩ : a9 = some ⟨g, 0, none⟩ ∧ c9 = cap := by cases hv; exact ⟨rfl, rfl⟩
        have hgl := lt_of_block hgg
        clear hv hgg
        have p0 : wr.cell? ⟨g, q * 5, none⟩ = some (.int .i64 says) := (ho.cellAt _ (by omega)).trans (hg 0 (by omega))
        have p1 : wr.cell? ⟨g, q * 5 + 1, none⟩ = some (.int .i64 sum) := (ho.cellAt _ (by omega)).trans (hg 1 (by omega))
        have p2 : wr.cell? ⟨g, q * 5 + 2, none⟩ = some (.int .i64 of) := (ho.cellAt _ (by omega)).trans (hg 2 (by omega))
        have p3 : wr.cell? ⟨g, q * 5 + 3, none⟩ = some (.int .i64 back) := (ho.cellAt _ (by omega)).trans (hg 3 (by omega))
        have p4 : wr.cell? ⟨g, q * 5 + 4, none⟩ = some (.bool came) := (ho.cellAt _ (by omega)).trans (hg 4 (by omega))
        have HST := Lib.hid hst
        clear hst hg
        go_wp2
        go_region_held3 (fun W => Below wr.heap.size wr W ∧ W.cell? ⟨w.heap.size, 2, none⟩ = some (.slice (some ⟨g, 0, none⟩) m.words.length c9) ∧ W.cell? ⟨bl, ol + k, none⟩ = some (.int .i64 q) ∧ W.cell? ⟨g, q * 5, none⟩ = some (.int .i64 says) ∧ W.cell? ⟨g, q * 5 + 1, none⟩ = some (.int .i64 sum) ∧ W.cell? ⟨g, q * 5 + 2, none⟩ = some (.int .i64 of) ∧ W.cell? ⟨g, q * 5 + 3, none⟩ = some (.int .i64 back) ∧ W.cell? ⟨g, q * 5 + 4, none⟩ = some (.bool came) ∧ w.heap.size < W.heap.size ∧ bl < W.heap.size ∧ g < W.heap.size)
          (exact with_keep (by (repeat' (first | exact Below.refl _ _ | refine Below.drew ?_ | refine Below.setCell ?_ (by simp <;> omega) _ | refine Below.alloc ?_ (by simp <;> omega) _))) c2 hxw p0 p1 p2 p3 p4) (fail)
        go_wp2
        obtain ⟨X, hX⟩ : ∃ X : World, X = (wr.alloc (.cells #[.int .i64 says, .int .i64 sum, .int .i64 of, .int .i64 back, .bool true] 70)).drew := ⟨_, rfl⟩
        rw [← hX]
        have HbX : Below wr.heap.size wr X := by rw [hX]; exact below_drew' ((Below.refl _ _).alloc (Nat.le_refl _) _)
        have hXt : X.heap[wr.heap.size]? = some (.cells #[.int .i64 says, .int .i64 sum, .int .i64 of, .int .i64 back, .bool true] 70 (0, 0)) := by rw [hX]; exact blk_new wr _
        have hoX := own_below ho HbX
        have HX := Lib.hid hX
        clear hX
        have hbz0 := hbz
        obtain ⟨-, c2, hxw, p0, p1, p2, p3, p4, hbz, hblw, hgl2⟩ := with_keep HbX c2 hxw p0 p1 p2 p3 p4
        have s0 : X.cell? ⟨wr.heap.size, 0, none⟩ = some (.int .i64 says) := blk_cell 0 hXt rfl
        have s1 : X.cell? ⟨wr.heap.size, 1, none⟩ = some (.int .i64 sum) := blk_cell 1 hXt rfl
        have s2 : X.cell? ⟨wr.heap.size, 2, none⟩ = some (.int .i64 of) := blk_cell 2 hXt rfl
        have s3 : X.cell? ⟨wr.heap.size, 3, none⟩ = some (.int .i64 back) := blk_cell 3 hXt rfl
        have s4 : X.cell? ⟨wr.heap.size, 4, none⟩ = some (.bool true) := blk_cell 4 hXt rfl
        have f0 := hoX.frozenAt (q * 5)
        have f1 := hoX.frozenAt (q * 5 + 1)
        have f2 := hoX.frozenAt (q * 5 + 2)
        have f3 := hoX.frozenAt (q * 5 + 3)
        have f4 := hoX.frozenAt (q * 5 + 4)
        have hxz := lt_of_block hXt
        have n1 : w.heap.size ≠ g := by omega
        have n2 : bl ≠ g := by omega
        have n3 : wr.heap.size ≠ g := by omega
        clear c0 c1 c3
        go_region_held3 (fun W => W.cell? ⟨w.heap.size, 2, none⟩ = some (.slice (some ⟨g, 0, none⟩) m.words.length c9) ∧ W.cell? ⟨bl, ol + k, none⟩ = some (.int .i64 q) ∧ W.cell? ⟨wr.heap.size, 0, none⟩ = some (.int .i64 says) ∧ W.cell? ⟨wr.heap.size, 1, none⟩ = some (.int .i64 sum) ∧ W.cell? ⟨wr.heap.size, 2, none⟩ = some (.int .i64 of) ∧ W.cell? ⟨wr.heap.size, 3, none⟩ = some (.int .i64 back) ∧ W.cell? ⟨wr.heap.size, 4, none⟩ = some (.bool true))
          (refine ⟨?_, ?_, ?_, ?_, ?_, ?_, ?_⟩ <;> (first | (rw [set5_far n1]; with_reducible assumption) | (rw [set5_far n2]; with_reducible assumption) | (rw [set5_far n3]; with_reducible assumption) | (rw [World.cell?_drew]; with_reducible assumption))) (fail)
        go_wp2
        go_roundw
        case rel =>
          refine ⟨k + 1, by omega, by go_num, ?_, ?_, ?_, ?_⟩
          · rw [HW2.out, ← HST.out]
            exact (((((hoX.stored (q * 5) _).1.stored (q * 5 + 1) _).1.stored (q * 5 + 2) _).1.stored (q * 5 + 3) _).1.stored (q * 5 + 4) _).1.drew
          · exact (set5_heap n1).trans ((HbX.block _ hbz0).trans B1)
          · exact (set5_heap (by omega)).trans ((HbX.block _ (lt_of_block B2)).trans B2)
          · exact below_drew' ((((((B3.trans (HbX.mono B3.size)).setCell (by simp; omega) _).setCell (by simp; omega) _).setCell (by simp; omega) _).setCell (by simp; omega) _).setCell (by simp; omega) _)
        case measure => simp [intOf]; omega
    · obtain rfl : k = l.length := by omega
      rw [List.take_length] at ho
      have d0 : wr.cell? ⟨w.heap.size + 1, 0, none⟩ = some (.slice none 0 0) := blk_cell 0 B2 rfl
      have d1 : wr.cell? ⟨w.heap.size + 1, 1, none⟩ = some (.slice none 0 0) := blk_cell 1 B2 rfl
      have d2 : wr.cell? ⟨w.heap.size + 1, 2, none⟩ = some (.slice none 0 0) := blk_cell 2 B2 rfl
      have d3 : wr.cell? ⟨w.heap.size + 1, 3, none⟩ = some (.slice none 0 0) := blk_cell 3 B2 rfl
      have f0 := blk_free 0 B2
      have f1 := blk_free 1 B2
      have f2 := blk_free 2 B2
      have f3 := blk_free 3 B2
      have hbz3 := lt_of_block B2
      have HWO := Lib.hid (words_own ho)
      have hwl := Lib.hid (cameTo_len m.words l)
      go_wp2
      (try simp only [Exit.inBlock, Exit.then])
      refine bodyPost_ret (v := .agg #[.slice ac m.claimants.length cc, .slice az m.sums.length cz, .slice a9 m.words.length c9, .slice ap m.paid.length cp]) ?_ rfl ⟨a9, c9, ?_, ?_, ?_⟩
      · rw [results_cell_one rfl]
        go_simp
      · simp only [listV, withWords]
        rw [show (List.foldl (fun ws i => setCame ws i.toNat) m.words l).length = m.words.length from hwl.out]
      · obtain ⟨_, a8, c8, e8, hs8, hw8⟩ := HWO.out
        rw [hwl.out] at e8 hs8
        cases e8
        have hBY : Below w.heap.size w ((((wr.setCell ⟨w.heap.size + 1, 0, none⟩ (.slice ac m.claimants.length cc)).setCell ⟨w.heap.size + 1, 1, none⟩ (.slice az m.sums.length cz)).setCell ⟨w.heap.size + 1, 2, none⟩ (.slice a9 m.words.length c9)).setCell ⟨w.heap.size + 1, 3, none⟩ (.slice ap m.paid.length cp)) := (((B3.setCell (by simp) _).setCell (by simp) _).setCell (by simp) _).setCell (by simp) _
        have hmW := hm.mono hBY
        have hw9 := hw8.far (W := ((((wr.setCell ⟨w.heap.size + 1, 0, none⟩ (.slice ac m.claimants.length cc)).setCell ⟨w.heap.size + 1, 1, none⟩ (.slice az m.sums.length cz)).setCell ⟨w.heap.size + 1, 2, none⟩ (.slice a9 m.words.length c9)).setCell ⟨w.heap.size + 1, 3, none⟩ (.slice ap m.paid.length cp))) (fun b off e => set4_far (by rcases ho.2 with ⟨hv, _⟩ | ⟨g, cap, cur, hv, hbg, _⟩ <;> (subst e; cases hv); omega)) (by simp)
        exact ⟨hmW.okc, hmW.okz, by rw [show (withWords m l).words.length = m.words.length from hwl.out]; exact hs8, hmW.okp, hmW.claimants, hmW.sums, hw9, hmW.paid, hmW.csize, hmW.zsize⟩
      · exact (((B3.setCell (by simp) _).setCell (by simp) _).setCell (by simp) _).setCell (by simp) _
end Go.Proofs.Ytnlolliankhfmaa
