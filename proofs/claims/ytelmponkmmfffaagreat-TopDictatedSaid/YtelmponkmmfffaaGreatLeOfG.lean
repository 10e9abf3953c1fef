/- What is proved here: the contracts of letter.Write at a letter, and of letter.Read at a text whose pieces are words, at a shelf in which nothing is wrong. -/
/- What is proved here: contracts of acts, and of what the four acts make of a word. No condition. -/
/- What is proved here: plain facts on what a letter has in the rooms of a form; lists of words that a call has made, in memory. -/
/- What is proved here: the contract of letter.Fills at a shelf in which nothing is wrong, and a letter that is of the form. -/
/- What is proved here: the contract of letter.Of at a shelf in which nothing is wrong, and a letter. -/
import Derived.Test.YtelmponkmmfffaaGreatLeTextG
import Derived.Test.YtelmponkmmfffaaGreatLeMakeG
import Derived.Test.YtelmponkmmfffaaGreatLrSameG
import Derived.Test.YtelmponkmmfffaaGreatLeCntG
import Derived.Laws.ResultCell
import Derived.Test.YtelmponkmmfffaaGreatLeWays2
import Derived.Laws.CopyOwn
import Derived.Test.YtelmponkmmfffaaGreatCmpG
set_option linter.unusedVariables false
set_option linter.unusedSimpArgs false
namespace Go.Proofs.YtelmponkmmfffaaGreat
open Go Go.RowKit Go.Shelf
set_option maxRecDepth 100000 in
set_option maxHeartbeats 4000000 in
theorem LWrite_any (af : Option Addr) (kf : Nat) (s : LeS) (al : Option Addr) (l : List ByteArray) (cl : Nat) (w : World) (hm : ShelfC w af kf s) (hv : LeValid s) (hil : StrsC w al l) (hlet : letB l = true) :
    Calls Tryz.prog 22 #[(.agg #[.int .i64 s.width, .slice af s.forms.length kf]), .slice al l.length cl] w fun e w' => e = .returned (.tuple #[.string ⟨(textL s.width l).toArray⟩, .int .i64 0]) ∧ Below w.heap.size w w' := by
  obtain ⟨X, hX⟩ : ∃ X : World, X = w.alloc (.cells #[.int .i64 s.width, .slice af s.forms.length kf] 24) := ⟨_, rfl⟩
  have hwX : Below w.heap.size w X := by rw [hX]; exact (Below.refl _ w).alloc (Nat.le_refl _) _
  have g1 : X.heap[w.heap.size]? = some (.cells #[.int .i64 s.width, .slice af s.forms.length kf] 24 (0, 0)) := by rw [hX]; exact alloc_at _ _ rfl
  replace g1 := fun (V : World) (h : Below X.heap.size X V) => (h.block _ (lt_of_block g1)).trans g1
  have HC : Hid (∀ V, Below X.heap.size X V → (V.cell? ⟨w.heap.size, 0, none⟩ = some (.int .i64 s.width) ∧ V.cell? ⟨w.heap.size, 1, none⟩ = some (.slice af s.forms.length kf) ∧ w.heap.size < V.heap.size)) := Lib.hid (fun V h => ⟨blk_cell 0 (g1 V h) rfl, blk_cell 1 (g1 V h) rfl, lt_of_block (g1 V h)⟩)
  obtain ⟨y0, y1, y3⟩ := HC.out X (Below.refl _ _)
  have C := Lib.hid (LCheck_any af kf s X (hm.mono hwX) hv)
  have HLT := Lib.hid (fun (V : World) (h : Below w.heap.size w V) => LLettered_any al l cl V (hil.mono h) hlet)
  have HTX := Lib.hid (fun (V : World) (h : Below w.heap.size w V) => LText_any s.width al l cl V hv.width (hil.mono h) hlet)
  have HX := Lib.hid hX
  clear hX hm hv g1 hil hlet
  go_enter Tryz.func22, Tryz.ntmps22
  go_upto_region 1 with (fail)
  rw [← HX.out]
  clear HX
  go_upto_if 16 with (go_at_call 68; go_must ((with_reducible refine C.out.mono ?_); rintro e w2 ⟨rfl, hb2⟩; obtain ⟨z0, z1, z3⟩ := HC.out _ hb2; dsimp only))
  clear y0 y1 y3
  have hw2 := hwX.trans (hb2.mono hwX.size)
  have LT := Lib.hid (HLT.out w2 hw2)
  go_upto_if 20 with (go_at_call 50; go_must ((with_reducible refine LT.out.mono ?_); rintro e w3 ⟨rfl, hb3⟩; dsimp only))
  have hw3 := hw2.trans (hb3.mono hw2.size)
  obtain ⟨y0, y1, y3⟩ := HC.out _ (hb2.trans (hb3.mono hb2.size))
  have TX := Lib.hid (HTX.out w3 hw3)
  clear z0 z1 z3 LT
  go_wp2_with (go_at_call 70; go_must ((with_reducible refine TX.out.mono ?_); rintro e w4 ⟨rfl, hb4⟩; dsimp only))
  go_ret2
  exact ⟨rfl, hw3.trans (hb4.mono hw3.size)⟩
def leSep (x : Nat) : Bool := decide (x = 32) || decide (x = 10)
def pieces (s : ByteArray) : List ByteArray := Lib.goFieldsP leSep s
theorem LRead1_any (x : Nat) (w : World) :
    Calls Tryz.prog 72 #[.int .i32 (x : Int)] w fun e w' => e = .returned (.bool (leSep x)) ∧ w' = w := by
  by_cases h1 : x = 32
  · subst h1
    go_enter Tryz.func72, Tryz.ntmps72
    go_wp2
    go_ret
    exact ⟨ret_bool (by decide), rfl⟩
  · have e1 : ((x : Int) == 32) = false := eqi_f (by omega)
    by_cases h2 : x = 10
    · subst h2
      clear e1
      go_enter Tryz.func72, Tryz.ntmps72
      go_wp2
      go_ret
      exact ⟨ret_bool (by decide), rfl⟩
    · have e2 : ((x : Int) == 10) = false := eqi_f (by omega)
      have e3 := Lib.hid (show leSep x = false by simp [leSep, h1, h2])
      clear h1 h2
      go_enter Tryz.func72, Tryz.ntmps72
      go_wp2
      go_ret
      exact ⟨ret_bool e3.out.symm, rfl⟩
theorem LFields_any (s : ByteArray) (w : World) (hs : s.size ≤ 160) :
    Calls Tryz.prog 71 #[.string s, .func (.func 72) #[] #[]] w fun e w' => ∃ a c, e = .returned (.slice a (pieces s).length c) ∧ SlOk a (pieces s).length c ∧ StrsC w' a (pieces s) ∧ Below w.heap.size w w' := by
  refine (ShFields 72 #[] (enters_of Tryz.func72 (by kernel_rfl) rfl) leSep s w (by omega) ?_).mono ?_
  · intro W x hb
    show Calls Tryz.prog 72 #[.int .i32 (x : Int)] W _
    refine (LRead1_any x W).mono ?_
    rintro e w' ⟨rfl, rfl⟩
    exact ⟨rfl, 0, rfl⟩
  · rintro e w' ⟨A, rfl, hA, ho, hb⟩
    obtain ⟨a, c, ha, h1, h2⟩ := StrsV.of_own ho
    injection ha with e1 e2 e3
    subst e1 e3
    exact ⟨_, _, rfl, h1, h2, hb⟩
set_option maxRecDepth 100000 in
set_option maxHeartbeats 4000000 in
theorem LRead_any (af : Option Addr) (kf : Nat) (s : LeS) (t : ByteArray) (w : World) (hm : ShelfC w af kf s) (hv : LeValid s) (ht : t.size ≤ 160) (hlet : letB (pieces t) = true) (r : Bool) (hr : decide ((⟨(textL s.width (pieces t)).toArray⟩ : ByteArray) = t) = r) :
    Calls Tryz.prog 23 #[(.agg #[.int .i64 s.width, .slice af s.forms.length kf]), .string t] w fun e w' => ∃ a c, e = .returned (.tuple #[.slice a (if r = true then (pieces t).length else 0) c, .int .i64 (if r = true then 0 else 6)]) ∧ (r = true → SlOk a (pieces t).length c ∧ StrsC w' a (pieces t)) ∧ Below w.heap.size w w' := by
  obtain ⟨X, hX⟩ : ∃ X : World, X = w.alloc (.cells #[.int .i64 s.width, .slice af s.forms.length kf] 24) := ⟨_, rfl⟩
  have hwX : Below w.heap.size w X := by rw [hX]; exact (Below.refl _ w).alloc (Nat.le_refl _) _
  have g1 : X.heap[w.heap.size]? = some (.cells #[.int .i64 s.width, .slice af s.forms.length kf] 24 (0, 0)) := by rw [hX]; exact alloc_at _ _ rfl
  replace g1 := fun (V : World) (h : Below X.heap.size X V) => (h.block _ (lt_of_block g1)).trans g1
  have HC : Hid (∀ V, Below X.heap.size X V → (V.cell? ⟨w.heap.size, 0, none⟩ = some (.int .i64 s.width) ∧ V.cell? ⟨w.heap.size, 1, none⟩ = some (.slice af s.forms.length kf) ∧ w.heap.size < V.heap.size)) := Lib.hid (fun V h => ⟨blk_cell 0 (g1 V h) rfl, blk_cell 1 (g1 V h) rfl, lt_of_block (g1 V h)⟩)
  obtain ⟨y0, y1, y3⟩ := HC.out X (Below.refl _ _)
  have C := Lib.hid (LCheck_any af kf s X (hm.mono hwX) hv)
  have HF := Lib.hid (fun (V : World) => LFields_any t V ht)
  have HLT := Lib.hid (fun (V : World) (a : Option Addr) (c : Nat) (h : StrsC V a (pieces t)) => LLettered_any a (pieces t) c V h hlet)
  have HTX := Lib.hid (fun (V : World) (a : Option Addr) (c : Nat) (h : StrsC V a (pieces t)) => LText_any s.width a (pieces t) c V hv.width h hlet)
  have hse := str_eq (⟨(textL s.width (pieces t)).toArray⟩ : ByteArray) t
  rw [hr] at hse
  have hl15 := (let_word hlet).1
  have HX := Lib.hid hX
  clear hX hm hv g1 hlet hr
  generalize pieces t = l at *
  generalize (⟨(textL s.width l).toArray⟩ : ByteArray) = tx at *
  go_enter Tryz.func23, Tryz.ntmps23
  go_upto_region 1 with (fail)
  rw [← HX.out]
  clear HX
  go_upto_region 6 with (go_at_call 68; go_must ((with_reducible refine C.out.mono ?_); rintro e w2 ⟨rfl, hb2⟩; obtain ⟨z0, z1, z3⟩ := HC.out _ hb2; dsimp only))
  clear y0 y1 y3
  have hw2 := hwX.trans (hb2.mono hwX.size)
  have FF := Lib.hid (HF.out w2)
  go_upto_region 7 with (go_at_call 71; go_must ((with_reducible refine FF.out.mono ?_); rintro e w3 ⟨a3, c3, rfl, hs3, hi3, hb3⟩; dsimp only))
  have hX3 := hb2.trans (hb3.mono hb2.size)
  have LT := Lib.hid (HLT.out w3 a3 c3 hi3)
  have HI3 := Lib.hid hi3
  have HTX3 := Lib.hid (fun (V : World) (h : Below w3.heap.size w3 V) => HTX.out V a3 c3 (HI3.out.mono h))
  clear FF hi3 z0 z1 z3
  cases r
  · go_wp2_with (first
      | (go_at_call 70; go_must ((with_reducible refine (HTX3.out w4 hb4).mono ?_); rintro e w5 ⟨rfl, hb5⟩; dsimp only))
      | (go_at_call 50; go_must ((with_reducible refine LT.out.mono ?_); rintro e w4 ⟨rfl, hb4⟩; obtain ⟨y0, y1, y3⟩ := HC.out _ (hX3.trans (hb4.mono hX3.size)); dsimp only)))
    go_ret2
    first
      | exact ⟨none, 0, rfl, fun h => by cases h, hw2.trans ((hb3.trans ((hb4.trans (hb5.mono hb4.size)).mono hb3.size)).mono hw2.size)⟩
      | exact ⟨⟨none, 0, rfl⟩, hw2.trans ((hb3.trans ((hb4.trans (hb5.mono hb4.size)).mono hb3.size)).mono hw2.size)⟩
  · go_wp2_with (first
      | (go_at_call 70; go_must ((with_reducible refine (HTX3.out w4 hb4).mono ?_); rintro e w5 ⟨rfl, hb5⟩; dsimp only))
      | (go_at_call 50; go_must ((with_reducible refine LT.out.mono ?_); rintro e w4 ⟨rfl, hb4⟩; obtain ⟨y0, y1, y3⟩ := HC.out _ (hX3.trans (hb4.mono hX3.size)); dsimp only)))
    go_ret2
    have hb35 := hb4.trans (hb5.mono hb4.size)
    have hfin := hw2.trans ((hb3.trans (hb35.mono hb3.size)).mono hw2.size)
    first
      | exact ⟨a3, c3, rfl, fun _ => ⟨hs3, HI3.out.mono hb35⟩, hfin⟩
      | exact ⟨a3, c3, rfl, ⟨hs3, HI3.out.mono hb35⟩, hfin⟩
end Go.Proofs.YtelmponkmmfffaaGreat
namespace Go.Proofs.YtelmponkmmfffaaGreat
open Go Go.RowKit Go.Shelf
attribute [local go_sem] store_fnL
/-- What marks of the four kinds do. -/
@[reducible] def actsV : Value := .agg #[.bool true, .bool false, .func (.func 121) #[] #[], .bool true, .bool true, .func (.func 122) #[] #[], .bool true, .bool false, .func (.func 123) #[] #[], .bool false, .bool true, .func (.func 124) #[] #[]]
set_option maxRecDepth 100000 in
set_option maxHeartbeats 4000000 in
theorem LActs_any (w : World) : Calls Tryz.prog 76 #[] w fun e w' => e = .returned actsV ∧ Below w.heap.size w w' := by
  go_enter Tryz.func76, Tryz.ntmps76
  go_wp2
  refine bodyPost_ret (v := actsV) ?_ rfl ⟨rfl, (Below.refl _ w).alloc (Nat.le_refl _) _⟩
  rw [results_one rfl]
  go_simp
theorem one_strs (w : World) (x : ByteArray) : StrsC (w.alloc (.cells #[.string x] 9)) (some ⟨w.heap.size, 0, none⟩) [x] := fun i hi => by
  have : i = 0 := by simpa using hi
  subst this
  exact ⟨w.heap.size, 0, rfl, by simp, blk_cell 0 (blk_new w _) rfl⟩
theorem LAct1_any (read own : ByteArray) (w : World) : Calls Tryz.prog 121 #[.string read, .string own] w fun e w' => ∃ a c, e = .returned (.slice a 1 c) ∧ SlOk a 1 c ∧ StrsC w' a [read] ∧ Below w.heap.size w w' := by
  go_enter Tryz.func121, Tryz.ntmps121
  go_wp2
  go_ret
  exact ⟨_, _, rfl, ⟨Nat.le_refl _, by omega, fun h => by cases h⟩, one_strs w read, (Below.refl _ w).alloc (Nat.le_refl _) _⟩
theorem LAct3_any (read own : ByteArray) (w : World) : Calls Tryz.prog 123 #[.string read, .string own] w fun e w' => ∃ a c, e = .returned (.slice a 0 c) ∧ SlOk a 0 c ∧ StrsC w' a [] ∧ Below w.heap.size w w' := by
  go_enter Tryz.func123, Tryz.ntmps123
  go_wp2
  go_ret
  exact ⟨none, 0, rfl, ⟨Nat.le_refl _, by omega, fun _ => rfl⟩, StrsC.nil _ _, Below.refl _ w⟩
theorem LAct4_any (read own : ByteArray) (w : World) : Calls Tryz.prog 124 #[.string read, .string own] w fun e w' => ∃ a c, e = .returned (.slice a 1 c) ∧ SlOk a 1 c ∧ StrsC w' a [own] ∧ Below w.heap.size w w' := by
  go_enter Tryz.func124, Tryz.ntmps124
  go_wp2
  go_ret
  exact ⟨_, _, rfl, ⟨Nat.le_refl _, by omega, fun h => by cases h⟩, one_strs w own, (Below.refl _ w).alloc (Nat.le_refl _) _⟩
theorem acts_index0 (w : World) : (Instr.index 150 actsV (.int .i64 0)).run Tryz.prog w = .ok (.agg #[.bool true, .bool false, .func (.func 121) #[] #[]]) w := by kernel_rfl
theorem acts_index1 (w : World) : (Instr.index 150 actsV (.int .i64 1)).run Tryz.prog w = .ok (.agg #[.bool true, .bool true, .func (.func 122) #[] #[]]) w := by kernel_rfl
theorem acts_index2 (w : World) : (Instr.index 150 actsV (.int .i64 2)).run Tryz.prog w = .ok (.agg #[.bool true, .bool false, .func (.func 123) #[] #[]]) w := by kernel_rfl
theorem acts_index3 (w : World) : (Instr.index 150 actsV (.int .i64 3)).run Tryz.prog w = .ok (.agg #[.bool false, .bool true, .func (.func 124) #[] #[]]) w := by kernel_rfl
theorem acts_field0 (w : World) : (Instr.field 149 (.agg #[.bool true, .bool false, .func (.func 121) #[] #[]]) 1).run Tryz.prog w = .ok (.bool false) w := by kernel_rfl
theorem acts_field1 (w : World) : (Instr.field 149 (.agg #[.bool true, .bool true, .func (.func 122) #[] #[]]) 1).run Tryz.prog w = .ok (.bool true) w := by kernel_rfl
theorem acts_field2 (w : World) : (Instr.field 149 (.agg #[.bool true, .bool false, .func (.func 123) #[] #[]]) 1).run Tryz.prog w = .ok (.bool false) w := by kernel_rfl
theorem acts_field3 (w : World) : (Instr.field 149 (.agg #[.bool false, .bool true, .func (.func 124) #[] #[]]) 1).run Tryz.prog w = .ok (.bool true) w := by kernel_rfl
end Go.Proofs.YtelmponkmmfffaaGreat
namespace Go.Proofs.YtelmponkmmfffaaGreat
open Go Go.RowKit Go.Shelf
theorem fills_app : ∀ (a b : List LeP) (m : List Int) (l : List ByteArray), fillsF (a ++ b) m l = fillsF a m l ++ fillsF b (m.drop (roomsF a).length) (l.drop (shapeF a m).length)
  | [], b, m, l => by simp [fillsF, roomsF, shapeF]
  | p :: a, b, m, l => by
    simp only [List.cons_append, fillsF, roomsF, shapeF]
    split
    · rw [fills_app a b m.tail]
      simp only [List.cons_append, List.length_cons, List.length_append, List.length_replicate, List.drop_drop]
      congr 3
      cases m <;> simp
    · rw [fills_app a b m]
      simp only [List.length_append, List.drop_drop]
theorem fills_yes {ps : List LeP} {m : List Int} {l : List ByteArray} {k : Nat} (h : k < ps.length) (h0 : ps[k].words.length = 0) : fillsF (ps.take (k + 1)) m l = fillsF (ps.take k) m l ++ [(l.drop (shapeF (ps.take k) m).length).take (m[(roomsF (ps.take k)).length]?.getD 0).toNat] := by
  rw [← List.take_append_getElem h, fills_app]
  congr 1
  simp [fillsF, h0]
theorem fills_no {ps : List LeP} {m : List Int} {l : List ByteArray} {k : Nat} (h : k < ps.length) (h0 : ps[k].words.length ≠ 0) : fillsF (ps.take (k + 1)) m l = fillsF (ps.take k) m l := by
  rw [← List.take_append_getElem h, fills_app]
  simp [fillsF, h0]
theorem fit_len {a b : List ByteArray} (h : fitL a b = true) : a.length = b.length := ((fit_iff a b).1 h).1
theorem shape_pre (ps : List LeP) (m : List Int) (k : Nat) : (shapeF (ps.take k) m).length ≤ (shapeF ps m).length := by
  have : shapeF ps m = shapeF (ps.take k) m ++ shapeF (ps.drop k) (m.drop (roomsF (ps.take k)).length) := by rw [← shape_app, List.take_append_drop]
  rw [this]
  simp
/-- A list of words that a call has made. -/
def RowS (W : World) (v : Value) (l : List ByteArray) : Prop := ∃ g c, v = .slice (some ⟨g, 0, none⟩) l.length c ∧ l.length ≤ c ∧ c ≤ 9223372036854775807 ∧ W.heap[g]? = some (.cells (l.map Value.string).toArray 9 (0, 0))
theorem RowS.mono {W V : World} {v : Value} {l : List ByteArray} (h : RowS W v l) (hb : Below W.heap.size W V) : RowS V v l := by
  obtain ⟨g, c, e, h1, h2, h3⟩ := h
  exact ⟨g, c, e, h1, h2, (hb.block _ (lt_of_block h3)).trans h3⟩
theorem RowS.grown {W V : World} {v u : Value} {l : List ByteArray} {base n : Nat} {xs : List Value} (h : RowS W v l) (ho : W.ownsRow base 44 1 u n xs) (hg : W.grownBy V u.ownBlock) : RowS V v l := by
  obtain ⟨g, c, e, h1, h2, h3⟩ := h
  refine ⟨g, c, e, h1, h2, (hg.block g (lt_of_block h3) (fun e => ?_)).trans h3⟩
  rcases ho.2 with ⟨rfl, _⟩ | ⟨g', cap, cur, rfl, _, hg', _⟩
  · simp [Value.ownBlock] at e
  · simp [Value.ownBlock] at e
    subst e
    rw [h3] at hg'
    have := Option.some.inj hg'
    injection this with _ ht _
    exact absurd ht (by decide)
/-- Lists of words that a call has made, one by one. -/
def RowsS (W : World) (vs : List Value) (L : List (List ByteArray)) : Prop := vs.length = L.length ∧ ∀ i (h1 : i < vs.length) (h2 : i < L.length), RowS W vs[i] L[i]
theorem RowsS.nil (W : World) : RowsS W [] [] := ⟨rfl, fun i h => by simp at h⟩
theorem RowsS.mono {W V : World} {vs : List Value} {L : List (List ByteArray)} (h : RowsS W vs L) (hb : Below W.heap.size W V) : RowsS V vs L := ⟨h.1, fun i h1 h2 => (h.2 i h1 h2).mono hb⟩
theorem RowsS.grown {W V : World} {vs : List Value} {L : List (List ByteArray)} {u : Value} {base n : Nat} {xs : List Value} (h : RowsS W vs L) (ho : W.ownsRow base 44 1 u n xs) (hg : W.grownBy V u.ownBlock) : RowsS V vs L := ⟨h.1, fun i h1 h2 => (h.2 i h1 h2).grown ho hg⟩
theorem RowsS.snoc {W : World} {vs : List Value} {L : List (List ByteArray)} {v : Value} {l : List ByteArray} (h : RowsS W vs L) (hv : RowS W v l) : RowsS W (vs ++ [v]) (L ++ [l]) := by
  refine ⟨by simp [h.1], fun i h1 h2 => ?_⟩
  by_cases hi : i < vs.length
  · have hi2 : i < L.length := by have := h.1; omega
    rw [List.getElem_append_left hi, List.getElem_append_left hi2]
    exact h.2 i hi hi2
  · have e1 : i = vs.length := by simp at h1; omega
    subst e1
    have e2 : vs.length = L.length := h.1
    simp [e2, hv]
theorem strs_blk {W : World} {g : Nat} {t : TypeId} {l : List ByteArray} (h : W.heap[g]? = some (.cells (l.map Value.string).toArray t (0, 0))) : StrsC W (some ⟨g, 0, none⟩) l := fun i hi =>
  ⟨g, 0, rfl, lt_of_block h, by rw [Nat.zero_add]; exact blk_cell i h (by simp [hi])⟩
/-- What the call has collected reads as lists of words. -/
theorem StrRowsC.of_own {w : World} {base : Nat} {v : Value} {n : Nat} {vs : List Value} {L : List (List ByteArray)} (h : w.ownsRow base 44 1 v n vs) (hr : RowsS w vs L) : ∃ a c, v = .slice a L.length c ∧ SlOk a L.length c ∧ StrRowsC w a L := by
  have hn : vs.length = n := by simpa using h.1
  have hl := hr.1
  rcases h.2 with ⟨rfl, h0⟩ | ⟨g, cap, cur, rfl, _, hg, h1, h2, h3, h4⟩
  · have : L = [] := List.eq_nil_of_length_eq_zero (by omega)
    subst this
    exact ⟨none, 0, rfl, ⟨Nat.le_refl _, by omega, fun _ => rfl⟩, fun i hi => absurd hi (Nat.not_lt_zero i)⟩
  · have hm : maxLen = 9223372036854775807 := rfl
    have e : n = L.length := by omega
    subst e
    refine ⟨some ⟨g, 0, none⟩, cap, rfl, ⟨h1, by omega, fun h => by cases h⟩, fun i hi => ?_⟩
    obtain ⟨g2, c2, e2, k1, k2, k3⟩ := hr.2 i (by omega) hi
    refine ⟨g, 0, some ⟨g2, 0, none⟩, c2, rfl, (Array.getElem?_eq_some_iff.1 hg).1, ?_, ⟨k1, k2, fun h => by cases h⟩, strs_blk k3⟩
    have := h.cells (g := g) rfl i vs[i] (by simp [show i < vs.length by omega])
    rw [e2] at this
    simpa [Addr.add_lit] using this
theorem E_strs : ElemInfo Tryz.prog 47 44 (.slice none 0 0) 1 24 := ⟨by kernel_rfl, by kernel_rfl, rfl, by decide⟩
theorem str_zeros (n : Nat) : madeCells #[Value.string ⟨#[]⟩] n = ((List.replicate n noW).map Value.string).toArray := by
  unfold madeCells
  apply Array.ext
  · simp
  · intro i h1 h2
    simp [noW, Nat.mod_one]
theorem made_str (n : Nat) (hn : n ≤ 6) (V : World) : (Instr.makeSlice 44 (.int .i64 (n : Int)) (.int .i64 (n : Int))).run Tryz.prog V = .ok (.slice (some ⟨V.heap.size, 0, none⟩) n n) (V.alloc (.cells (Array.replicate n (.string noW)) 9)) := by
  obtain ⟨i, hi, hz, hsz, hby⟩ := info_parts E_str.info
  have := run_makeSlice (P := Tryz.prog) (w := V) 44 9 i _ E_str.und hi hz .i64 .i64 n n (by omega) (Int.le_refl _) (by rw [hsz, Int.toNat_natCast]; omega) (by rw [hby]; omega) (by omega)
  rw [hsz, Int.toNat_natCast, Nat.mul_one] at this
  have e := str_zeros n
  simp only [List.map_replicate, List.toArray_replicate] at e
  rw [← e]
  exact this
end Go.Proofs.YtelmponkmmfffaaGreat
namespace Go.Proofs.YtelmponkmmfffaaGreat
open Go Go.RowKit Go.Shelf
/-- The words of a letter from one on, where the slice of them lies. -/
theorem drop_src {W : World} {a : Option Addr} {l : List ByteArray} {c q n : Nat} (hi : StrsC W a l) (hn : a = none → c = 0) (hc : l.length ≤ c) (hq : q + n ≤ l.length) :
    0 < (((l.drop q).take n).map Value.string).length → ∃ ad, (if c = q then a else Option.map (fun x => x.add q) a) = some ad ∧ ∀ j v, (((l.drop q).take n).map Value.string)[j]? = some v → W.cell? (ad.add j) = some v := by
  intro hp
  simp at hp
  obtain ⟨b, off, rfl, hb, _⟩ := hi q (by omega)
  rw [if_neg (by omega)]
  refine ⟨_, rfl, fun j v hj => ?_⟩
  rw [List.getElem?_map] at hj
  obtain ⟨x, hx, rfl⟩ := Option.map_eq_some_iff.1 hj
  have hjn : j < n := by
    have := (List.getElem?_eq_some_iff.1 hx).1
    simp at this
    omega
  rw [List.getElem?_take_of_lt hjn, List.getElem?_drop] at hx
  obtain ⟨hlt, rfl⟩ := List.getElem?_eq_some_iff.1 hx
  obtain ⟨b', off', e, _, hcell⟩ := hi (q + j) hlt
  cases e
  show W.cell? ((Addr.add ⟨b, off, none⟩ q).add j) = _
  rw [Addr.add_lit, Addr.add_lit, Nat.add_assoc]
  exact hcell
set_option maxRecDepth 100000 in
set_option maxHeartbeats 16000000 in
theorem LFills_any (af : Option Addr) (kf : Nat) (s : LeS) (n : Nat) (al : Option Addr) (l : List ByteArray) (cl : Nat) (w : World) (hm : ShelfC w af kf s) (hv : LeValid s) (hn : n < s.forms.length) (hol : SlOk al l.length cl) (hil : StrsC w al l) (hlet : letB l = true) (hways : 0 < (waysG s.forms[n].parts l).2.2) :
    Calls Tryz.prog 11 #[(.agg #[.int .i64 s.width, .slice af s.forms.length kf]), .int .i64 (n : Int), .slice al l.length cl] w fun e w' => ∃ a c, e = .returned (.tuple #[.slice a (fillsF s.forms[n].parts (waysG s.forms[n].parts l).2.1 l).length c, .int .i64 ((waysG s.forms[n].parts l).2.2 : Int), .int .i64 0]) ∧ SlOk a (fillsF s.forms[n].parts (waysG s.forms[n].parts l).2.1 l).length c ∧ StrRowsC w' a (fillsF s.forms[n].parts (waysG s.forms[n].parts l).2.1 l) ∧ Below w.heap.size w w' := by
  obtain ⟨X, hX⟩ : ∃ X : World, X = w.alloc (.cells #[.int .i64 s.width, .slice af s.forms.length kf] 24) := ⟨_, rfl⟩
  have hwX : Below w.heap.size w X := by rw [hX]; exact (Below.refl _ w).alloc (Nat.le_refl _) _
  have g1 : X.heap[w.heap.size]? = some (.cells #[.int .i64 s.width, .slice af s.forms.length kf] 24 (0, 0)) := by rw [hX]; exact alloc_at _ _ rfl
  obtain ⟨y0, y1, y3⟩ : X.cell? ⟨w.heap.size, 0, none⟩ = some (.int .i64 s.width) ∧ X.cell? ⟨w.heap.size, 1, none⟩ = some (.slice af s.forms.length kf) ∧ w.heap.size < X.heap.size := ⟨blk_cell 0 g1 rfl, blk_cell 1 g1 rfl, lt_of_block g1⟩
  have E := Lib.hid (LEnter_any af kf s n X (hm.mono hwX) hv hn)
  have hfok := (hv.form n hn).2.2
  have hpok : ∀ p ∈ s.forms[n].parts, LePOk p := fun p hp => by obtain ⟨i, hi, rfl⟩ := List.getElem_of_mem hp; exact hfok.part i hi
  have hrk := rooms_ok _ hpok
  have hr5 : (roomsF s.forms[n].parts).length ≤ 5 := Nat.le_trans (rooms_len _) hfok.many
  have hco := counts_ok _ hrk
  have hwk := ways_ok (fun m => fitL (shapeF s.forms[n].parts m) l) (roomsF s.forms[n].parts).length hr5 (countsF (roomsF s.forms[n].parts)) hco
  rw [show waysOf (fun m => fitL (shapeF s.forms[n].parts m) l) (countsF (roomsF s.forms[n].parts)) = waysG s.forms[n].parts l from rfl] at hwk
  obtain ⟨hfm, hff⟩ := hwk.first hways
  have hfm := hco _ hfm
  have hnw := hwk.many
  have hcf := counts_few _ hrk
  have hn4 : (waysG s.forms[n].parts l).2.2 ≤ 1024 := by
    have h3 := Nat.pow_le_pow_right (by decide : 0 < 4) hr5
    omega
  obtain ⟨hl15, -⟩ := let_word hlet
  have HLT := Lib.hid (fun (V : World) (h : Below w.heap.size w V) => LLettered_any al l cl V (hil.mono h) hlet)
  have HWY := Lib.hid (fun (V : World) (h : Below w.heap.size w V) (p : Nat) (hF : FormW V p s.forms[n]) => LWays_any p s.forms[n] al l cl V hF hfok hol (hil.mono h))
  have HIL := Lib.hid (fun (V : World) (h : Below w.heap.size w V) => hil.mono h)
  have hp5 := hfok.many
  have hsz : (shapeF s.forms[n].parts (waysG s.forms[n].parts l).2.1).length = l.length := fit_len hff
  have hpk := Lib.hid hpok
  generalize waysG s.forms[n].parts l = ws at *
  generalize s.forms[n] = f at *
  obtain ⟨last, m, nw⟩ := ws
  simp only at hways hfm hff hn4 hsz ⊢
  have HMB := Lib.hid (mAt_bd hfm.2)
  have HSZ := Lib.hid hsz
  have hol2 := hol.1
  have hol3 := hol.2.1
  have hol4 := Lib.hid hol.2.2
  have HX := Lib.hid hX
  clear hX hm hv hfok hpok hrk hco hwk hnw hcf hil hlet g1 hff hsz hol
  have e0 : ((nw : Int) == 0) = false := eqi_f (by omega)
  go_enter Tryz.func11, Tryz.ntmps11
  go_upto_region 1 with (fail)
  rw [← HX.out]
  clear HX
  go_step3
  go_upto_if 22 with (go_at_call 44; go_must ((with_reducible refine E.out.mono ?_); rintro e w2 ⟨p, rfl, hpz, hFW, hb2⟩; dsimp only))
  have hw2 := hwX.trans (hb2.mono hwX.size)
  clear y0 y1 y3
  have LT := Lib.hid (HLT.out w2 hw2)
  go_upto_if 26 with (go_at_call 50; go_must ((with_reducible refine LT.out.mono ?_); rintro e w3 ⟨rfl, hb3⟩; dsimp only))
  have hw3 := hw2.trans (hb3.mono hw2.size)
  have WY := Lib.hid (HWY.out w3 hw3 p (hFW.mono hb3))
  go_upto_if 35 with (go_at_call 51; go_must ((with_reducible refine WY.out.mono ?_); rintro e w4 ⟨rfl, hb4⟩; dsimp only))
  obtain ⟨Z, hZ⟩ : ∃ Z : World, Z = w4.alloc (.cells (manyCells m) 106) := ⟨_, rfl⟩
  rw [← hZ]
  have hw4Z : Below w4.heap.size w4 Z := by rw [hZ]; exact (Below.refl _ _).alloc (Nat.le_refl _) _
  have gm : Z.heap[w4.heap.size]? = some (.cells (manyCells m) 106 (0, 0)) := by rw [hZ]; exact alloc_at _ _ rfl
  have hw4 := hw3.trans (hb4.mono hw3.size)
  have hwZ := hw4.trans (hw4Z.mono hw4.size)
  obtain ⟨ap, kp, ar, kr, HF, hop, hor⟩ := FormW.cells ((hFW.mono hb3).mono (hb4.trans (hw4Z.mono hb4.size)))
  have HF := Lib.hid HF
  have HM : Hid (∀ V, Below Z.heap.size Z V → ∀ q, q < 5 → V.cell? ⟨w4.heap.size, q, none⟩ = some (.int .i64 (mAt m q)) ∧ w4.heap.size < V.heap.size) := Lib.hid (fun V h q hq => by
    have g := (h.block _ (lt_of_block gm)).trans gm
    exact ⟨many_cell g q hq, lt_of_block g⟩)
  clear hZ gm hFW hb2 hb3 hb4 hw2 hw3 hw4 hw4Z LT WY E
  obtain ⟨⟨-, x1, -, xz⟩, -, -⟩ := HF.out Z (Below.refl _ _)
  go_upto_region 9 with (fail)
  go_upto_region 10 with (fail)
  go_step3
  go_upto_region 11 with (fail)
  go_loopw [6, 11, 42] (fun L q i V => ∃ (k : Nat) (vs : List Value), k ≤ f.parts.length ∧ q = .int .i64 ((shapeF (f.parts.take k) m).length : Int) ∧ i = .int .i64 k ∧ Below Z.heap.size Z V ∧ V.ownsRow Z.heap.size 44 1 L (roomsF (f.parts.take k)).length vs ∧ RowsS V vs (fillsF (f.parts.take k) m l)) (fun _ _ i _ => f.parts.length - (intOf i).toNat)
  case atStart => exact ⟨0, [], Nat.zero_le _, by simp [shapeF], rfl, Below.refl _ _, by simp only [List.take_zero, roomsF]; exact ⟨rfl, .inl ⟨rfl, rfl⟩⟩, by simp only [List.take_zero, fillsF]; exact RowsS.nil _⟩
  case round =>
    clear x1 xz
    rename World => V
    obtain ⟨k, vs, hk, rfl, rfl, hbw, hown, hrows⟩ := hrel
    by_cases hlt : k < f.parts.length
    · obtain ⟨-, HP, -⟩ := HF.out V hbw
      obtain ⟨b, off, e0, hb, ⟨aw, cw, r0, r1, r2⟩, r3, r4⟩ := HP k hlt
      obtain ⟨Y, hY⟩ : ∃ Y : World, Y = V.alloc (.cells #[.slice aw f.parts[k].words.length cw, .int .i64 f.parts[k].lo, .int .i64 f.parts[k].hi] 62) := ⟨_, rfl⟩
      have hYw : Below V.heap.size V Y := by rw [hY]; exact (Below.refl _ V).alloc (Nat.le_refl _) _
      have g2 : Y.heap[V.heap.size]? = some (.cells #[.slice aw f.parts[k].words.length cw, .int .i64 f.parts[k].lo, .int .i64 f.parts[k].hi] 62 (0, 0)) := by rw [hY]; exact alloc_at _ _ rfl
      have hZY := hbw.trans (hYw.mono hbw.size)
      have HO := Lib.hid (own_below hown hYw)
      have HRW := Lib.hid (hrows.mono hYw)
      have hlk := Lib.hid (shape_pre f.parts m k)
      have hlk2 := Lib.hid (shape_pre f.parts m (k + 1))
      have HSY := Lib.hid (fun h0 => shape_yes (m := m) hlt h0)
      have HSN := Lib.hid (fun h0 => shape_no (m := m) hlt h0)
      have HRY := Lib.hid (rooms_yes hlt)
      have HRN := Lib.hid (rooms_no hlt)
      have HFY := Lib.hid (fun h0 => fills_yes (m := m) (l := l) hlt h0)
      have HFN := Lib.hid (fun h0 => fills_no (m := m) (l := l) hlt h0)
      have hrk : (roomsF (f.parts.take k)).length ≤ k := Nat.le_trans (rooms_len _) (by rw [List.length_take]; omega)
      have y0 := blk_cell 0 g2 rfl
      simp only [List.getElem_toArray, List.getElem_cons_zero, List.getElem_cons_succ] at y0
      have yz := lt_of_block g2
      obtain ⟨mc, mz⟩ := HM.out Y hZY _ (show (roomsF (f.parts.take k)).length < 5 by omega)
      obtain ⟨mv, hmv⟩ : ∃ mv : Nat, mAt m (roomsF (f.parts.take k)).length = mv := ⟨(mAt m (roomsF (f.parts.take k)).length).toNat, by have := (HMB.out (roomsF (f.parts.take k)).length).1; omega⟩
      have hmv3 : mv ≤ 3 := by have := (HMB.out (roomsF (f.parts.take k)).length).2; omega
      have HMV := Lib.hid hmv
      rw [hmv] at mc
      subst e0
      have HY := Lib.hid hY
      clear hY hmv HP hrows hown
      generalize f.parts[k] = p at *
      by_cases h0 : p.words.length = 0
      · obtain ⟨av, cv, rfl⟩ := own_slice HO.out
        have hry := Lib.hid (show (roomsF (f.parts.take (k + 1))).length = (roomsF (f.parts.take k)).length + 1 by rw [HRY.out h0, List.length_append]; rfl)
        have hv2 := HMV.out
        unfold mAt at hv2
        have hsy := Lib.hid (show (shapeF (f.parts.take (k + 1)) m).length = (shapeF (f.parts.take k) m).length + mv by rw [HSY.out h0, hv2, List.length_append, List.length_replicate]; rfl)
        have hfy := Lib.hid (show fillsF (f.parts.take (k + 1)) m l = fillsF (f.parts.take k) m l ++ [(l.drop (shapeF (f.parts.take k) m).length).take mv] by rw [HFY.out h0, hv2]; rfl)
        have hbd : (shapeF (f.parts.take k) m).length + mv ≤ l.length := by have h1 := hsy.out; have h2 := hlk2.out; have h3 := HSZ.out; omega
        rw [h0] at r0 y0 HY g2
        clear HRY HRN HSY HSN HFY HFN r2 HMV hv2
        generalize hgq : (shapeF (f.parts.take k) m).length = q at *
        generalize hgr : (roomsF (f.parts.take k)).length = r at *
        have hq1 : (q : Int) ≤ (l.length : Int) := by omega
        have hq2 : (q : Int) ≤ (cl : Int) := by omega
        have hr5 : (r : Int) < 5 := by omega
        have hr9 : r ≤ 1000 := by omega
        have hwY := hwZ.trans (hZY.mono hwZ.size)
        go_upto_region 13 with (fail)
        rw [← HY.out]
        clear HY
        have hmk := made_str mv (by omega) Y
        go_upto_region 16 with (fail)
        clear hmk
        obtain ⟨U, hU⟩ : ∃ U : World, U = Y.alloc (.cells (Array.replicate mv (.string noW)) 9) := ⟨_, rfl⟩
        rw [← hU]
        have hYU : Below Y.heap.size Y U := by rw [hU]; exact (Below.refl _ _).alloc (Nat.le_refl _) _
        have gU : U.heap[Y.heap.size]? = some (.cells ((List.replicate mv noW).map Value.string).toArray 9 (0, 0)) := by rw [hU, List.map_replicate, List.toArray_replicate]; exact alloc_at _ _ rfl
        have hZU := hZY.trans (hYU.mono hZY.size)
        have hwU := hwY.trans (hYU.mono hwY.size)
        have hsrc := Lib.hid (drop_src (c := cl) (HIL.out U hwU) hol4.out hol2 hbd)
        have hcl := Lib.hid (show (((l.drop q).take mv).map Value.string).length = mv by simp; omega)
        clear hU mc mz y0 yz g2
        go_upto_region 17 with (refine Go.wpList_copy_splice rfl (.tmp 61) (.tmp 64) _ _ rfl 9 E_str.und (by kernel_rfl) (some ⟨Y.heap.size, 0, none⟩) (if cl = q then al else Option.map (fun x => x.add q) al) mv mv (l.length - q) (cl - q) rfl (by go_simp) Y.heap.size 0 ((List.replicate mv noW).map Value.string) 9 gU (((l.drop q).take mv).map Value.string) (by rw [hcl.out]; exact (Nat.min_eq_right (by omega)).symm) (fun h => ⟨rfl, hsrc.out h⟩) (by rw [hcl.out]; simp) (by intro v hv; obtain ⟨x, _, rfl⟩ := List.mem_map.1 hv; rfl) Y.heap.size U (Below.refl _ _) (Nat.le_refl _) ?_; intro w6 g6 hb6; rw [hcl.out]; simp only [Act.put, List.setIfInBounds_toArray, List.set_cons_succ, List.set_cons_zero])
        have hY6 : Below Y.heap.size Y w6 := hYU.trans hb6
        have hZ6 := hZY.trans (hY6.mono hZY.size)
        have HO6 := Lib.hid (own_below HO.out hY6)
        have hcl2 : ((l.drop q).take mv).length = mv := by simpa using hcl.out
        have hsp : Go.splice ((List.replicate mv noW).map Value.string) 0 (((l.drop q).take mv).map Value.string) = ((l.drop q).take mv).map Value.string := by
          unfold Go.splice
          have hd0 : ((List.replicate mv noW).map Value.string).drop (0 + mv) = [] := List.drop_of_length_le (by simp)
          rw [hcl.out, hd0, List.take_zero, List.append_nil, List.nil_append]
        have HR6 := Lib.hid ((HRW.out.mono hY6).snoc (v := .slice (some ⟨Y.heap.size, 0, none⟩) mv mv) (l := (l.drop q).take mv) ⟨Y.heap.size, mv, by rw [hcl2], by omega, by omega, by have := g6.out; rw [hsp] at this; exact this⟩)
        clear hsp g6 hb6 hYU hcl2
        go_wp2_with (at_builtin; go_must (refine wpList_app (.tmp 67) (.tmp 69) E_strs rfl rfl rfl rfl Z.heap.size r 1 vs [.slice (some ⟨Y.heap.size, 0, none⟩) mv mv] (HO6.out.alloc _) (SrcAt.one _ _ _ rfl) (by omega) (by decide) (by have := hZ6.size; simp; omega) ?_; intro v7 w7 ho7 hg7 _; have hb7 := app_next hZ6 (Nat.le_refl _) (Nat.le_refl _) HO6.out hg7; have HR7 := Lib.hid ((HR6.out.mono ((Below.refl _ _).alloc (Nat.le_refl _) _)).grown (HO6.out.alloc _) hg7); clear hg7; simp only [Act.put, List.setIfInBounds_toArray, List.set_cons_succ, List.set_cons_zero]))
        go_roundw
        case rel => exact ⟨k + 1, vs ++ [.slice (some ⟨Y.heap.size, 0, none⟩) mv mv], by omega, by rw [hsy.out]; go_num, by go_num, hb7, by rw [hry.out]; exact ho7, by rw [hfy.out]; exact HR7.out⟩
        case measure => simp [intOf]; omega
      · have hz : (0 : Int) < (p.words.length : Int) := by omega
        have hrn := Lib.hid (HRN.out h0)
        have hfn := Lib.hid (HFN.out h0)
        have hsn := Lib.hid (show (shapeF (f.parts.take (k + 1)) m).length = (shapeF (f.parts.take k) m).length + p.words.length by rw [HSN.out h0, List.length_append])
        have hbd : (shapeF (f.parts.take k) m).length + p.words.length ≤ 15 := by have h1 := hsn.out; have h2 := hlk2.out; have h3 := HSZ.out; omega
        clear HRY HRN HSY HSN HFY HFN r2 mc mz HMV
        generalize hgq : (shapeF (f.parts.take k) m).length = q at *
        go_upto_region 13 with (fail)
        rw [← HY.out]
        clear HY
        go_wp2
        go_roundw
        case rel => exact ⟨k + 1, vs, by omega, by rw [hsn.out]; go_num, by go_num, hZY, by rw [hrn.out]; exact HO.out, by rw [hfn.out]; exact HRW.out⟩
        case measure => simp [intOf]; omega
    · obtain rfl : k = f.parts.length := by omega
      rw [List.take_length] at hown hrows
      obtain ⟨a, c, rfl, s1, s2⟩ := StrRowsC.of_own hown hrows
      go_wp2
      (try rw [Exit.noGoto_ret])
      go_ret3
      exact ⟨a, c, rfl, s1, s2, hwZ.trans (hbw.mono hwZ.size)⟩
end Go.Proofs.YtelmponkmmfffaaGreat
namespace Go.Proofs.YtelmponkmmfffaaGreat
open Go Go.RowKit Go.Shelf
def isOf (s : LeS) (l : List ByteArray) (i : Nat) : Bool := decide (0 < (waysG ((s.forms[i]?.map LeF.parts).getD []) l).2.2)
def ofTo (s : LeS) (l : List ByteArray) (k : Nat) : List Int := ((List.range k).filter (isOf s l)).map fun (i : Nat) => (i : Int)
theorem ofTo_succ (s : LeS) (l : List ByteArray) (k : Nat) : ofTo s l (k + 1) = ofTo s l k ++ if isOf s l k = true then [(k : Int)] else [] := by
  unfold ofTo
  rw [List.range_succ, List.filter_append, List.map_append]
  congr 1
  by_cases h : isOf s l k = true <;> simp [h]
theorem ofTo_len (s : LeS) (l : List ByteArray) (k : Nat) : (ofTo s l k).length ≤ k := by
  unfold ofTo
  rw [List.length_map]
  exact Nat.le_trans (List.length_filter_le _ _) (by simp)
theorem ways_few {f : LeF} (hok : LeFOk f) (l : List ByteArray) : (waysG f.parts l).2.2 ≤ 1024 := by
  have hpok : ∀ p ∈ f.parts, LePOk p := fun p hp => by obtain ⟨i, hi, rfl⟩ := List.getElem_of_mem hp; exact hok.part i hi
  have hrk := rooms_ok _ hpok
  have hr5 : (roomsF f.parts).length ≤ 5 := Nat.le_trans (rooms_len _) hok.many
  have h1 := (ways_ok (fun m => fitL (shapeF f.parts m) l) (roomsF f.parts).length hr5 (countsF (roomsF f.parts)) (counts_ok _ hrk)).many
  have h2 := counts_few _ hrk
  have h3 := Nat.pow_le_pow_right (by decide : 0 < 4) hr5
  show (waysOf (fun m => fitL (shapeF f.parts m) l) (countsF (roomsF f.parts))).2.2 ≤ 1024
  omega
set_option maxRecDepth 100000 in
set_option maxHeartbeats 8000000 in
theorem LOf_any (af : Option Addr) (kf : Nat) (s : LeS) (al : Option Addr) (l : List ByteArray) (cl : Nat) (w : World) (hm : ShelfC w af kf s) (hv : LeValid s) (hol : SlOk al l.length cl) (hil : StrsC w al l) (hlet : letB l = true) :
    Calls Tryz.prog 21 #[(.agg #[.int .i64 s.width, .slice af s.forms.length kf]), .slice al l.length cl] w fun e w' => ∃ a c, e = .returned (.tuple #[.slice a (ofTo s l s.forms.length).length c, .int .i64 0]) ∧ SlOk a (ofTo s l s.forms.length).length c ∧ IntsC w' a (ofTo s l s.forms.length) ∧ Below w.heap.size w w' := by
  obtain ⟨X, hX⟩ : ∃ X : World, X = w.alloc (.cells #[.int .i64 s.width, .slice af s.forms.length kf] 24) := ⟨_, rfl⟩
  have hwX : Below w.heap.size w X := by rw [hX]; exact (Below.refl _ w).alloc (Nat.le_refl _) _
  have g1 : X.heap[w.heap.size]? = some (.cells #[.int .i64 s.width, .slice af s.forms.length kf] 24 (0, 0)) := by rw [hX]; exact alloc_at _ _ rfl
  replace g1 := fun (V : World) (h : Below X.heap.size X V) => (h.block _ (lt_of_block g1)).trans g1
  have HC : Hid (∀ V, Below X.heap.size X V → (V.cell? ⟨w.heap.size, 0, none⟩ = some (.int .i64 s.width) ∧ V.cell? ⟨w.heap.size, 1, none⟩ = some (.slice af s.forms.length kf) ∧ w.heap.size < V.heap.size)) := Lib.hid (fun V h => ⟨blk_cell 0 (g1 V h) rfl, blk_cell 1 (g1 V h) rfl, lt_of_block (g1 V h)⟩)
  have HM : Hid (∀ V, Below X.heap.size X V → ShelfC V af kf s) := Lib.hid (fun V h => (hm.mono hwX).mono h)
  obtain ⟨y0, y1, y3⟩ := HC.out X (Below.refl _ _)
  have C := Lib.hid (LCheck_any af kf s X (hm.mono hwX) hv)
  have HLT := Lib.hid (fun (V : World) (h : Below w.heap.size w V) => LLettered_any al l cl V (hil.mono h) hlet)
  have HIL := Lib.hid (fun (V : World) (h : Below w.heap.size w V) => hil.mono h)
  have hn4 := hv.many
  have HV := Lib.hid hv
  have hsl := hm.okf
  have HOL := Lib.hid hol
  have hll := hol.len
  have HX := Lib.hid hX
  clear hX hm hv g1 hil hlet hol
  go_enter Tryz.func21, Tryz.ntmps21
  go_upto_region 1 with (fail)
  rw [← HX.out]
  clear HX
  go_upto_if 17 with (go_at_call 68; go_must ((with_reducible refine C.out.mono ?_); rintro e w2 ⟨rfl, hb2⟩; obtain ⟨z0, z1, z3⟩ := HC.out _ hb2; dsimp only))
  clear y0 y1 y3
  have LT := Lib.hid (HLT.out w2 (hwX.trans (hb2.mono hwX.size)))
  go_upto_if 21 with (go_at_call 50; go_must ((with_reducible refine LT.out.mono ?_); rintro e w3 ⟨rfl, hb3⟩; dsimp only))
  have hX3 := hb2.trans (hb3.mono hb2.size)
  obtain ⟨y0, y1, y3⟩ := HC.out _ hX3
  clear z0 z1 z3 LT
  go_upto_region 7 with (fail)
  go_loopw [4, 26] (fun L i V => ∃ k : Nat, k ≤ s.forms.length ∧ i = .int .i64 k ∧ Below X.heap.size X V ∧ V.ownsRow X.heap.size 3 1 L (ofTo s l k).length ((ofTo s l k).map (Value.int .i64))) (fun _ i _ => s.forms.length - (intOf i).toNat)
  case atStart => exact ⟨0, Nat.zero_le _, rfl, hX3, ⟨rfl, .inl ⟨rfl, rfl⟩⟩⟩
  case round =>
    clear y0 y1 y3 hb2 hb3 hX3
    rename World => V
    obtain ⟨k, hk, rfl, hbw, hown⟩ := hrel
    by_cases hlt : k < s.forms.length
    · have hfok := (HV.out.form k hlt).2.2
      have hmw := HM.out V hbw
      obtain ⟨b, off, e0, hb, h1, ap, kp, h2, h3, h5⟩ := hmw.forms k hlt
      have hwk := ways_few hfok l
      have hio := ofTo_succ s l k
      have hise : isOf s l k = decide (0 < (waysG s.forms[k].parts l).2.2) := by unfold isOf; rw [List.getElem?_eq_getElem hlt]; rfl
      obtain ⟨Y, hY⟩ : ∃ Y : World, Y = V.alloc (.cells #[.string s.forms[k].name, .slice ap s.forms[k].parts.length kp] 43) := ⟨_, rfl⟩
      have hYw : Below V.heap.size V Y := by rw [hY]; exact (Below.refl _ V).alloc (Nat.le_refl _) _
      have hXY : Below X.heap.size X Y := hbw.trans (hYw.mono hbw.size)
      have hwY := hwX.trans (hXY.mono hwX.size)
      have g2 : Y.heap[V.heap.size]? = some (.cells #[.string s.forms[k].name, .slice ap s.forms[k].parts.length kp] 43 (0, 0)) := by rw [hY]; exact alloc_at _ _ rfl
      have HO := Lib.hid (own_below hown hYw)
      have LK := Lib.hid (LLook_any ap kp s.forms[k] Y h3 (h5.mono hYw) hfok.many)
      have WK := Lib.hid (fun (U : World) (h : Below w.heap.size w U) (p : Nat) (hF : FormW U p s.forms[k]) => LWays_any p s.forms[k] al l cl U hF hfok HOL.out (HIL.out U h))
      have f0 := blk_cell 0 g2 rfl
      have f1 := blk_cell 1 g2 rfl
      simp only [List.getElem_toArray, List.getElem_cons_zero, List.getElem_cons_succ] at f0 f1
      have fz := lt_of_block g2
      have hlk := ofTo_len s l k
      rw [hise] at hio
      subst e0
      clear hfok hmw h3 h5 hown g2 hise
      generalize s.forms[k] = x at *
      generalize waysG x.parts l = ws at *
      obtain ⟨last, m, n⟩ := ws
      simp only at hwk hio
      have HIO := Lib.hid hio
      have HY := Lib.hid hY
      clear hY hio
      go_upto_region 9 with (fail)
      rw [← HY.out]
      clear HY
      go_upto_if 39 with (first
        | (go_at_call 51; go_must ((with_reducible refine (WK.out w5 (hwY.trans (hb5.mono hwY.size)) p5 hF5).mono ?_); rintro e w6 ⟨rfl, hb6⟩; dsimp only))
        | (go_at_call 69; go_must ((with_reducible refine LK.out.mono ?_); rintro e w5 ⟨p5, rfl, hp5, hF5, hb5⟩; dsimp only)))
      have hY6 := hb5.trans (hb6.mono hb5.size)
      obtain ⟨U, hU⟩ : ∃ U : World, U = w6.alloc (.cells (manyCells m) 106) := ⟨_, rfl⟩
      rw [← hU]
      have hYU : Below Y.heap.size Y U := by rw [hU]; exact hY6.alloc hY6.size _
      have hXU := hXY.trans (hYU.mono hXY.size)
      have HOU := Lib.hid (own_below HO.out hYU)
      clear hU
      by_cases h0 : 0 < n
      · have h0I : (0 : Int) < (n : Int) := by omega
        have hrel2 := Lib.hid (show ofTo s l (k + 1) = ofTo s l k ++ [(k : Int)] by rw [HIO.out]; simp [h0])
        go_wp2_with (at_builtin; go_must (refine wpList_app (.tmp 40) (.tmp 42) E_int rfl rfl rfl rfl X.heap.size (ofTo s l k).length 1 ((ofTo s l k).map (Value.int .i64)) [.int .i64 (k : Int)] (HOU.out.alloc _) (SrcAt.one _ _ _ rfl) (by omega) (by decide) (by have := hXU.size; simp; omega) ?_; intro v7 w7 ho7 hg7 _; have hb7 := app_next hXU (Nat.le_refl _) (Nat.le_refl _) HOU.out hg7; clear hg7; simp only [Act.put, List.setIfInBounds_toArray, List.set_cons_succ, List.set_cons_zero]))
        go_roundw
        case rel => exact ⟨k + 1, by omega, by go_num, hb7, by rw [hrel2.out, List.length_append, List.map_append]; exact ho7⟩
        case measure => simp [intOf]; omega
      · have h0I : ¬ (0 : Int) < (n : Int) := by omega
        have hrel2 := Lib.hid (show ofTo s l (k + 1) = ofTo s l k by rw [HIO.out]; simp [h0])
        go_wp2
        go_roundw
        case rel => exact ⟨k + 1, by omega, by go_num, hXU, by rw [hrel2.out]; exact HOU.out⟩
        case measure => simp [intOf]; omega
    · obtain rfl : k = s.forms.length := by omega
      obtain ⟨a, c, hv9, s1, s2⟩ := IntsV.of_own hown
      subst hv9
      go_wp2
      go_ret2
      exact ⟨a, c, rfl, s1, s2, hwX.trans (hbw.mono hwX.size)⟩
end Go.Proofs.YtelmponkmmfffaaGreat
