/- What is proved here: contracts of letter.word and letter.worded at words, of letter.lettered at a letter in which nothing is wrong. -/
/- What is proved here: the contracts of letter.parted and letter.Check at a shelf in which nothing is wrong: it answers that. -/
/- What is proved here: the contract of letter.Check at a shelf in which nothing is wrong: it answers that. -/
/- What is proved here: the contract of letter.enter at a shelf in which nothing is wrong: the form that is looked at, or that there is none. -/
/- What is proved here: lists of words in memory, and slices of them. No condition but where they lie. -/
/- What is proved here: the contract of letter.Make at a shelf in which nothing is wrong, a form of it, and what can be put into its rooms. -/
import Derived.Test.YtelmponkmmfffaaGreatLeOffG
import Derived.Test.YtelmponkmmfffaaGreatCmpG
import Derived.Laws.ResultCell
set_option linter.unusedVariables false
set_option linter.unusedSimpArgs false
namespace Go.Proofs.YtelmponkmmfffaaGreat
open Go Go.RowKit
theorem word_size {s : ByteArray} (h : wordB s = true) : 1 ≤ s.size ∧ s.size ≤ 8 := by
  unfold wordB at h
  simp only [Bool.and_eq_true, decide_eq_true_eq] at h
  exact h.1
theorem word_byte {s : ByteArray} (h : wordB s = true) (k : Nat) (hk : k < s.size) : 97 ≤ s[k].toNat ∧ s[k].toNat ≤ 122 := by
  unfold wordB at h
  simp only [Bool.and_eq_true, decide_eq_true_eq, List.all_eq_true] at h
  exact h.2 s[k] (by
    rw [Array.mem_toList_iff]
    exact Array.getElem_mem hk)
set_option maxHeartbeats 4000000 in
theorem LWordY_any (s : ByteArray) (w : World) (hs : wordB s = true) :
    Calls Tryz.prog 78 #[.string s] w fun e w' => e = .returned (.bool true) ∧ Below w.heap.size w w' := by
  obtain ⟨z1, z2⟩ := word_size hs
  have HB := Lib.hid (word_byte hs)
  have hmx : s.size ≤ 9223372036854775807 := by omega
  have O := Lib.hid (fun (W : World) (a : Nat) hc => LOffOne_any (s.size : Int) 1 8 a W hc)
  have hin := Lib.hid (show inB (s.size : Int) 1 8 = true by unfold inB; simp; omega)
  clear hs
  go_enter Tryz.func78, Tryz.ntmps78
  go_wp2
  go_loopw [4] (fun x w' => ∃ pos : Nat, pos ≤ s.size ∧ w' = w.iter s pos) (fun _ w' => s.size - w'.iterPos w.heap.size)
  case atStart => exact ⟨0, Nat.zero_le _, rfl⟩
  case round =>
    obtain ⟨pos, hpl, rfl⟩ := hrel
    by_cases hp : pos < s.size
    · have hnx := fun ty => run_next_any (P := Tryz.prog) w s pos ty hp
      obtain ⟨b1, b2⟩ := HB.out pos hp
      rw [decode_ascii s pos hp (by omega)] at hnx
      simp only at hnx
      generalize s[pos].toNat = R at hnx b1 b2
      have e4 : ¬ (R : Int) < 97 := by omega
      have e5 : ¬ (122 : Int) < (R : Int) := by omega
      go_wp2
      exact ⟨⟨pos + 1, by omega, rfl⟩, by simp; omega⟩
    · obtain rfl : pos = s.size := by omega
      have hnx := fun ty => run_next_end (P := Tryz.prog) w s s.size ty hp
      go_wp2_with fail
      refine (O.out _ _ ?_).mono ?_
      · exact blk_cell 0 (blk_new _ _) rfl
      · rintro e w2 ⟨rfl, hb⟩
        rw [hin.out]
        dsimp only
        go_wp2
        go_ret
        exact ⟨ret_bool rfl, ((below_iter w s s.size).alloc (by simp [World.iter]) _).trans (hb.mono (by simp [World.iter]; omega))⟩
set_option maxHeartbeats 1000000 in
theorem LWorded1_any (s : ByteArray) (w : World) (hs : wordB s = true) :
    Calls Tryz.prog 95 #[.string s] w fun e w' => e = .returned (.bool false) ∧ Below w.heap.size w w' := by
  have C := Lib.hid (LWordY_any s w hs)
  go_enter Tryz.func95, Tryz.ntmps95
  go_wp2_with fail
  refine C.out.mono ?_
  rintro e w2 ⟨rfl, hb⟩
  dsimp only
  go_wp2
  go_ret
  exact ⟨ret_bool rfl, hb⟩
set_option maxHeartbeats 2000000 in
theorem LWordedIdx_any (a : Option Addr) (l : List ByteArray) (c : Nat) (w : World) (hl : l.length ≤ 9223372036854775807) (hi : StrsC w a l) (hw : ∀ i (hi : i < l.length), wordB l[i] = true) :
    Calls Tryz.prog 131 #[.slice a l.length c, .func (.func 95) #[] #[]] w fun e w' => e = .returned (.int .i64 (-1)) ∧ Below w.heap.size w w' := by
  have HI := Lib.hid (fun (V : World) (h : Below w.heap.size w V) => hi.mono h)
  have HW := Lib.hid hw
  clear hi hw
  go_enter Tryz.func131, Tryz.ntmps131
  go_wp2
  go_loopw [8] (fun i V => ∃ k : Nat, k ≤ l.length ∧ i = .int .i64 k ∧ Below w.heap.size w V) (fun i _ => l.length - (intOf i).toNat)
  case atStart => exact ⟨0, Nat.zero_le _, rfl, Below.refl _ _⟩
  case round =>
    obtain ⟨k, hk, rfl, hV⟩ := hrel
    by_cases hlt : k < l.length
    · obtain ⟨b, off, rfl, hb, hx⟩ := HI.out wr hV k hlt
      have C := LWorded1_any l[k] wr (HW.out k hlt)
      generalize l[k] = s at hx C
      have C := Lib.hid C
      go_wp2_with (go_at_call 95; go_must (refine C.out.mono ?_; rintro e w2 ⟨rfl, hb2⟩; dsimp only))
      go_roundw
      case rel => exact ⟨k + 1, by omega, by go_num, hV.trans (hb2.mono hV.size)⟩
      case measure => simp [intOf]; omega
    · obtain rfl : k = l.length := by omega
      go_wp2
      go_ret
      exact ⟨rfl, hV⟩
set_option maxHeartbeats 1000000 in
theorem LWorded_any (a : Option Addr) (l : List ByteArray) (c : Nat) (w : World) (hl : l.length ≤ 9223372036854775807) (hi : StrsC w a l) (hw : ∀ i (hi : i < l.length), wordB l[i] = true) :
    Calls Tryz.prog 46 #[.slice a l.length c] w fun e w' => e = .returned (.int .i64 0) ∧ Below w.heap.size w w' := by
  have C := LWordedIdx_any a l c w hl hi hw
  have D : Calls Tryz.prog 94 #[.slice a l.length c, .func (.func 95) #[] #[]] w fun e w' => e = .returned (.bool false) ∧ Below w.heap.size w w' := by
    have C := Lib.hid C
    clear hi hw
    go_enter Tryz.func94, Tryz.ntmps94
    go_wp2_with (go_at_call 131; go_must (refine C.out.mono ?_; rintro e w2 ⟨rfl, hb⟩; dsimp only))
    go_ret
    exact ⟨ret_bool rfl, hb⟩
  have D := Lib.hid D
  clear C hi hw
  go_enter Tryz.func46, Tryz.ntmps46
  go_wp2_with (go_at_call 94; go_must (refine D.out.mono ?_; rintro e w2 ⟨rfl, hb⟩; dsimp only))
  go_ret
  exact ⟨rfl, hb⟩
theorem let_word {l : List ByteArray} (h : letB l = true) : l.length ≤ 15 ∧ ∀ i (hi : i < l.length), wordB l[i] = true := by
  unfold letB at h
  simp only [Bool.and_eq_true, decide_eq_true_eq, List.all_eq_true] at h
  exact ⟨h.1, fun i hi => h.2 _ (List.getElem_mem hi)⟩
set_option maxHeartbeats 1000000 in
theorem LLettered_any (a : Option Addr) (l : List ByteArray) (c : Nat) (w : World) (hi : StrsC w a l) (hw : letB l = true) :
    Calls Tryz.prog 50 #[.slice a l.length c] w fun e w' => e = .returned (.int .i64 0) ∧ Below w.heap.size w w' := by
  obtain ⟨h15, h2⟩ := let_word hw
  have D := Lib.hid (LWorded_any a l c w (by omega) hi h2)
  clear h2 hi hw
  go_enter Tryz.func50, Tryz.ntmps50
  go_wp2_with (go_at_call 46; go_must (refine D.out.mono ?_; rintro e w2 ⟨rfl, hb⟩; dsimp only))
  go_ret
  exact ⟨rfl, hb⟩
end Go.Proofs.YtelmponkmmfffaaGreat
namespace Go.Proofs.YtelmponkmmfffaaGreat
open Go Go.RowKit Go.Shelf
set_option maxRecDepth 100000 in
set_option maxHeartbeats 4000000 in
theorem LParted_any (aw : Option Addr) (cw : Nat) (p : LeP) (w : World) (ho : SlOk aw p.words.length cw) (hi : StrsC w aw p.words) (hv : LePOk p) :
    Calls Tryz.prog 116 #[.agg #[.slice aw p.words.length cw, .int .i64 p.lo, .int .i64 p.hi]] w fun e w' => e = .returned (.int .i64 0) ∧ Below w.heap.size w w' := by
  have hm := hv.many
  obtain ⟨X, hX⟩ : ∃ X : World, X = w.alloc (.cells #[.slice aw p.words.length cw, .int .i64 p.lo, .int .i64 p.hi] 62) := ⟨_, rfl⟩
  have hwX : Below w.heap.size w X := by rw [hX]; exact (Below.refl _ w).alloc (Nat.le_refl _) _
  have g1 : X.heap[w.heap.size]? = some (.cells #[.slice aw p.words.length cw, .int .i64 p.lo, .int .i64 p.hi] 62 (0, 0)) := by rw [hX]; exact alloc_at _ _ rfl
  replace g1 := fun (V : World) (h : Below X.heap.size X V) => (h.block _ (lt_of_block g1)).trans g1
  have HC : Hid (∀ V, Below X.heap.size X V → (V.cell? ⟨w.heap.size, 0, none⟩ = some (.slice aw p.words.length cw) ∧ V.cell? ⟨w.heap.size, 1, none⟩ = some (.int .i64 p.lo) ∧ V.cell? ⟨w.heap.size, 2, none⟩ = some (.int .i64 p.hi) ∧ w.heap.size < V.heap.size)) := Lib.hid (fun V h => ⟨blk_cell 0 (g1 V h) rfl, blk_cell 1 (g1 V h) rfl, blk_cell 2 (g1 V h) rfl, lt_of_block (g1 V h)⟩)
  have D := Lib.hid (LWorded_any aw p.words cw X (by omega) (hi.mono hwX) hv.word)
  obtain ⟨y0, y1, y2, y3⟩ := HC.out X (Below.refl _ _)
  clear g1 hi ho
  by_cases h0 : p.words = []
  · obtain ⟨a1, a2, a3, a4⟩ := hv.room h0
    have hin := Lib.hid (show (inB p.lo 0 3 && inB p.hi 0 3) = true by unfold inB; simp; omega)
    clear hv
    have hl0 : p.words.length = 0 := by rw [h0]; rfl
    rw [hl0] at D y0 HC hX
    rw [hl0]
    have O := Lib.hid (fun (W : World) (a : Nat) hc hd => LOffTwo_any p.lo p.hi 0 3 a W hc hd)
    have e1 : ¬ p.hi < p.lo := by omega
    have e2 : (p.hi == 0) = false := eqi_f (by omega)
    clear hl0 h0 hm
    have HX := Lib.hid hX
    clear hX
    go_enter Tryz.func116, Tryz.ntmps116
    go_upto_region 1 with (fail)
    rw [← HX.out]
    clear HX
    go_wp2_with (first | (go_at_call 45; go_must ((with_reducible refine (O.out _ _ ?_ ?_).mono ?_); exact (blk_cell 0 (blk_new _ _) rfl); exact (blk_cell 1 (blk_new _ _) rfl); rintro e w3 ⟨rfl, hb3⟩; rw [hin.out]; have hw3 := hwX3.trans (((Below.refl _ _).alloc (Nat.le_refl _) _).trans (hb3.mono (by simp)) |>.mono hwX3.size); obtain ⟨z0, z1, z2, z3⟩ := HC.out _ hw3; dsimp only)) | (go_at_call 46; go_must (refine D.out.mono ?_; rintro e w2 ⟨rfl, hb⟩; have hwX3 := hb; obtain ⟨z0, z1, z2, z3⟩ := HC.out w2 hb; dsimp only)))
    go_ret
    exact ⟨rfl, hwX.trans (hw3.mono hwX.size)⟩
  · obtain ⟨a1, a2⟩ := hv.given h0
    have hl0 : (p.words.length : Int) ≠ 0 := fun e => h0 (List.eq_nil_of_length_eq_zero (by omega))
    have hpos : (0 : Int) < (p.words.length : Int) := by omega
    have hm3 : ¬ (3 : Int) < (p.words.length : Int) := by omega
    rw [a1] at y1
    rw [a2] at y2
    have HC2 : Hid (∀ V, Below X.heap.size X V → (V.cell? ⟨w.heap.size, 0, none⟩ = some (.slice aw p.words.length cw) ∧ V.cell? ⟨w.heap.size, 1, none⟩ = some (.int .i64 0) ∧ V.cell? ⟨w.heap.size, 2, none⟩ = some (.int .i64 0) ∧ w.heap.size < V.heap.size)) := Lib.hid (fun V h => by have := HC.out V h; rw [a1, a2] at this; exact this)
    rw [a1, a2] at hX
    rw [a1, a2]
    have HX := Lib.hid hX
    clear hX hv hm h0 HC
    go_enter Tryz.func116, Tryz.ntmps116
    go_upto_region 1 with (fail)
    rw [← HX.out]
    clear HX
    go_wp2_with (go_at_call 46; go_must (refine D.out.mono ?_; rintro e w2 ⟨rfl, hb⟩; have hwX3 := hb; obtain ⟨z0, z1, z2, z3⟩ := HC2.out w2 hb; dsimp only))
    go_ret
    exact ⟨rfl, hwX.trans (hwX3.mono hwX.size)⟩
end Go.Proofs.YtelmponkmmfffaaGreat
namespace Go.Proofs.YtelmponkmmfffaaGreat
open Go Go.RowKit Go.Shelf
theorem LSame_any (x : LeF) (ap : Option Addr) (kp : Nat) (s : ByteArray) (B : Nat) (w : World) (hne : x.name ≠ s) (c0 : w.cell? ⟨B, 0, none⟩ = some (.string s)) :
    Calls Tryz.prog 115 #[.agg #[.string x.name, .slice ap x.parts.length kp], .pointer (some ⟨B, 0, none⟩)] w fun e w' => e = .returned (.bool false) ∧ Below w.heap.size w w' := by
  have hB := lt_of_cell c0
  have h2 := str_eq x.name s
  have h3 : decide (x.name = s) = false := decide_eq_false hne
  rw [h3] at h2
  generalize x.name = name at h2
  clear h3 hne
  go_enter Tryz.func115, Tryz.ntmps115
  go_wp2
  go_ret
  exact ⟨ret_bool (by first | exact h2 | simp [h2]), by go_grown⟩
set_option maxHeartbeats 1000000 in
theorem LContains_any (a : Option Addr) (l : List LeF) (c : Nat) (s : ByteArray) (B : Nat) (w : World) (hl : l.length ≤ 9223372036854775807) (hi : FormsC w a l) (hne : ∀ i (hi : i < l.length), l[i].name ≠ s) (c0 : w.cell? ⟨B, 0, none⟩ = some (.string s)) :
    Calls Tryz.prog 114 #[.slice a l.length c, .func (.func 115) #[] #[.pointer (some ⟨B, 0, none⟩)]] w fun e w' => e = .returned (.bool false) ∧ Below w.heap.size w w' := by
  have D : Calls Tryz.prog 137 #[.slice a l.length c, .func (.func 115) #[] #[.pointer (some ⟨B, 0, none⟩)]] w fun e w' => e = .returned (.int .i64 (-1)) ∧ Below w.heap.size w w' := by
    have HI := Lib.hid (fun (V : World) (h : Below w.heap.size w V) => hi.mono h)
    have HN := Lib.hid hne
    clear hi hne
    go_enter Tryz.func137, Tryz.ntmps137
    go_wp2
    go_loopw [8] (fun i wr => ∃ k : Nat, k ≤ l.length ∧ i = .int .i64 k ∧ Below w.heap.size w wr) (fun i _ => l.length - (intOf i).toNat)
    case atStart => exact ⟨0, Nat.zero_le _, rfl, Below.refl _ _⟩
    case round =>
      obtain ⟨k, hk, rfl, hbw⟩ := hrel
      by_cases hlt : k < l.length
      · obtain ⟨b, off, rfl, hb, h1, ap, kp, h2, h3, h4⟩ := HI.out wr hbw k hlt
        have S := LSame_any l[k] ap kp s B wr (HN.out k hlt) (cell_below hbw c0)
        clear h3 h4
        generalize l[k] = x at S h1 h2
        have S := Lib.hid S
        go_wp2_with (go_at_call 115; go_must ((with_reducible refine S.out.mono ?_); rintro e w2 ⟨rfl, hb2⟩; have hbn := hbw.trans (hb2.mono hbw.size); dsimp only))
        go_roundw
        case rel => exact ⟨k + 1, by omega, by go_num, hbn⟩
        case measure => simp [intOf]; omega
      · obtain rfl : k = l.length := by omega
        go_wp2
        go_ret
        exact ⟨rfl, hbw⟩
  have D := Lib.hid D
  clear hi hne
  go_enter Tryz.func114, Tryz.ntmps114
  go_wp2_with (go_at_call 137; go_must ((with_reducible refine D.out.mono ?_); rintro e w2 ⟨rfl, hb⟩; dsimp only))
  go_ret
  exact ⟨ret_bool rfl, hb⟩
set_option maxRecDepth 100000 in
set_option maxHeartbeats 4000000 in
theorem LCheck_any (af : Option Addr) (kf : Nat) (s : LeS) (w : World) (hm : ShelfC w af kf s) (hv : LeValid s) :
    Calls Tryz.prog 68 #[(.agg #[.int .i64 s.width, .slice af s.forms.length kf])] w fun e w' => e = .returned (.tuple #[.int .i64 0, .int .i64 0, .int .i64 0]) ∧ Below w.heap.size w w' := by
  obtain ⟨X, hX⟩ : ∃ X : World, X = w.alloc (.cells #[.int .i64 s.width, .slice af s.forms.length kf] 24) := ⟨_, rfl⟩
  have hwX : Below w.heap.size w X := by rw [hX]; exact (Below.refl _ w).alloc (Nat.le_refl _) _
  have g1 : X.heap[w.heap.size]? = some (.cells #[.int .i64 s.width, .slice af s.forms.length kf] 24 (0, 0)) := by rw [hX]; exact alloc_at _ _ rfl
  replace g1 := fun (V : World) (h : Below X.heap.size X V) => (h.block _ (lt_of_block g1)).trans g1
  have HC : Hid (∀ V, Below X.heap.size X V → (V.cell? ⟨w.heap.size, 0, none⟩ = some (.int .i64 s.width) ∧ V.cell? ⟨w.heap.size, 1, none⟩ = some (.slice af s.forms.length kf) ∧ w.heap.size < V.heap.size)) := Lib.hid (fun V h => ⟨blk_cell 0 (g1 V h) rfl, blk_cell 1 (g1 V h) rfl, lt_of_block (g1 V h)⟩)
  have HM : Hid (∀ V, Below X.heap.size X V → ShelfC V af kf s) := Lib.hid (fun V h => (hm.mono hwX).mono h)
  obtain ⟨y0, y1, y3⟩ := HC.out X (Below.refl _ _)
  have hw := hv.width
  have hn := hv.many
  have HV := Lib.hid hv
  have O := Lib.hid (fun (W : World) (a : Nat) hc => LOffOne_any s.width 8 30 a W hc)
  have hin := Lib.hid (show inB s.width 8 30 = true by unfold inB; simp; omega)
  have hsl := hm.okf
  have h4 : ¬ (4 : Int) < (s.forms.length : Int) := by omega
  have HX := Lib.hid hX
  clear hX hm hv g1
  go_enter Tryz.func68, Tryz.ntmps68
  go_upto_region 1 with (fail)
  rw [← HX.out]
  clear HX
  go_upto_region 6 with (go_at_call 45; go_must ((with_reducible refine (O.out _ _ ?_).mono ?_); exact (blk_cell 0 (blk_new _ _) rfl); rintro e w3 ⟨rfl, hb3⟩; rw [hin.out]; have hw3 := ((Below.refl _ _).alloc (Nat.le_refl _) _).trans (hb3.mono (by simp)); obtain ⟨z0, z1, z3⟩ := HC.out _ hw3; dsimp only))
  go_loopw [22] (fun i wr => ∃ k : Nat, k ≤ s.forms.length ∧ i = .int .i64 k ∧ Below X.heap.size X wr) (fun i _ => s.forms.length - (intOf i).toNat)
  case atStart => exact ⟨0, Nat.zero_le _, rfl, hw3⟩
  case round =>
    clear z0 z1 z3 y0 y1 y3 hb3 hw3
    obtain ⟨k, hk, rfl, hbw⟩ := hrel
    obtain ⟨y0, y1, y3⟩ := HC.out wr hbw
    by_cases hlt : k < s.forms.length
    · obtain ⟨hname, hneq, hfok⟩ := HV.out.form k hlt
      have hmw := HM.out wr hbw
      have hsz := hmw.nsize _ (List.getElem_mem hlt)
      obtain ⟨b, off, e0, hb, h1, ap, kp, h2, h3, h5⟩ := hmw.forms k hlt
      have hlk : s.forms[k].parts.length ≤ 5 := hfok.many
      obtain ⟨Y, hY⟩ : ∃ Y : World, Y = wr.alloc (.cells #[.string s.forms[k].name, .slice ap s.forms[k].parts.length kp] 43) := ⟨_, rfl⟩
      have hYw : Below wr.heap.size wr Y := by rw [hY]; exact (Below.refl _ wr).alloc (Nat.le_refl _) _
      have hXY : Below X.heap.size X Y := hbw.trans (hYw.mono hbw.size)
      have g2 : Y.heap[wr.heap.size]? = some (.cells #[.string s.forms[k].name, .slice ap s.forms[k].parts.length kp] 43 (0, 0)) := by rw [hY]; exact alloc_at _ _ rfl
      replace g2 := fun (V : World) (h : Below Y.heap.size Y V) => (h.block _ (lt_of_block g2)).trans g2
      have HF : Hid (∀ V, Below Y.heap.size Y V → (V.cell? ⟨wr.heap.size, 0, none⟩ = some (.string s.forms[k].name) ∧ V.cell? ⟨wr.heap.size, 1, none⟩ = some (.slice ap s.forms[k].parts.length kp) ∧ wr.heap.size < V.heap.size) ∧ (V.cell? ⟨w.heap.size, 0, none⟩ = some (.int .i64 s.width) ∧ V.cell? ⟨w.heap.size, 1, none⟩ = some (.slice af s.forms.length kf) ∧ w.heap.size < V.heap.size)) := Lib.hid (fun V h => ⟨⟨blk_cell 0 (g2 V h) rfl, blk_cell 1 (g2 V h) rfl, lt_of_block (g2 V h)⟩, HC.out V (hXY.trans (h.mono hXY.size))⟩)
      have hti : (s.forms.take k).length = k := by rw [List.length_take]; omega
      have N := Lib.hid (fun (W : World) => EarName_any s.forms[k].name W hsz)
      rw [hname] at N
      have K := Lib.hid (fun (V : World) (h : Below Y.heap.size Y V) => show Calls Tryz.prog 114 #[.slice af k kf, .func (.func 115) #[] #[.pointer (some ⟨wr.heap.size, 0, none⟩)]] V fun e w' => e = .returned (.bool false) ∧ Below V.heap.size V w' from by
        have := LContains_any af (s.forms.take k) kf s.forms[k].name wr.heap.size V (by omega) ((HM.out V (hXY.trans (h.mono hXY.size))).forms.take k) (fun i hi => by rw [List.getElem_take]; exact hneq i (by omega)) (HF.out V h).1.1
        rw [hti] at this
        exact this)
      have HP := Lib.hid (fun (V : World) (h : Below Y.heap.size Y V) => h5.mono ((hYw.mono (Nat.le_refl _)).trans (h.mono hYw.size)))
      have HK := Lib.hid (fun i (hi : i < s.forms[k].parts.length) => hfok.part i hi)
      have e1 : ¬ (5 : Int) < (s.forms[k].parts.length : Int) := by omega
      obtain ⟨f1, f2⟩ := HF.out Y (Below.refl _ _)
      clear hname hneq hfok hmw hsz h5 g2 hti
      generalize s.forms[k] = x at *
      have HY := Lib.hid hY
      clear hY
      subst e0
      go_upto_region 8 with (fail)
      rw [← HY.out]
      clear HY
      have hkf : (k : Int) ≤ kf := by have := hsl.1; omega
      obtain ⟨f0, f1, f3⟩ := f1
      go_upto_region 15 with (first
        | (go_at_call 114; go_must ((with_reducible refine (K.out _ hb2).mono ?_); rintro e w4 ⟨rfl, hb4⟩; have hb5 := hb2.trans (hb4.mono hb2.size); obtain ⟨⟨p0, p1, p2⟩, q0, q1, q2⟩ := HF.out w4 hb5; dsimp only))
        | (go_at_call 102; go_must ((with_reducible refine (N.out _).mono ?_); rintro e w2 ⟨rfl, hb2⟩; obtain ⟨⟨p0, p1, p2⟩, q0, q1, q2⟩ := HF.out w2 hb2; dsimp only)))
      go_loopw [50] (fun i wr => ∃ k : Nat, k ≤ x.parts.length ∧ i = .int .i64 k ∧ Below Y.heap.size Y wr) (fun i _ => x.parts.length - (intOf i).toNat)
      case atStart => exact ⟨0, Nat.zero_le _, rfl, hb5⟩
      case round =>
        clear hb5 hb4 hb2 p0 p1 p2 q0 q1 q2
        rename World => wr2
        obtain ⟨j, hj, rfl, hbj⟩ := hrel
        by_cases hjl : j < x.parts.length
        · obtain ⟨b2, off2, e2, hb2, ⟨aw, cw, r0, r1, r2⟩, r3, r4⟩ := HP.out wr2 hbj j hjl
          subst e2
          obtain ⟨Z, hZ⟩ : ∃ Z : World, Z = wr2.alloc (.cells #[.slice aw x.parts[j].words.length cw, .int .i64 x.parts[j].lo, .int .i64 x.parts[j].hi] 62) := ⟨_, rfl⟩
          have hZw : Below wr2.heap.size wr2 Z := by rw [hZ]; exact (Below.refl _ wr2).alloc (Nat.le_refl _) _
          have g3 : Z.heap[wr2.heap.size]? = some (.cells #[.slice aw x.parts[j].words.length cw, .int .i64 x.parts[j].lo, .int .i64 x.parts[j].hi] 62 (0, 0)) := by rw [hZ]; exact alloc_at _ _ rfl
          obtain ⟨z0, z1, z2⟩ : Z.cell? ⟨wr2.heap.size, 0, none⟩ = some (.slice aw x.parts[j].words.length cw) ∧ Z.cell? ⟨wr2.heap.size, 1, none⟩ = some (.int .i64 x.parts[j].lo) ∧ Z.cell? ⟨wr2.heap.size, 2, none⟩ = some (.int .i64 x.parts[j].hi) := ⟨blk_cell 0 g3 rfl, blk_cell 1 g3 rfl, blk_cell 2 g3 rfl⟩
          have D := Lib.hid (LParted_any aw cw x.parts[j] Z r1 (r2.mono hZw) (HK.out j hjl))
          have hYZ := hbj.trans (hZw.mono hbj.size)
          clear g3 r1 r2
          generalize x.parts[j] = p at *
          have HZ := Lib.hid hZ
          clear hZ
          go_upto_region 17 with (fail)
          rw [← HZ.out]
          clear HZ
          go_wp2_with (go_at_call 116; go_must (refine D.out.mono ?_; rintro e w5 ⟨rfl, hb5⟩; dsimp only))
          go_roundw
          case rel => exact ⟨j + 1, by omega, by go_num, hYZ.trans (hb5.mono hYZ.size)⟩
          case measure => simp [intOf]; omega
        · obtain rfl : j = x.parts.length := by omega
          go_wp2
          go_roundw
          case rel => exact ⟨k + 1, by omega, by go_num, hXY.trans (hbj.mono hXY.size)⟩
          case measure => simp [intOf]; omega
    · obtain rfl : k = s.forms.length := by omega
      go_wp2
      go_ret3
      exact ⟨rfl, hwX.trans (hbw.mono hwX.size)⟩
end Go.Proofs.YtelmponkmmfffaaGreat
namespace Go.Proofs.YtelmponkmmfffaaGreat
open Go Go.RowKit Go.Shelf
set_option maxRecDepth 100000 in
set_option maxHeartbeats 4000000 in
theorem LEnter_any (af : Option Addr) (kf : Nat) (s : LeS) (n : Nat) (w : World) (hm : ShelfC w af kf s) (hv : LeValid s) (hn : n < s.forms.length) :
    Calls Tryz.prog 44 #[(.agg #[.int .i64 s.width, .slice af s.forms.length kf]), .int .i64 (n : Int)] w fun e w' => ∃ p, e = .returned (.tuple #[.pointer (some ⟨p, 0, none⟩), .int .i64 0]) ∧ w.heap.size ≤ p ∧ FormW w' p s.forms[n] ∧ Below w.heap.size w w' := by
  obtain ⟨X, hX⟩ : ∃ X : World, X = w.alloc (.cells #[.int .i64 s.width, .slice af s.forms.length kf] 24) := ⟨_, rfl⟩
  have hwX : Below w.heap.size w X := by rw [hX]; exact (Below.refl _ w).alloc (Nat.le_refl _) _
  have g1 : X.heap[w.heap.size]? = some (.cells #[.int .i64 s.width, .slice af s.forms.length kf] 24 (0, 0)) := by rw [hX]; exact alloc_at _ _ rfl
  replace g1 := fun (V : World) (h : Below X.heap.size X V) => (h.block _ (lt_of_block g1)).trans g1
  have HC : Hid (∀ V, Below X.heap.size X V → (V.cell? ⟨w.heap.size, 0, none⟩ = some (.int .i64 s.width) ∧ V.cell? ⟨w.heap.size, 1, none⟩ = some (.slice af s.forms.length kf) ∧ w.heap.size < V.heap.size)) := Lib.hid (fun V h => ⟨blk_cell 0 (g1 V h) rfl, blk_cell 1 (g1 V h) rfl, lt_of_block (g1 V h)⟩)
  have C := Lib.hid (LCheck_any af kf s X (hm.mono hwX) hv)
  have hF := hv.form n hn
  have HL := Lib.hid (fun (V : World) (h : Below X.heap.size X V) => (by
    obtain ⟨b, off, e0, hb, h1, ap, kp, h2, h3, h5⟩ := ((hm.mono hwX).mono h).forms n hn
    exact ⟨b, off, ap, kp, e0, h1, h2, hb, LLook_any ap kp s.forms[n] V h3 h5 hF.2.2.many⟩ : ∃ b off ap kp, af = some ⟨b, off, none⟩ ∧ V.cell? ⟨b, off + n * 2, none⟩ = some (.string s.forms[n].name) ∧ V.cell? ⟨b, off + n * 2 + 1, none⟩ = some (.slice ap s.forms[n].parts.length kp) ∧ b < V.heap.size ∧ Calls Tryz.prog 69 #[.agg #[.string s.forms[n].name, .slice ap s.forms[n].parts.length kp]] V fun e w' => ∃ p, e = .returned (.pointer (some ⟨p, 0, none⟩)) ∧ V.heap.size ≤ p ∧ FormW w' p s.forms[n] ∧ Below V.heap.size V w'))
  have h4 := hv.many
  have O := Lib.hid (fun (W : World) (a : Nat) hc => LOffOne_any (n : Int) 0 ((s.forms.length : Int) - 1) a W hc)
  have hin := Lib.hid (show inB (n : Int) 0 ((s.forms.length : Int) - 1) = true by unfold inB; simp; omega)
  obtain ⟨y0, y1, y3⟩ := HC.out X (Below.refl _ _)
  have hzw := hwX.size
  generalize s.forms[n] = f at *
  have HX := Lib.hid hX
  clear hX hm hv hF g1
  go_enter Tryz.func44, Tryz.ntmps44
  go_upto_region 1 with (fail)
  rw [← HX.out]
  clear HX
  go_upto_region 2 with (go_at_call 68; go_must ((with_reducible refine C.out.mono ?_); rintro e w2 ⟨rfl, hb2⟩; obtain ⟨z0, z1, z3⟩ := HC.out _ hb2; dsimp only))
  go_upto_region 4 with (fail)
  go_upto_region 6 with (go_at_call 45; go_must ((with_reducible refine (O.out _ _ ?_).mono ?_); exact (blk_cell 0 (blk_new _ _) rfl); rintro e w3 ⟨rfl, hb3⟩; rw [hin.out]; have hw3 := ((Below.refl _ w2).alloc (Nat.le_refl _) _).trans (hb3.mono (by simp)); have hX3 := hb2.trans (hw3.mono hb2.size); obtain ⟨z0, z1, z3⟩ := HC.out _ hX3; dsimp only))
  obtain ⟨b, off, ap, kp, rfl, p1, p2, p3, L⟩ := HL.out w3 hX3
  have L := Lib.hid L
  go_wp2_with (go_at_call 69; go_must ((with_reducible refine L.out.mono ?_); rintro e w4 ⟨p, rfl, hp, hf, hb4⟩; dsimp only))
  go_ret2
  exact ⟨p, rfl, by have := hX3.size; omega, hf, hwX.trans ((hX3.trans (hb4.mono hX3.size)).mono hwX.size)⟩
end Go.Proofs.YtelmponkmmfffaaGreat
namespace Go.Proofs.YtelmponkmmfffaaGreat
open Go Go.RowKit Go.Shelf
theorem SrcAt.strsL {w : World} {a : Option Addr} {l : List ByteArray} {c : Nat} (hn : a = none → c = 0) (h : StrsC w a l) : SrcAt w (.slice a l.length c) l.length 1 (List.map Value.string l) := by
  refine ⟨by simp, fun u hu => ?_, ?_⟩
  · obtain ⟨x, _, rfl⟩ := List.mem_map.1 hu
    rfl
  · cases a with
    | none =>
      have : l.length = 0 := by
        by_cases h0 : 0 < l.length
        · obtain ⟨b, off, e, _⟩ := h 0 h0
          cases e
        · omega
      left
      rw [hn rfl, this]
      exact ⟨rfl, rfl⟩
    | some ad =>
      refine .inr ⟨ad, c, rfl, fun j u hj => ?_⟩
      rw [List.getElem?_map] at hj
      obtain ⟨s, hs, rfl⟩ := Option.map_eq_some_iff.1 hj
      obtain ⟨hl, hs2⟩ := List.getElem?_eq_some_iff.1 hs
      obtain ⟨b, off, e, _, hc⟩ := h j hl
      cases e
      rw [Addr.add_lit, hc, hs2]
/-- A slice of slices of strings. -/
def StrRowsC (w : World) (a : Option Addr) (L : List (List ByteArray)) : Prop :=
  ∀ i (_ : i < L.length), ∃ b off a' c', a = some ⟨b, off, none⟩ ∧ b < w.heap.size ∧ w.cell? ⟨b, off + i, none⟩ = some (.slice a' L[i].length c') ∧ SlOk a' L[i].length c' ∧ StrsC w a' L[i]
theorem StrRowsC.mono {w W : World} {a : Option Addr} {L : List (List ByteArray)} (h : StrRowsC w a L) (hb : Below w.heap.size w W) : StrRowsC W a L := fun i hi => by
  obtain ⟨b, off, a', c', e, hlt, hc, h1, h3⟩ := h i hi
  exact ⟨b, off, a', c', e, Nat.lt_of_lt_of_le hlt hb.size, cell_below hb hc, h1, h3.mono hb⟩
/-- What the call has collected reads as strings. -/
theorem StrsV.of_own {w : World} {base : Nat} {e : TypeId} {v : Value} {n : Nat} {l : List ByteArray} (h : w.ownsRow base e 1 v n (l.map Value.string)) : ∃ a c, v = .slice a l.length c ∧ SlOk a l.length c ∧ StrsC w a l := by
  have hn : l.length = n := by simpa using h.1
  subst hn
  rcases h.2 with ⟨rfl, h0⟩ | ⟨g, cap, cur, rfl, _, hg, h1, h2, h3, h4⟩
  · have : l = [] := List.eq_nil_of_length_eq_zero h0
    subst this
    exact ⟨none, 0, rfl, ⟨Nat.le_refl _, by omega, fun _ => rfl⟩, StrsC.nil _ _⟩
  · have hm : maxLen = 9223372036854775807 := rfl
    refine ⟨some ⟨g, 0, none⟩, cap, rfl, ⟨h1, by omega, fun h => by cases h⟩, fun i hi => ⟨g, 0, rfl, (Array.getElem?_eq_some_iff.1 hg).1, ?_⟩⟩
    have := h.cells (g := g) rfl i (.string l[i]) (by simp [hi])
    simpa [Addr.add_lit] using this
theorem own_slice {W : World} {base : Nat} {e : TypeId} {size n : Nat} {v : Value} {xs : List Value} (h : W.ownsRow base e size v n xs) : ∃ a c, v = .slice a n c := by
  rcases h.2 with ⟨rfl, rfl⟩ | ⟨g, cap, cur, rfl, _⟩
  · exact ⟨none, 0, rfl⟩
  · exact ⟨_, _, rfl⟩
theorem app_on {B base : Nat} {w w1 w2 : World} {e : TypeId} {size n : Nat} {v : Value} {xs : List Value} (h : Below B w w1) (hB : B ≤ w1.heap.size) (hb : B ≤ base) (ho : w1.ownsRow base e size v n xs) (hg : w1.grownBy w2 v.ownBlock) : Below B w w2 :=
  h.grown hg hB (fun k e => Nat.le_trans hb (ho.lt k e).1)
theorem make_app : ∀ (a b : List LeP) (fs : List (List ByteArray)), makeF (a ++ b) fs = makeF a fs ++ makeF b (fs.drop (roomsF a).length)
  | [], b, fs => by simp [makeF, roomsF]
  | p :: a, b, fs => by
    simp only [List.cons_append, makeF, roomsF]
    split
    · rw [make_app a b fs.tail, List.append_assoc, List.length_cons]
      cases fs <;> simp
    · rw [make_app a b fs, List.append_assoc]
theorem make_yes {l : List LeP} {fs : List (List ByteArray)} {k : Nat} (h : k < l.length) (h0 : l[k].words.length = 0) (hf : (roomsF (l.take k)).length < fs.length) : makeF (l.take (k + 1)) fs = makeF (l.take k) fs ++ fs[(roomsF (l.take k)).length] := by
  rw [← List.take_append_getElem h, make_app]
  congr 1
  simp [makeF, h0, List.getElem?_eq_getElem hf]
theorem make_no {l : List LeP} {fs : List (List ByteArray)} {k : Nat} (h : k < l.length) (h0 : l[k].words.length ≠ 0) : makeF (l.take (k + 1)) fs = makeF (l.take k) fs ++ l[k].words := by
  rw [← List.take_append_getElem h, make_app]
  congr 1
  simp [makeF, h0]
theorem rooms_lt {l : List LeP} {k : Nat} (h : k < l.length) (h0 : l[k].words.length = 0) : (roomsF (l.take k)).length < (roomsF l).length := by
  have h1 := rooms_yes h h0
  have h2 : roomsF l = roomsF (l.take (k + 1)) ++ roomsF (l.drop (k + 1)) := by rw [← rooms_app, List.take_append_drop]
  rw [h2, h1]
  simp
theorem put_app {a b : List (Int × Int)} {fs : List (List ByteArray)} (h : PutOk (a ++ b) fs) : PutOk a (fs.take a.length) :=
  ⟨by have := h.1; simp at this ⊢; omega, fun i hi hr => by
    have := h.2 i (by simp at hi; omega) (by simp; omega)
    simpa [List.getElem_append_left hr] using this⟩
theorem make_fills : ∀ (ps : List LeP) (fs : List (List ByteArray)), makeF ps fs = makeF ps (fs.take (roomsF ps).length)
  | [], _ => rfl
  | p :: ps, fs => by
    simp only [makeF, roomsF]
    split
    · cases fs with
      | nil => simp
      | cons x fs =>
        simp only [List.length_cons, List.take_succ_cons, List.headD_cons, List.tail_cons]
        rw [← make_fills ps fs]
    · rw [← make_fills ps fs]
theorem make_take (ps : List LeP) (fs : List (List ByteArray)) (hp : ∀ p ∈ ps, LePOk p) (h : PutOk (roomsF ps) fs) (k : Nat) : (makeF (ps.take k) fs).length ≤ 3 * ps.length := by
  have e : roomsF ps = roomsF (ps.take k) ++ roomsF (ps.drop k) := by rw [← rooms_app, List.take_append_drop]
  rw [e] at h
  have hq : ∀ p ∈ ps.take k, LePOk p := fun p hk => hp p (List.mem_of_mem_take hk)
  have h1 := make_len _ _ hq (put_app h)
  rw [← make_fills] at h1
  have h2 := how_bd _ hq
  have h3 : (ps.take k).length ≤ ps.length := by rw [List.length_take]; omega
  omega
/-- The cells of a form that is looked at. -/
theorem FormW.cells {w : World} {p : Nat} {f : LeF} (h : FormW w p f) : ∃ ap kp ar kr, (∀ V, Below w.heap.size w V → (V.cell? ⟨p, 0, none⟩ = some (.string f.name) ∧ V.cell? ⟨p, 1, none⟩ = some (.slice ap f.parts.length kp) ∧ V.cell? ⟨p, 2, none⟩ = some (.slice ar (roomsF f.parts).length kr) ∧ p < V.heap.size) ∧ PartsC V ap f.parts ∧ SpansC V ar (roomsF f.parts)) ∧ SlOk ap f.parts.length kp ∧ SlOk ar (roomsF f.parts).length kr := by
  obtain ⟨ap, kp, ar, kr, h0, h1, h2, h3, h4⟩ := h
  refine ⟨ap, kp, ar, kr, fun V hb => ?_, h1, h3⟩
  have g := (hb.block _ (lt_of_block h0)).trans h0
  exact ⟨⟨blk_cell 0 g rfl, blk_cell 1 g rfl, blk_cell 2 g rfl, lt_of_block g⟩, h2.mono hb, h4.mono hb⟩
end Go.Proofs.YtelmponkmmfffaaGreat
namespace Go.Proofs.YtelmponkmmfffaaGreat
open Go Go.RowKit Go.Shelf
set_option maxRecDepth 100000 in
set_option maxHeartbeats 8000000 in
theorem LMake_any (af : Option Addr) (kf : Nat) (s : LeS) (n : Nat) (al : Option Addr) (fs : List (List ByteArray)) (cl : Nat) (w : World) (hm : ShelfC w af kf s) (hv : LeValid s) (hn : n < s.forms.length) (hol : SlOk al fs.length cl) (hil : StrRowsC w al fs) (hput : PutOk (roomsF s.forms[n].parts) fs) :
    Calls Tryz.prog 9 #[(.agg #[.int .i64 s.width, .slice af s.forms.length kf]), .int .i64 (n : Int), .slice al fs.length cl] w fun e w' => ∃ a c, e = .returned (.tuple #[.slice a (makeF s.forms[n].parts fs).length c, .int .i64 0]) ∧ SlOk a (makeF s.forms[n].parts fs).length c ∧ StrsC w' a (makeF s.forms[n].parts fs) ∧ Below w.heap.size w w' := by
  obtain ⟨X, hX⟩ : ∃ X : World, X = w.alloc (.cells #[.int .i64 s.width, .slice af s.forms.length kf] 24) := ⟨_, rfl⟩
  have hwX : Below w.heap.size w X := by rw [hX]; exact (Below.refl _ w).alloc (Nat.le_refl _) _
  have g1 : X.heap[w.heap.size]? = some (.cells #[.int .i64 s.width, .slice af s.forms.length kf] 24 (0, 0)) := by rw [hX]; exact alloc_at _ _ rfl
  obtain ⟨y0, y1, y3⟩ : X.cell? ⟨w.heap.size, 0, none⟩ = some (.int .i64 s.width) ∧ X.cell? ⟨w.heap.size, 1, none⟩ = some (.slice af s.forms.length kf) ∧ w.heap.size < X.heap.size := ⟨blk_cell 0 g1 rfl, blk_cell 1 g1 rfl, lt_of_block g1⟩
  have E := Lib.hid (LEnter_any af kf s n X (hm.mono hwX) hv hn)
  have hfok := (hv.form n hn).2.2
  have hpok : ∀ p ∈ s.forms[n].parts, LePOk p := fun p hp => by obtain ⟨i, hi, rfl⟩ := List.getElem_of_mem hp; exact hfok.part i hi
  have hrok := Lib.hid (rooms_ok _ hpok)
  have hlen := Lib.hid (make_len _ _ hpok hput)
  have hhow := Lib.hid (how_bd _ hpok)
  have hp5 := hfok.many
  have hr5 := rooms_len s.forms[n].parts
  have hpk := Lib.hid hpok
  have hmk := Lib.hid (make_take _ _ hpok hput)
  have hIL := Lib.hid (fun (V : World) (h : Below w.heap.size w V) => hil.mono h)
  have hPUT := Lib.hid hput.2
  have hfr := Lib.hid hput.1
  generalize s.forms[n] = f at *
  have hll := hol.len
  have HX := Lib.hid hX
  clear hX hm hv hfok hpok hil hput g1
  go_enter Tryz.func9, Tryz.ntmps9
  go_upto_region 1 with (fail)
  rw [← HX.out]
  clear HX
  go_upto_region 2 with (go_at_call 44; go_must ((with_reducible refine E.out.mono ?_); rintro e w2 ⟨p, rfl, hpz, hFW, hb2⟩; dsimp only))
  obtain ⟨ap, kp, ar, kr, HF, hop, hor⟩ := hFW.cells
  have hw2 := hwX.trans (hb2.mono hwX.size)
  have hor2 := hor.len
  have HF := Lib.hid HF
  clear hFW
  obtain ⟨⟨x0, x1, x2, xz⟩, -, -⟩ := HF.out w2 (Below.refl _ _)
  have e1 : (((fs.length : Nat) : Int) != ((roomsF f.parts).length : Int)) = false := by rw [hfr.out]; simp
  clear y0 y1 y3
  go_upto_region 4 with (fail)
  go_upto_region 7 with (fail)
  clear e1
  go_loopw [6, 35] (fun l i wr => ∃ k : Nat, k ≤ fs.length ∧ l = .slice none 0 0 ∧ i = .int .i64 k ∧ Below w2.heap.size w2 wr) (fun _ i _ => fs.length - (intOf i).toNat)
  case atStart => exact ⟨0, Nat.zero_le _, rfl, rfl, Below.refl _ _⟩
  case round =>
    obtain ⟨k, hk, rfl, rfl, hbw⟩ := hrel
    obtain ⟨⟨x0, x1, x2, xz⟩, HP, HS⟩ := HF.out wr hbw
    by_cases hlt : k < fs.length
    · have hkr : k < (roomsF f.parts).length := by have := hfr.out; omega
      obtain ⟨b, off, a', c', e0, hb, h1, h2, h3⟩ := hIL.out wr (hw2.trans (hbw.mono hw2.size)) k hlt
      obtain ⟨b5, off5, e5, hb5, h6, h7⟩ := HS k hkr
      obtain ⟨q1, q2, q3⟩ := hPUT.out k hlt hkr
      have hro := hrok.out _ (List.getElem_mem hkr)
      have hWs := Lib.hid (fun i (hi : i < fs[k].length) => (List.all_eq_true.1 q3) _ (List.getElem_mem hi))
      have D := Lib.hid (fun (V : World) (h : Below wr.heap.size wr V) => LWorded_any a' fs[k] c' V (by omega) (h3.mono h) hWs.out)
      have O := Lib.hid (fun (W : World) (a : Nat) (hc : W.cell? ⟨a, 0, none⟩ = some (.int .i64 (fs[k].length : Int))) => LOffOne_any (fs[k].length : Int) (roomsF f.parts)[k].1 (roomsF f.parts)[k].2 a W hc)
      have hin := Lib.hid (show inB ((fs[k].length : Nat) : Int) (roomsF f.parts)[k].1 (roomsF f.parts)[k].2 = true by unfold inB; simp; omega)
      subst e0
      subst e5
      clear HP HS q3 h3 hWs
      generalize fs[k] = own at *
      generalize (roomsF f.parts)[k] = r at *
      have hlo : own.length ≤ 3 := by omega
      go_upto_region 9 with (fail)
      apply wp_mid _ (fun V => Below wr.heap.size wr V)
      · have KE : Hid (∀ V, Below wr.heap.size wr V → (Below wr.heap.size wr V ∧ V.cell? ⟨p, 2, none⟩ = some (.slice (some ⟨b5, off5, none⟩) (roomsF f.parts).length kr) ∧ V.cell? ⟨b5, off5 + k * 2, none⟩ = some (.int .i64 r.1) ∧ V.cell? ⟨b5, off5 + k * 2 + 1, none⟩ = some (.int .i64 r.2) ∧ p < V.heap.size ∧ b5 < V.heap.size)) := Lib.hid (fun V h => ⟨h, cell_below h x2, cell_below h h6, cell_below h h7, Nat.lt_of_lt_of_le xz h.size, Nat.lt_of_lt_of_le hb5 h.size⟩)
        have hB0 := below_drew' (Below.refl wr.heap.size wr)
        have hBa := below_drew' ((Below.refl _ wr).alloc (Nat.le_refl _) (.cells #[.int .i64 (own.length : Int)] 3))
        go_region_held3 (fun V => Below wr.heap.size wr V ∧ V.cell? ⟨p, 2, none⟩ = some (.slice (some ⟨b5, off5, none⟩) (roomsF f.parts).length kr) ∧ V.cell? ⟨b5, off5 + k * 2, none⟩ = some (.int .i64 r.1) ∧ V.cell? ⟨b5, off5 + k * 2 + 1, none⟩ = some (.int .i64 r.2) ∧ p < V.heap.size ∧ b5 < V.heap.size) (exact KE.out _ (by assumption)) (first
          | (go_at_call 45; refine (O.out _ _ ?_).mono ?_; (simp); rintro e w3 ⟨rfl, hb3⟩; rw [hin.out]; have hB2 := hBa.trans (hb3.mono (by simp)); dsimp only))
        exact ⟨rfl, hB2⟩
      rintro V hV
      have D2 := Lib.hid (D.out V hV)
      go_wp2_with (go_at_call 46; go_must ((with_reducible refine D2.out.mono ?_); rintro e w4 ⟨rfl, hb4⟩; dsimp only))
      go_roundw
      case rel => exact ⟨k + 1, by omega, rfl, by go_num, hbw.trans ((hV.trans (hb4.mono hV.size)).mono hbw.size)⟩
      case measure => simp [intOf]; omega
    · obtain rfl : k = fs.length := by omega
      clear x0 x2
      have hww := hw2.trans (hbw.mono hw2.size)
      have hPW := Lib.hid (fun (V : World) (h : Below wr.heap.size wr V) => (HF.out V (hbw.trans (h.mono hbw.size))).2.1)
      have hLW := Lib.hid (fun (V : World) (h : Below wr.heap.size wr V) => hIL.out V (hww.trans (h.mono hww.size)))
      clear HP HS
      go_upto_region 17 with (fail)
      go_loopw [6, 11, 72] (fun l q i V => ∃ k : Nat, k ≤ f.parts.length ∧ q = .int .i64 ((roomsF (f.parts.take k)).length : Int) ∧ i = .int .i64 k ∧ Below wr.heap.size wr V ∧ V.ownsRow wr.heap.size 9 1 l (makeF (f.parts.take k) fs).length ((makeF (f.parts.take k) fs).map Value.string)) (fun _ _ i _ => f.parts.length - (intOf i).toNat)
      case atStart => exact ⟨0, Nat.zero_le _, by simp [roomsF], rfl, Below.refl _ _, by simp only [List.take_zero, makeF]; exact ⟨rfl, .inl ⟨rfl, rfl⟩⟩⟩
      case round =>
        clear x1 xz hbw
        rename World => V
        obtain ⟨k, hk, rfl, rfl, hbw, hown⟩ := hrel
        by_cases hlt : k < f.parts.length
        · obtain ⟨b, off, e0, hb, ⟨aw, cw, r0, r1, r2⟩, r3, r4⟩ := hPW.out V hbw k hlt
          obtain ⟨Y, hY⟩ : ∃ Y : World, Y = V.alloc (.cells #[.slice aw f.parts[k].words.length cw, .int .i64 f.parts[k].lo, .int .i64 f.parts[k].hi] 62) := ⟨_, rfl⟩
          have hYw : Below V.heap.size V Y := by rw [hY]; exact (Below.refl _ V).alloc (Nat.le_refl _) _
          have g2 : Y.heap[V.heap.size]? = some (.cells #[.slice aw f.parts[k].words.length cw, .int .i64 f.parts[k].lo, .int .i64 f.parts[k].hi] 62 (0, 0)) := by rw [hY]; exact alloc_at _ _ rfl
          have hYr := hbw.trans (hYw.mono hbw.size)
          have HO := Lib.hid (own_below hown hYw)
          have HW := Lib.hid (r2.mono hYw)
          have hlk : (makeF (f.parts.take k) fs).length ≤ 15 := by have := hmk.out k; omega
          have HMY := Lib.hid (fun h0 hf => make_yes (fs := fs) hlt h0 hf)
          have HMN := Lib.hid (fun h0 => make_no (fs := fs) hlt h0)
          have HRY := Lib.hid (rooms_yes hlt)
          have HRN := Lib.hid (rooms_no hlt)
          have HRL := Lib.hid (rooms_lt hlt)
          have hp3 := (hpk.out _ (List.getElem_mem hlt))
          subst e0
          have hvl : ∀ g, u6.ownBlock = some g → wr.heap.size ≤ g ∧ g < V.heap.size := fun g e => (hown.lt g e)
          have hYs := Lib.hid (show Y.heap.size = V.heap.size + 1 by rw [hY]; simp)
          have y0 := blk_cell 0 g2 rfl
          simp only [List.getElem_toArray, List.getElem_cons_zero, List.getElem_cons_succ] at y0
          have yz := lt_of_block g2
          have HY := Lib.hid hY
          clear hY hown
          generalize f.parts[k] = p at *
          by_cases h0 : p.words.length = 0
          · have hrl := HRL.out h0
            have hry := Lib.hid (show (roomsF (f.parts.take (k + 1))).length = (roomsF (f.parts.take k)).length + 1 by rw [HRY.out h0, List.length_append]; rfl)
            have hmy := Lib.hid (HMY.out h0 (by have := hfr.out; omega))
            obtain ⟨b6, off6, a6, c6, e6, hb6, l1, l2, l3⟩ := hLW.out Y hYr _ (show (roomsF (f.parts.take k)).length < fs.length by have := hfr.out; omega)
            have hrs : (roomsF (f.parts.take k)).length < fs.length := by have := hfr.out; omega
            have hput2 := (hPUT.out _ hrs hrl).2.1
            have hro := hrok.out _ (List.getElem_mem hrl)
            subst e6
            have hfl : fs[(roomsF (f.parts.take k)).length].length ≤ 3 := by omega
            clear hput2 hro
            generalize fs[(roomsF (f.parts.take k)).length] = own at *
            have hr6 : (roomsF (f.parts.take k)).length ≤ 5 := by omega
            have hnw : p.words = [] := List.eq_nil_of_length_eq_zero h0
            rw [h0] at r0 y0 HY g2
            clear HRY HRN HMY HMN HRL r2
            generalize (roomsF (f.parts.take k)).length = q at *
            go_upto_region 19 with (fail)
            rw [← HY.out]
            clear HY
            go_upto_region 22 with (at_builtin; go_must (refine wpList_app (.tmp 80) (.tmp 84) E_str rfl rfl rfl rfl wr.heap.size (makeF (f.parts.take k) fs).length own.length _ (own.map Value.string) HO.out (SrcAt.strsL l2.2.2 l3) (by omega) (by decide) (by have := hYr.size; omega) ?_; intro v5 w5 ho5 hg5 _; have hb5 := app_on hYr hYr.size (Nat.le_refl _) HO.out hg5; (have g5 := (hg5.block _ yz (fun e => by have := (hvl _ e.symm).2; omega)).trans g2); (have z0 : w5.cell? ⟨V.heap.size, 0, none⟩ = some (.slice aw 0 cw) := blk_cell 0 g5 rfl); (have zz := lt_of_block g5); clear hg5; simp only [Act.put, List.setIfInBounds_toArray, List.set_cons_succ, List.set_cons_zero]))
            go_wp2_with (at_builtin; go_must (refine wpList_app (.tmp 88) (.tmp 90) E_str rfl rfl rfl rfl wr.heap.size ((makeF (f.parts.take k) fs).length + own.length) 0 _ [] ho5 (show SrcAt w5 (.slice aw 0 cw) 0 1 [] from SrcAt.strsL (l := []) (by rw [hnw] at r1; exact r1.2.2) (StrsC.nil _ _)) (by omega) (by decide) (by have := hb5.size; omega) ?_; intro v6 w6 ho6 hg6 _; have hb6 := app_on hb5 hb5.size (Nat.le_refl _) ho5 hg6; clear hg6; simp only [Act.put, List.setIfInBounds_toArray, List.set_cons_succ, List.set_cons_zero]))
            go_roundw
            case rel => exact ⟨k + 1, by omega, by rw [hry.out]; go_num, by go_num, hb6, by rw [hmy.out, List.length_append, List.map_append]; simpa using ho6⟩
            case measure => simp [intOf]; omega
          · have hz : ((p.words.length : Int) == 0) = false := eqi_f (by omega)
            have hrn := Lib.hid (HRN.out h0)
            have hmn := Lib.hid (HMN.out h0)
            have hp4 := hp3.many
            clear HRY HRN HMY HMN HRL r2 hp3
            go_upto_region 19 with (fail)
            rw [← HY.out]
            clear HY
            go_wp2_with (at_builtin; go_must (refine wpList_app (.tmp 88) (.tmp 90) E_str rfl rfl rfl rfl wr.heap.size (makeF (f.parts.take k) fs).length p.words.length _ (p.words.map Value.string) HO.out (SrcAt.strsL r1.2.2 HW.out) (by omega) (by decide) (by have := hYr.size; omega) ?_; intro v6 w6 ho6 hg6 _; have hb6 := app_on hYr hYr.size (Nat.le_refl _) HO.out hg6; clear hg6; simp only [Act.put, List.setIfInBounds_toArray, List.set_cons_succ, List.set_cons_zero]))
            go_roundw
            case rel => exact ⟨k + 1, by omega, by rw [hrn.out], by go_num, hb6, by rw [hmn.out, List.length_append, List.map_append]; exact ho6⟩
            case measure => simp [intOf]; omega
        · obtain rfl : k = f.parts.length := by omega
          rw [List.take_length] at hown
          obtain ⟨a, c, rfl, s1, s2⟩ := StrsV.of_own hown
          go_wp2
          go_ret2
          exact ⟨a, c, rfl, s1, s2, hww.trans (hbw.mono hww.size)⟩
end Go.Proofs.YtelmponkmmfffaaGreat
