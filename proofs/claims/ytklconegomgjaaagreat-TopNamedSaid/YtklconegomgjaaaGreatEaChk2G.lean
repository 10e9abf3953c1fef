/- What is proved here: the contracts of the closures of Check of layer 1, at a valid book. Conditions: the book lies in memory. -/
/- What is proved here: the contract of Check of layer 1, at a valid book. Conditions: the book lies in memory. -/
import Derived.Test.YtklconegomgjaaaGreatEaFlawG
set_option linter.unusedVariables false
set_option linter.unusedSimpArgs false
namespace Go.Proofs.YtklconegomgjaaaGreat
open Go Go.RowKit Go.Shelf
attribute [local go_sem] store_fnE

@[reducible] def flawFE : Nat → Nat
  | 0 => 166
  | 1 => 167
  | 2 => 168
  | _ => 169
@[reducible] def flawCapE (p : Nat) : Nat → Array Value
  | 2 => #[.pointer (some ⟨p, 0, none⟩)]
  | _ => #[]
theorem EFlawK_any (a : Option Addr) (l : List EaL) (k S i p n : Nat) (hn : n < 4) (w : World) (ho : SlOk a l.length k) (hi : EaLettersC w a l) (hx : LetOk S l i) (hS : S ≤ 4) (cp : w.cell? ⟨p, 0, none⟩ = some (.int .i64 (S : Int))) :
    Calls Tryz.prog (flawFE n) (#[.slice a l.length k, .int .i64 (i : Int)] ++ flawCapE p n) w fun e w' => e = .returned (.bool false) ∧ Below w.heap.size w w' := by
  obtain rfl | rfl | rfl | rfl : n = 0 ∨ n = 1 ∨ n = 2 ∨ n = 3 := by omega
  · exact EFlaw1_any a l k S i w ho.len hi hx
  · exact EFlaw2_any a l k S i w ho hi hx
  · exact EFlaw3_any a l k S i p w ho.len hi hx hS cp
  · exact EFlaw4_any a l k S i w ho.len hi hx
set_option maxRecDepth 100000 in
set_option maxHeartbeats 2000000 in
theorem EChk12_any (al : Option Addr) (l : List EaL) (cl i B A S : Nat) (x : EaL) (w : World) (ho : SlOk al l.length cl) (hi : EaLettersC w al l) (hx : LetOk S l i) (hS : S ≤ 4) (cB : w.cell? ⟨B, 0, none⟩ = some (.int .i64 (S : Int))) (cA : w.cell? ⟨A, 1, none⟩ = some (.slice al l.length cl)) :
    Calls Tryz.prog 131 #[.int .i64 (i : Int), .agg #[.int .u8 x.letter, .int .i64 x.sounds, .bool x.silent], .pointer (some ⟨B, 0, none⟩), .pointer (some ⟨A, 0, none⟩)] w fun e w' => e = .returned (.int .i64 0) ∧ Below w.heap.size w w' := by
  obtain ⟨xl, xs, xi⟩ := x
  simp only
  have zB := lt_of_cell cB
  have FS := Lib.hid (fun W : World => EFlaws_any (S : Int) W)
  have HI := Lib.hid hi
  have HX := Lib.hid hx
  have CA := Lib.hid cA
  clear hi hx cA
  go_enter Tryz.func131, Tryz.ntmps131
  go_upto_region 2 with (go_at_call 132; go_must ((with_reducible refine (FS.out _).mono ?_); rintro e w2 ⟨rfl, rfl⟩; dsimp only))
  obtain ⟨Y, hY⟩ : ∃ Y : World, Y = ((w.alloc (.cells #[.int .u8 xl, .int .i64 xs, .bool xi] 137)).alloc (.cells #[.int .i64 (S : Int)] 3)).alloc (.cells (flawCellsE (w.heap.size + 1)) 209) := ⟨_, rfl⟩
  have hF0 : Y.heap[w.heap.size + 1 + 1]? = some (.cells (flawCellsE (w.heap.size + 1)) 209 (0, 0)) := by rw [hY]; exact alloc_atE _ _ (by simp)
  have hp0 : Y.cell? ⟨w.heap.size + 1, 0, none⟩ = some (.int .i64 (S : Int)) := by rw [hY]; exact blk_cell 0 ((heap_alloc_old _ _ (by simp)).trans (alloc_atE _ _ (by simp))) rfl
  have hbY : Below w.heap.size w Y := by rw [hY]; exact (((Below.refl _ w).alloc (Nat.le_refl _) _).alloc (by simp) _).alloc (by simp; omega) _
  rw [← hY]
  clear hY
  go_loopw [13] (fun i wr => ∃ k : Nat, k ≤ 4 ∧ i = .int .i64 k ∧ Below Y.heap.size Y wr) (fun i _ => 4 - (intOf i).toNat)
  case atStart => exact ⟨0, Nat.zero_le _, rfl, Below.refl _ _⟩
  case round =>
    obtain ⟨k, hk, rfl, hb⟩ := hrel
    have hbz := hb.size
    have zF0 := lt_of_block hF0
    have hF := (hb.block _ zF0).trans hF0
    have zF := lt_of_block hF
    have hbw := hbY.trans (hb.mono hbY.size)
    by_cases hlt : k < 4
    · have FK := fun (V : World) (hV : Below Y.heap.size Y V) => EFlawK_any al l cl S i (w.heap.size + 1) k hlt V ho (HI.out.mono (hbY.trans (hV.mono hbY.size))) HX.out hS (cell_below hV hp0)
      have KA : Hid (∀ V, Below Y.heap.size Y V → V.cell? ⟨A, 1, none⟩ = some (.slice al l.length cl) ∧ A < V.heap.size) := Lib.hid (fun V hV => ⟨cell_below (hbY.trans (hV.mono hbY.size)) CA.out, Nat.lt_of_lt_of_le (lt_of_cell CA.out) (hbY.trans (hV.mono hbY.size)).size⟩)
      obtain ⟨ca, caz⟩ := KA.out _ hb
      have c0 := blk_cell 0 hF rfl
      have c1 := blk_cell 1 hF rfl
      have c2 := blk_cell 2 hF rfl
      have c3 := blk_cell 3 hF rfl
      have c4 := blk_cell 4 hF rfl
      have c5 := blk_cell 5 hF rfl
      have c6 := blk_cell 6 hF rfl
      have c7 := blk_cell 7 hF rfl
      simp only [List.getElem_toArray, List.getElem_cons_zero, List.getElem_cons_succ] at c0 c1 c2 c3 c4 c5 c6 c7
      obtain rfl | rfl | rfl | rfl : k = 0 ∨ k = 1 ∨ k = 2 ∨ k = 3 := by omega
      all_goals
        simp only [flawFE, flawCapE, List.append_toArray, List.append_nil, List.cons_append, List.nil_append] at FK
        replace FK := Lib.hid FK
        replace hF := Lib.hid hF
        go_wp2_with ((with_reducible refine (FK.out _ (hb.alloc hbz _)).mono ?_); rintro e w5 ⟨rfl, hb5'⟩; have hb5 := (hb.alloc hbz _).trans (hb5'.mono (by simp; omega)); dsimp only)
        go_roundw
        case rel => first | exact ⟨1, by omega, by go_num, hb5⟩ | exact ⟨2, by omega, by go_num, hb5⟩ | exact ⟨3, by omega, by go_num, hb5⟩ | exact ⟨4, by omega, by go_num, hb5⟩
        case measure => simp [intOf]
    · obtain rfl : k = 4 := by omega
      go_wp2
      go_ret
      exact ⟨rfl, hbw⟩
set_option maxHeartbeats 1000000 in
theorem EFailL_any (a : Option Addr) (l : List EaL) (c F : Nat) (caps : Array Value) (w : World) (hl : l.length ≤ 9223372036854775807) (hi : EaLettersC w a l)
    (hCF : ∀ (xs : Array Value) (W : World), (callFunc F xs).run Tryz.prog W = .ok (.enter F xs) W)
    (hK : ∀ (k : Nat) (h : k < l.length) (W : World), Below w.heap.size w W → Calls Tryz.prog F (#[.int .i64 (k : Int), .agg #[.int .u8 l[k].letter, .int .i64 l[k].sounds, .bool l[k].silent]] ++ caps) W fun e W' => e = .returned (.int .i64 0) ∧ Below W.heap.size W W') :
    Calls Tryz.prog 130 #[.slice a l.length c, .func (.func F) #[] caps] w fun e w' => e = .returned (.tuple #[.int .i64 0, .int .i64 0]) ∧ Below w.heap.size w w' := by
  replace hK := Lib.hid hK
  go_enter Tryz.func130, Tryz.ntmps130
  go_wp2
  go_loopw [11] (fun i wr => ∃ k : Nat, k ≤ l.length ∧ i = .int .i64 k ∧ Below w.heap.size w wr) (fun i _ => l.length - (intOf i).toNat)
  case atStart => exact ⟨0, Nat.zero_le _, rfl, Below.refl _ _⟩
  case round =>
    obtain ⟨k, hk, rfl, hbw⟩ := hrel
    by_cases hlt : k < l.length
    · have K := Lib.hid (fun (W : World) (h : Below w.heap.size w W) => hK.out k hlt W h)
      obtain ⟨b, off, rfl, hb, h1, h2, h3⟩ := (hi.mono hbw) k hlt
      generalize l[k] = x at K h1 h2 h3
      obtain ⟨xl, xs, xi⟩ := x
      simp only at K h1 h2 h3
      go_wp2_with ((with_reducible refine (K.out _ (hbw.alloc hbw.size _)).mono ?_); rintro e w2 ⟨rfl, hb2⟩; have hbn := (hbw.alloc hbw.size (.cells #[.int .u8 xl, .int .i64 xs, .bool xi] 137)).trans (hb2.mono (by have := hbw.size; simp; omega)); dsimp only)
      go_roundw
      case rel => exact ⟨k + 1, by omega, by go_num, hbn⟩
      case measure => simp [intOf]; omega
    · obtain rfl : k = l.length := by omega
      go_wp2
      go_ret2
      exact ⟨rfl, hbw⟩
set_option maxHeartbeats 1000000 in
theorem EChk11_any (x : EaA) (al : Option Addr) (cl : Nat) (s : ByteArray) (p : Nat) (w : World) (h : w.cell? ⟨p, 0, none⟩ = some (.string s)) :
    Calls Tryz.prog 129 #[.agg #[.string x.name, .slice al x.letters.length cl], .pointer (some ⟨p, 0, none⟩)] w fun e w' => e = .returned (.bool (decide (x.name = s))) ∧ Below w.heap.size w w' := by
  obtain ⟨name, letters⟩ := x
  simp only
  generalize letters.length = n
  have hp := lt_of_cell h
  by_cases he : name = s
  · have e2 := str_t he
    go_enter Tryz.func129, Tryz.ntmps129
    go_wp2
    go_ret
    exact ⟨ret_bool (by simp [he]), by go_grown⟩
  · have e2 := str_f he
    go_enter Tryz.func129, Tryz.ntmps129
    go_wp2
    go_ret
    exact ⟨ret_bool (by simp [he]), by go_grown⟩
set_option maxHeartbeats 1000000 in
theorem EIdxA_any (a : Option Addr) (l : List EaA) (c : Nat) (s : ByteArray) (p : Nat) (w : World) (hl : l.length ≤ 9223372036854775807) (hi' : EaAlphasC w a l) (h : w.cell? ⟨p, 0, none⟩ = some (.string s)) (hn : ∀ j (h : j < l.length), l[j].name ≠ s) :
    Calls Tryz.prog 165 #[.slice a l.length c, .func (.func 129) #[] #[.pointer (some ⟨p, 0, none⟩)]] w fun e w' => e = .returned (.int .i64 (-1)) ∧ Below w.heap.size w w' := by
  replace hn := Lib.hid hn
  go_enter Tryz.func165, Tryz.ntmps165
  go_wp2
  go_loopw [8] (fun i wr => ∃ k : Nat, k ≤ l.length ∧ i = .int .i64 k ∧ Below w.heap.size w wr) (fun i _ => l.length - (intOf i).toNat)
  case atStart => exact ⟨0, Nat.zero_le _, rfl, Below.refl _ _⟩
  case round =>
    obtain ⟨k, hk, rfl, hbw⟩ := hrel
    by_cases hlt : k < l.length
    · obtain ⟨b, off, rfl, hb, hx1, al, cl, hx2, _⟩ := hi'.mono hbw k hlt
      have B := EChk11_any l[k] al cl s p wr (cell_below hbw h)
      rw [decide_eq_false (hn.out k hlt)] at B
      generalize l[k] = x at B hx1 hx2
      obtain ⟨xn, xl⟩ := x
      simp only at B hx1 hx2
      generalize xl.length = n at B hx2
      replace B := Lib.hid B
      go_wp2_with (go_at_call 129; go_must (refine B.out.mono ?_; rintro e w2 ⟨rfl, hb2⟩; dsimp only))
      go_roundw
      case rel => exact ⟨k + 1, by omega, by go_num, hbw.trans (hb2.mono hbw.size)⟩
      case measure => simp [intOf]; omega
    · obtain rfl : k = l.length := by omega
      go_wp2
      go_ret
      exact ⟨rfl, hbw⟩
set_option maxHeartbeats 1000000 in
theorem EContA_any (a : Option Addr) (l : List EaA) (c : Nat) (s : ByteArray) (p : Nat) (w : World) (hl : l.length ≤ 9223372036854775807) (hi' : EaAlphasC w a l) (h : w.cell? ⟨p, 0, none⟩ = some (.string s)) (hn : ∀ j (h : j < l.length), l[j].name ≠ s) :
    Calls Tryz.prog 128 #[.slice a l.length c, .func (.func 129) #[] #[.pointer (some ⟨p, 0, none⟩)]] w fun e w' => e = .returned (.bool false) ∧ Below w.heap.size w w' := by
  have I := Lib.hid (EIdxA_any a l c s p w hl hi' h hn)
  go_enter Tryz.func128, Tryz.ntmps128
  go_wp2_with (go_at_call 165; go_must (refine I.out.mono ?_; rintro e w2 ⟨rfl, hb2⟩; dsimp only))
  go_ret
  exact ⟨rfl, hb2⟩
end Go.Proofs.YtklconegomgjaaaGreat
namespace Go.Proofs.YtklconegomgjaaaGreat
open Go Go.RowKit Go.Shelf

theorem sounds_nat {b : EaB} (hv : EaValid b) : ∃ S : Nat, b.sounds = (S : Int) ∧ 1 ≤ S ∧ S ≤ 4 := by
  have := hv.sounds
  exact ⟨b.sounds.toNat, by omega, by omega, by omega⟩
theorem let_ok {b : EaB} (hv : EaValid b) {S i : Nat} (hS : b.sounds = (S : Int)) (hi : i < b.alphas.length) {k : Nat} (hk : k < b.alphas[i].letters.length) : LetOk S b.alphas[i].letters k := by
  obtain ⟨h1, h2, h3, h4, h5, h6⟩ := hv.letter i hi k hk
  rw [hS, Int.toNat_natCast] at h5
  exact ⟨hk, ⟨h1, h2⟩, h3, ⟨h4, h5⟩, h6⟩
set_option maxRecDepth 100000 in
set_option maxHeartbeats 2000000 in
theorem EChk1_any (a1 a2 : Option Addr) (k1 k2 : Nat) (b : EaB) (i B : Nat) (al : Option Addr) (cl : Nat) (w : World) (hm : BookC w a1 a2 k1 k2 b) (hv : EaValid b) (hi : i < b.alphas.length) (ho : SlOk al b.alphas[i].letters.length cl) (hL : EaLettersC w al b.alphas[i].letters)
    (c0 : w.cell? ⟨B, 0, none⟩ = some (.int .i64 b.sounds)) (c1 : w.cell? ⟨B, 1, none⟩ = some (.slice a1 b.alphas.length k1)) :
    Calls Tryz.prog 127 #[.int .i64 i, .agg #[.string b.alphas[i].name, .slice al b.alphas[i].letters.length cl], .pointer (some ⟨B, 0, none⟩)] w fun e w' => e = .returned (.int .i64 0) ∧ Below w.heap.size w w' := by
  obtain ⟨S, hS, hS1, hS4⟩ := sounds_nat hv
  rw [hS] at c0
  have l1 := hm.oka.len
  have hso := hm.oka.1
  obtain ⟨hn1, hn2⟩ := hv.name i hi
  have hnl := hv.nl i hi
  have hsz := hm.nsize _ (List.getElem_mem hi)
  have N := EarName_any b.alphas[i].name w hsz
  rw [hn1] at N
  replace N := fun (W : World) => EarName_any b.alphas[i].name W hsz
  rw [hn1] at N
  have HLO := Lib.hid (fun k hk => let_ok hv hS hi (k := k) hk)
  obtain ⟨b', off, hab, hb, _⟩ := hm.alphas i hi
  have hti : (b.alphas.take i).length = i := by rw [List.length_take]; omega
  have K := fun (W : World) (h : Below w.heap.size w W) (p : Nat) (hp : W.cell? ⟨p, 0, none⟩ = some (.string b.alphas[i].name)) => (show Calls Tryz.prog 128 #[.slice (some ⟨b', off, none⟩) i k1, .func (.func 129) #[] #[.pointer (some ⟨p, 0, none⟩)]] W fun e w' => e = .returned (.bool false) ∧ Below W.heap.size W w' from by
    have := EContA_any a1 (b.alphas.take i) k1 b.alphas[i].name p W (by omega) ((hm.mono h).alphas.take i) hp (fun j hj => by
      rw [List.length_take] at hj
      rw [List.getElem_take]
      exact hn2 j (by omega))
    rw [hti, hab] at this
    exact this)
  clear hn1 hn2 hti
  subst hab
  have hik : (i : Int) ≤ (k1 : Int) := by omega
  have hi0 : (0 : Int) ≤ (i : Int) := by omega
  generalize b.alphas[i] = x at *
  obtain ⟨name, letters⟩ := x
  simp only at *
  have N := Lib.hid N
  have K := Lib.hid K
  have HL := Lib.hid hL
  have n6 : (letters.length : Int) ≤ 6 ∧ 1 ≤ (letters.length : Int) := by omega
  have B1 := Lib.hid (fun (a : Nat) (W : World) h => EOffOk (letters.length : Int) 1 6 ⟨n6.2, n6.1⟩ a W h)
  have HO := Lib.hid ho
  have FL := Lib.hid (fun (W : World) (hb : Below w.heap.size w W) (A : Nat) (cA : W.cell? ⟨A, 1, none⟩ = some (.slice al letters.length cl)) => EFailL_any al letters cl 131 #[.pointer (some ⟨B, 0, none⟩), .pointer (some ⟨A, 0, none⟩)] W HO.out.len (HL.out.mono hb) (enters_of Tryz.func131 (by kernel_rfl) rfl) (fun k hk V hV => by
    have hbV := hb.trans (hV.mono hb.size)
    have := EChk12_any al letters cl k B A S letters[k] V HO.out (HL.out.mono hbV) (HLO.out k hk) hS4 (cell_below hbV c0) (cell_below hV cA)
    exact this))
  clear hL ho hm hv
  have hQ0 := Below.refl (w.heap.size + 1) (w.alloc (.cells #[.string name, .slice al letters.length cl] 130))
  have KE : Hid (∀ V, Below (w.heap.size + 1) (w.alloc (.cells #[.string name, .slice al letters.length cl] 130)) V → (V.cell? ⟨w.heap.size, 0, none⟩ = some (.string name) ∧ V.cell? ⟨w.heap.size, 1, none⟩ = some (.slice al letters.length cl) ∧ w.heap.size < V.heap.size ∧ V.cell? ⟨B, 1, none⟩ = some (.slice (some ⟨b', off, none⟩) b.alphas.length k1) ∧ B < V.heap.size)) := Lib.hid (fun V hV => ⟨box_cell hV 0 _ rfl, box_cell hV 1 _ rfl, box_size hV, cell_below (box_old hV) c1, Nat.lt_of_lt_of_le (lt_of_cell c1) (box_old hV).size⟩)
  go_enter Tryz.func127, Tryz.ntmps127
  go_wp2_with (first
    | (go_at_call 130; go_must ((with_reducible refine (FL.out _ (box_old hQ4) _ x1).mono ?_); rintro e w5 ⟨rfl, hb5⟩; have hQ5 := hQ4.trans (hb5.mono (box_size hQ4)); dsimp only))
    | (go_at_call 76; go_must ((with_reducible refine (B1.out _ _ ?_).mono ?_); (simp); rintro e w4 ⟨rfl, hb4⟩; have hQ4 := (hQ3.alloc (box_size hQ3) (.cells #[.int .i64 (letters.length : Int)] 3)).trans (hb4.mono (by have := box_size hQ3; simp; omega)); obtain ⟨x0, x1, xz, xb, xbz⟩ := KE.out _ hQ4; dsimp only))
    | (go_at_call 128; go_must ((with_reducible refine (K.out _ (box_old hQ2) _ x0).mono ?_); rintro e w3 ⟨rfl, hb3⟩; have hQ3 := hQ2.trans (hb3.mono (box_size hQ2)); obtain ⟨x0, x1, xz, xb, xbz⟩ := KE.out _ hQ3; dsimp only))
    | (go_at_call 29; go_must ((with_reducible refine (N.out _).mono ?_); rintro e w2 ⟨rfl, hb2⟩; have hQ2 := hQ0.trans (hb2.mono (by simp)); obtain ⟨x0, x1, xz, xb, xbz⟩ := KE.out _ hQ2; dsimp only)))
  go_ret
  exact ⟨rfl, box_old hQ5⟩
set_option maxHeartbeats 1000000 in
theorem EFailA_any (a : Option Addr) (l : List EaA) (c F : Nat) (caps : Array Value) (w : World) (hl : l.length ≤ 9223372036854775807) (hi : EaAlphasC w a l)
    (hCF : ∀ (xs : Array Value) (W : World), (callFunc F xs).run Tryz.prog W = .ok (.enter F xs) W)
    (hK : ∀ (k : Nat) (h : k < l.length) (al : Option Addr) (cl : Nat) (W : World), Below w.heap.size w W → SlOk al l[k].letters.length cl → EaLettersC W al l[k].letters → Calls Tryz.prog F (#[.int .i64 (k : Int), .agg #[.string l[k].name, .slice al l[k].letters.length cl]] ++ caps) W fun e W' => e = .returned (.int .i64 0) ∧ Below W.heap.size W W') :
    Calls Tryz.prog 126 #[.slice a l.length c, .func (.func F) #[] caps] w fun e w' => e = .returned (.tuple #[.int .i64 0, .int .i64 0]) ∧ Below w.heap.size w w' := by
  replace hK := Lib.hid hK
  go_enter Tryz.func126, Tryz.ntmps126
  go_wp2
  go_loopw [11] (fun i wr => ∃ k : Nat, k ≤ l.length ∧ i = .int .i64 k ∧ Below w.heap.size w wr) (fun i _ => l.length - (intOf i).toNat)
  case atStart => exact ⟨0, Nat.zero_le _, rfl, Below.refl _ _⟩
  case round =>
    obtain ⟨k, hk, rfl, hbw⟩ := hrel
    by_cases hlt : k < l.length
    · have K := Lib.hid (fun (al : Option Addr) (cl : Nat) (W : World) (h : Below w.heap.size w W) => hK.out k hlt al cl W h)
      obtain ⟨b, off, rfl, hb, h1, al, cl, h2, h3, h4⟩ := (hi.mono hbw) k hlt
      generalize l[k] = x at K h1 h2 h3 h4
      obtain ⟨xn, xl⟩ := x
      simp only at K h1 h2 h3 h4
      have K2 := Lib.hid (fun W (h : Below wr.heap.size wr W) => K.out al cl W (hbw.trans (h.mono hbw.size)) h3 (h4.mono h))
      clear K
      generalize xl.length = n at *
      go_wp2_with ((with_reducible refine (K2.out _ ((Below.refl _ _).alloc (Nat.le_refl _) _)).mono ?_); rintro e w2 ⟨rfl, hb2⟩; have hbn := (hbw.alloc hbw.size (.cells #[.string xn, .slice al n cl] 130)).trans (hb2.mono (by have := hbw.size; simp; omega)); dsimp only)
      go_roundw
      case rel => exact ⟨k + 1, by omega, by go_num, hbn⟩
      case measure => simp [intOf]; omega
    · obtain rfl : k = l.length := by omega
      go_wp2
      go_ret2
      exact ⟨rfl, hbw⟩
set_option maxHeartbeats 1000000 in
theorem EFailS_any (a : Option Addr) (l : List EaS) (c F : Nat) (caps : Array Value) (w : World) (hl : l.length ≤ 9223372036854775807) (hi : EaSpellsC w a l)
    (hCF : ∀ (xs : Array Value) (W : World), (callFunc F xs).run Tryz.prog W = .ok (.enter F xs) W)
    (hK : ∀ (k : Nat) (h : k < l.length) (W : World), Below w.heap.size w W → Calls Tryz.prog F (#[.int .i64 (k : Int), .agg #[.int .i64 l[k].alpha, .string l[k].text]] ++ caps) W fun e W' => e = .returned (.int .i64 0) ∧ Below W.heap.size W W') :
    Calls Tryz.prog 133 #[.slice a l.length c, .func (.func F) #[] caps] w fun e w' => e = .returned (.tuple #[.int .i64 0, .int .i64 0]) ∧ Below w.heap.size w w' := by
  replace hK := Lib.hid hK
  go_enter Tryz.func133, Tryz.ntmps133
  go_wp2
  go_loopw [11] (fun i wr => ∃ k : Nat, k ≤ l.length ∧ i = .int .i64 k ∧ Below w.heap.size w wr) (fun i _ => l.length - (intOf i).toNat)
  case atStart => exact ⟨0, Nat.zero_le _, rfl, Below.refl _ _⟩
  case round =>
    obtain ⟨k, hk, rfl, hbw⟩ := hrel
    by_cases hlt : k < l.length
    · have K := Lib.hid (fun (W : World) (h : Below w.heap.size w W) => hK.out k hlt W h)
      obtain ⟨b, off, rfl, hb, h1, h2⟩ := (hi.mono hbw) k hlt
      generalize l[k] = x at K h1 h2
      obtain ⟨xa, xt⟩ := x
      simp only at K h1 h2
      go_wp2_with ((with_reducible refine (K.out _ (hbw.alloc hbw.size _)).mono ?_); rintro e w2 ⟨rfl, hb2⟩; have hbn := (hbw.alloc hbw.size (.cells #[.int .i64 xa, .string xt] 134)).trans (hb2.mono (by have := hbw.size; simp; omega)); dsimp only)
      go_roundw
      case rel => exact ⟨k + 1, by omega, by go_num, hbn⟩
      case measure => simp [intOf]; omega
    · obtain rfl : k = l.length := by omega
      go_wp2
      go_ret2
      exact ⟨rfl, hbw⟩
set_option maxRecDepth 100000 in
set_option maxHeartbeats 2000000 in
theorem EChk2_any (a1 a2 : Option Addr) (k1 k2 : Nat) (b : EaB) (i B : Nat) (w : World) (hm : BookC w a1 a2 k1 k2 b) (hv : EaValid b) (hi : i < b.spells.length)
    (c1 : w.cell? ⟨B, 1, none⟩ = some (.slice a1 b.alphas.length k1)) :
    Calls Tryz.prog 134 #[.int .i64 i, .agg #[.int .i64 b.spells[i].alpha, .string b.spells[i].text], .pointer (some ⟨B, 0, none⟩)] w fun e w' => e = .returned (.int .i64 0) ∧ Below w.heap.size w w' := by
  have l1 := hm.oka.len
  have la := hm.oka.1
  obtain ⟨g1, g2, g3, g4, g5⟩ := hv.spell i hi
  have hna := hv.na
  have HA := Lib.hid (fun (V : World) (h : Below w.heap.size w V) => (hm.mono h).alphas)
  obtain ⟨A, hAe⟩ : ∃ A : Nat, b.spells[i].alpha = (A : Int) := ⟨b.spells[i].alpha.toNat, by omega⟩
  have hA : A < b.alphas.length := by omega
  have hal : alphaOf b b.spells[i] = (b.alphas[A]'hA).letters := by unfold alphaOf; rw [hAe, Int.toNat_natCast, List.getElem?_eq_getElem hA]; rfl
  rw [hal] at g5
  clear hal hv hm
  generalize b.spells[i] = x at *
  obtain ⟨alpha, text⟩ := x
  simp only at *
  subst hAe
  have G5 := Lib.hid g5
  clear g5
  have hA1 : (A : Int) < (b.alphas.length : Int) := by omega
  have B0 := Lib.hid (fun (a : Nat) (W : World) h => EOffOk (A : Int) 0 ((b.alphas.length : Int) - 1) (by omega) a W h)
  have B1 := Lib.hid (fun (a : Nat) (W : World) h => EOffOk (text.size : Int) 1 5 (by omega) a W h)
  have hQ0 := Below.refl (w.heap.size + 1) (w.alloc (.cells #[.int .i64 (A : Int), .string text] 134))
  have KE : Hid (∀ V, Below (w.heap.size + 1) (w.alloc (.cells #[.int .i64 (A : Int), .string text] 134)) V → (V.cell? ⟨w.heap.size, 0, none⟩ = some (.int .i64 (A : Int)) ∧ V.cell? ⟨w.heap.size, 1, none⟩ = some (.string text) ∧ w.heap.size < V.heap.size ∧ V.cell? ⟨B, 1, none⟩ = some (.slice a1 b.alphas.length k1) ∧ B < V.heap.size)) := Lib.hid (fun V hV => ⟨box_cell hV 0 _ rfl, box_cell hV 1 _ rfl, box_size hV, cell_below (box_old hV) c1, Nat.lt_of_lt_of_le (lt_of_cell c1) (box_old hV).size⟩)
  have zB := lt_of_cell c1
  go_enter Tryz.func134, Tryz.ntmps134
  go_upto_region 6 with (first
    | (go_at_call 76; ((with_reducible refine (B1.out _ _ ?_).mono ?_); (simp); rintro e w4 ⟨rfl, hb4⟩; have hQ4 := (hQ3.alloc (box_size hQ3) (.cells #[.int .i64 (text.size : Int)] 3)).trans (hb4.mono (by have := box_size hQ3; simp; omega)); obtain ⟨x0, x1, xz, xb, xbz⟩ := KE.out _ hQ4; dsimp only))
    | (go_at_call 76; go_must ((with_reducible refine (B0.out _ _ ?_).mono ?_); (simp); rintro e w3 ⟨rfl, hb3⟩; have hQ3 := (hQ0.alloc (by simp) (.cells #[.int .i64 (A : Int)] 3)).trans (hb3.mono (by simp)); obtain ⟨x0, x1, xz, xb, xbz⟩ := KE.out _ hQ3; dsimp only)))
  clear hb3 hb4 hQ3 hQ0 c1 zB x0 x1 xz xb xbz
  go_loopw [25] (fun i wr => ∃ k : Nat, k ≤ text.size ∧ i = .int .i64 k ∧ Below w4.heap.size w4 wr) (fun i _ => text.size - (intOf i).toNat)
  case atStart => exact ⟨0, Nat.zero_le _, rfl, Below.refl _ _⟩
  case round =>
    obtain ⟨k, hk, rfl, hbw⟩ := hrel
    have hQr := hQ4.trans (hbw.mono (box_size hQ4))
    obtain ⟨x0, x1, xz, xb, xbz⟩ := KE.out _ hQr
    by_cases hlt : k < text.size
    · obtain ⟨b', off, rfl, hb', _, al, cl, d1, d2, d3⟩ := HA.out wr (box_old hQr) A hA
      have h5 := G5.out k hlt
      have hll := d2.len
      have IX := (fun (W : World) (h : Below wr.heap.size wr W) => EIndex_any al (b.alphas[A]).letters cl (byteI text[k]) W hll (d3.mono h))
      generalize (b.alphas[A]).letters = ls at h5 IX d1 hll
      generalize idxL ls (byteI text[k]) = ix at h5 IX
      unfold byteI at IX
      have IX := Lib.hid IX
      have hix : ¬ ix < 0 := by omega
      clear h5 d2 d3
      have SR : Hid (∀ V, Below wr.heap.size wr V → (Below wr.heap.size wr V ∧ V.cell? ⟨w.heap.size, 0, none⟩ = some (.int .i64 (A : Int)) ∧ V.cell? ⟨w.heap.size, 1, none⟩ = some (.string text) ∧ V.cell? ⟨B, 1, none⟩ = some (.slice (some ⟨b', off, none⟩) b.alphas.length k1) ∧ V.cell? ⟨b', off + A * 2 + 1, none⟩ = some (.slice al ls.length cl) ∧ w.heap.size < V.heap.size ∧ B < V.heap.size ∧ b' < V.heap.size)) := Lib.hid (fun V h => ⟨h, cell_below h x0, cell_below h x1, cell_below h xb, cell_below h d1, Nat.lt_of_lt_of_le xz h.size, Nat.lt_of_lt_of_le xbz h.size, Nat.lt_of_lt_of_le hb' h.size⟩)
      go_upto_region 8 with (fail)
      have hg0 : Below wr.heap.size wr wr.drew := below_drew' (Below.refl _ _)
      have hs0 := hg0.size
      go_region_held3 (fun V => Below wr.heap.size wr V ∧ V.cell? ⟨w.heap.size, 0, none⟩ = some (.int .i64 (A : Int)) ∧ V.cell? ⟨w.heap.size, 1, none⟩ = some (.string text) ∧ V.cell? ⟨B, 1, none⟩ = some (.slice (some ⟨b', off, none⟩) b.alphas.length k1) ∧ V.cell? ⟨b', off + A * 2 + 1, none⟩ = some (.slice al ls.length cl) ∧ w.heap.size < V.heap.size ∧ B < V.heap.size ∧ b' < V.heap.size) (first | exact SR.out _ hg0 | exact SR.out _ hg1) (first
        | (go_at_call 121; refine (IX.out _ hg0).mono ?_; rintro e w5 ⟨rfl, hgs⟩; have hg1 := hg0.trans (hgs.mono hs0); dsimp only))
      go_wp2
      go_roundw
      case rel => exact ⟨k + 1, by omega, by go_num, hbw.trans (hg1.mono hbw.size)⟩
      case measure => simp [intOf]; omega
    · obtain rfl : k = text.size := by omega
      go_wp2
      go_ret
      exact ⟨rfl, box_old hQr⟩
set_option maxRecDepth 100000 in
set_option maxHeartbeats 2000000 in
theorem ECheck_any (a1 a2 : Option Addr) (k1 k2 : Nat) (b : EaB) (w : World) (hm : BookC w a1 a2 k1 k2 b) (hv : EaValid b) :
    Calls Tryz.prog 84 #[(.agg #[.int .i64 b.sounds, .slice a1 b.alphas.length k1, .slice a2 b.spells.length k2])] w fun e w' => e = .returned (.tuple #[.int .i64 0, .int .i64 0, .int .i64 0]) ∧ Below w.heap.size w w' := by
  have l1 := hm.oka.len
  have l2 := hm.oks.len
  have hS := hv.sounds
  have hna := hv.na
  have hns := hv.ns
  have hg : ¬ (5 : Int) < (b.spells.length : Int) := by omega
  have B0 := Lib.hid (fun (a : Nat) (W : World) h => EOffOk b.sounds 1 4 hS a W h)
  have B1 := Lib.hid (fun (a : Nat) (W : World) h => EOffOk (b.alphas.length : Int) 1 3 (by omega) a W h)
  have hQ0 := Below.refl (w.heap.size + 1) (w.alloc (.cells #[.int .i64 b.sounds, .slice a1 b.alphas.length k1, .slice a2 b.spells.length k2] 25))
  have KE : Hid (∀ V, Below (w.heap.size + 1) (w.alloc (.cells #[.int .i64 b.sounds, .slice a1 b.alphas.length k1, .slice a2 b.spells.length k2] 25)) V → (V.cell? ⟨w.heap.size, 0, none⟩ = some (.int .i64 b.sounds) ∧ V.cell? ⟨w.heap.size, 1, none⟩ = some (.slice a1 b.alphas.length k1) ∧ V.cell? ⟨w.heap.size, 2, none⟩ = some (.slice a2 b.spells.length k2) ∧ w.heap.size < V.heap.size)) := Lib.hid (fun V hV => ⟨box_cell hV 0 _ rfl, box_cell hV 1 _ rfl, box_cell hV 2 _ rfl, box_size hV⟩)
  have FA := Lib.hid (fun (W : World) (hW : Below (w.heap.size + 1) (w.alloc (.cells #[.int .i64 b.sounds, .slice a1 b.alphas.length k1, .slice a2 b.spells.length k2] 25)) W) => EFailA_any a1 b.alphas k1 127 #[.pointer (some ⟨w.heap.size, 0, none⟩)] W l1 (hm.mono (box_old hW)).alphas (enters_of Tryz.func127 (by kernel_rfl) rfl) (fun k hk al cl V hV h3 h4 => by
    have hQV := hW.trans (hV.mono (box_size hW))
    obtain ⟨x0, x1, x2, xz⟩ := KE.out _ hQV
    have := EChk1_any a1 a2 k1 k2 b k w.heap.size al cl V (hm.mono (box_old hQV)) hv hk h3 h4 x0 x1
    exact this))
  have FS := Lib.hid (fun (W : World) (hW : Below (w.heap.size + 1) (w.alloc (.cells #[.int .i64 b.sounds, .slice a1 b.alphas.length k1, .slice a2 b.spells.length k2] 25)) W) => EFailS_any a2 b.spells k2 134 #[.pointer (some ⟨w.heap.size, 0, none⟩)] W l2 (hm.mono (box_old hW)).spells (enters_of Tryz.func134 (by kernel_rfl) rfl) (fun k hk V hV => by
    have hQV := hW.trans (hV.mono (box_size hW))
    obtain ⟨x0, x1, x2, xz⟩ := KE.out _ hQV
    have := EChk2_any a1 a2 k1 k2 b k w.heap.size V (hm.mono (box_old hQV)) hv hk x1
    exact this))
  clear hm hv
  go_enter Tryz.func84, Tryz.ntmps84
  go_wp2_with (first
    | (go_at_call 133; go_must ((with_reducible refine (FS.out _ hQ4).mono ?_); rintro e w5 ⟨rfl, hb5⟩; have hQ5 := hQ4.trans (hb5.mono (box_size hQ4)); dsimp only))
    | (go_at_call 126; go_must ((with_reducible refine (FA.out _ hQ3).mono ?_); rintro e w4 ⟨rfl, hb4⟩; have hQ4 := hQ3.trans (hb4.mono (box_size hQ3)); obtain ⟨x0, x1, x2, xz⟩ := KE.out _ hQ4; dsimp only))
    | (go_at_call 76; ((with_reducible refine (B1.out _ _ ?_).mono ?_); (simp); rintro e w3 ⟨rfl, hb3⟩; have hQ3 := (hQ2.alloc (box_size hQ2) (.cells #[.int .i64 (b.alphas.length : Int)] 3)).trans (hb3.mono (by have := box_size hQ2; simp; omega)); obtain ⟨x0, x1, x2, xz⟩ := KE.out _ hQ3; dsimp only))
    | (go_at_call 76; go_must ((with_reducible refine (B0.out _ _ ?_).mono ?_); (simp); rintro e w2 ⟨rfl, hb2⟩; have hQ2 := (hQ0.alloc (by simp) (.cells #[.int .i64 b.sounds] 3)).trans (hb2.mono (by simp)); obtain ⟨x0, x1, x2, xz⟩ := KE.out _ hQ2; dsimp only)))
  go_ret3
  exact ⟨rfl, box_old hQ5⟩
end Go.Proofs.YtklconegomgjaaaGreat
