/- What is proved here: the contracts of the four rules, of rules and of why of layer 3. Conditions: the town is looked at; two of its mentions. -/
/- What is proved here: ties, spans and persons compare as what they hold does. No condition but that numbers are small. -/
import Derived.Test.YtklconegomgjaaaGreatPeAlike
import Derived.Test.YtklconegomgjaaaGreatCmpG
import Derived.DeepKeys
set_option linter.unusedVariables false
set_option linter.unusedSimpArgs false
namespace Go.Proofs.YtklconegomgjaaaGreat
open Go Go.RowKit Go.Shelf

theorem PeOk.sp {t : PeW} (h : PeOk t) {i : Nat} (hi : i < t.ments.length) : t.ments[i].spell = (spOf t i : Int) ∧ spOf t i < t.ear.spells.length := by
  have := h.ment i hi
  unfold spOf
  rw [mentAt_is hi]
  omega
/-- Where two mentions lie. -/
theorem two_ments {W : World} {a3 : Option Addr} {l : List PeM} (h : PeMentsC W a3 l) {a b : Nat} (ha : a < l.length) (hb : b < l.length) : ∃ p off, a3 = some ⟨p, off, none⟩ ∧ p < W.heap.size ∧
    (W.cell? ⟨p, off + a * 5, none⟩ = some (.int .i64 l[a].spell) ∧ W.cell? ⟨p, off + a * 5 + 1, none⟩ = some (.int .i64 l[a].vill) ∧ W.cell? ⟨p, off + a * 5 + 2, none⟩ = some (.int .i64 l[a].lo) ∧ W.cell? ⟨p, off + a * 5 + 3, none⟩ = some (.int .i64 l[a].hi) ∧ W.cell? ⟨p, off + a * 5 + 4, none⟩ = some (.int .i64 l[a].par)) ∧
    (W.cell? ⟨p, off + b * 5, none⟩ = some (.int .i64 l[b].spell) ∧ W.cell? ⟨p, off + b * 5 + 1, none⟩ = some (.int .i64 l[b].vill) ∧ W.cell? ⟨p, off + b * 5 + 2, none⟩ = some (.int .i64 l[b].lo) ∧ W.cell? ⟨p, off + b * 5 + 3, none⟩ = some (.int .i64 l[b].hi) ∧ W.cell? ⟨p, off + b * 5 + 4, none⟩ = some (.int .i64 l[b].par)) := by
  obtain ⟨p, off, e, h1, h2⟩ := h a ha
  obtain ⟨p', off', e', h1', h2'⟩ := h b hb
  rw [e] at e'
  cases e'
  exact ⟨p, off, e, h1, h2, h2'⟩
set_option maxRecDepth 100000 in
set_option maxHeartbeats 2000000 in
theorem PRule1_any (a1 a2 a3 a4 : Option Addr) (k1 k2 k3 k4 : Nat) (t : PeW) (bt bc bk but a b : Nat) (w : World) (hm : TownW w bt bc bk a1 a2 a3 a4 k1 k2 k3 k4 t but) (hv : PeOk t) (ha : a < t.ments.length) (hb : b < t.ments.length) :
    Calls Tryz.prog 136 #[.pointer (some ⟨bt, 0, none⟩), .int .i64 (a : Int), .int .i64 (b : Int)] w fun e w' => e = .returned (.bool (!aliveB t (2 ^ spOf t a ||| 2 ^ spOf t b))) ∧ Lrn bc bk w w' ∧ TownW w' bt bc bk a1 a2 a3 a4 k1 k2 k3 k4 t but := by
  obtain ⟨sa, sa2⟩ := hv.sp ha
  obtain ⟨sb, sb2⟩ := hv.sp hb
  have hns := hv.ear.ns
  have AL := Lib.hid (fun (V : World) (hV : Below w.heap.size w V) => PAlike_any a1 a2 a3 a4 k1 k2 k3 k4 t bt bc bk but (2 ^ spOf t a ||| 2 ^ spOf t b) V (hm.below hV) hv (Nat.or_lt_two_pow (two_ltE sa2) (two_ltE sb2)) (fun e => by
    have := Nat.two_pow_pos (spOf t a)
    have h2 : 2 ^ spOf t a ≤ 2 ^ spOf t a ||| 2 ^ spOf t b := Nat.left_le_or
    omega))
  have hor := or_twoE (spOf t a) (by omega) (spOf t b) (by omega)
  have hwa := pow_wrapL (spOf t a) (by omega)
  have hwb := pow_wrapL (spOf t b) (by omega)
  obtain ⟨p, off, hae, hp, ⟨m0, -⟩, n0, -⟩ := two_ments hm.town.ments ha hb
  rw [sa] at m0
  rw [sb] at n0
  generalize aliveB t (2 ^ spOf t a ||| 2 ^ spOf t b) = r at AL ⊢
  generalize spOf t a = x at hwa hor m0 AL sa2
  generalize spOf t b = y at hwb hor n0 AL sb2
  have hx64 : (x : Int) < 64 := by omega
  have hy64 : (y : Int) < 64 := by omega
  have haI : (a : Int) < (t.ments.length : Int) := by omega
  have hbI : (b : Int) < (t.ments.length : Int) := by omega
  have ha0 : (0 : Int) ≤ (a : Int) := by omega
  have hb0 : (0 : Int) ≤ (b : Int) := by omega
  obtain ⟨-, -, -, -, y4, -, -, -, -, yz⟩ := hm.cells
  rw [hae] at y4
  have KE := Lib.hid (fun (V : World) (hb : Keeps w V) => (show V.cell? ⟨bt, 4, none⟩ = some (.slice (some ⟨p, off, none⟩) t.ments.length k3) ∧ V.cell? ⟨p, off + a * 5, none⟩ = some (.int .i64 (x : Int)) ∧ V.cell? ⟨p, off + b * 5, none⟩ = some (.int .i64 (y : Int)) ∧ bt < V.heap.size ∧ p < V.heap.size from ⟨hb.2 _ _ y4, hb.2 _ _ m0, hb.2 _ _ n0, Nat.lt_of_lt_of_le yz hb.1, Nat.lt_of_lt_of_le hp hb.1⟩))
  have hg0 : Below w.heap.size w w.drew := below_drew' (Below.refl _ _)
  have hk0 : Keeps w w.drew := .of_below hg0
  have HK := Lib.hid (hm.below hg0)
  clear hm hv sa sb y4 m0 n0 ha hb hns
  go_enter Tryz.func136, Tryz.ntmps136
  go_upto_region 1 with (fail)
  (focus go_region_held3 (fun V => V.cell? ⟨bt, 4, none⟩ = some (.slice (some ⟨p, off, none⟩) t.ments.length k3) ∧ V.cell? ⟨p, off + a * 5, none⟩ = some (.int .i64 (x : Int)) ∧ V.cell? ⟨p, off + b * 5, none⟩ = some (.int .i64 (y : Int)) ∧ bt < V.heap.size ∧ p < V.heap.size) (first | exact KE.out _ hk1 | exact KE.out _ hk0) (first
    | (go_at_call 137; refine (AL.out _ hg0).mono ?_; rintro e w2 ⟨rfl, hl2, ht2⟩; have hk1 := hk0.trans (hl2.keeps HK.out); dsimp only)))
  all_goals
    go_wp2
    go_ret
    exact ⟨rfl, (Lrn.of_below hg0).trans hl2, ht2⟩
def rule2 (t : PeW) (a b : Nat) : Bool := decide ((mentAt t a).vill ≠ (mentAt t b).vill ∧ (mentAt t a).vill ≠ -1 ∧ (mentAt t b).vill ≠ -1)
def rule3 (t : PeW) (a b : Nat) : Bool := decide (min (mentAt t a).hi (mentAt t b).hi < max (mentAt t a).lo (mentAt t b).lo)
def rule4 (t : PeW) (a b : Nat) : Bool := decide ((mentAt t a).par = b ∨ (mentAt t b).par = a)
set_option maxRecDepth 100000 in
set_option maxHeartbeats 2000000 in
theorem PRule2_any (a1 a2 a3 a4 : Option Addr) (k1 k2 k3 k4 : Nat) (t : PeW) (bt bc bk but a b : Nat) (w : World) (hm : TownW w bt bc bk a1 a2 a3 a4 k1 k2 k3 k4 t but) (ha : a < t.ments.length) (hb : b < t.ments.length) :
    Calls Tryz.prog 138 #[.pointer (some ⟨bt, 0, none⟩), .int .i64 (a : Int), .int .i64 (b : Int)] w fun e w' => e = .returned (.bool (rule2 t a b)) ∧ Below w.heap.size w w' := by
  obtain ⟨p, off, hae, hp, ⟨-, m0, -⟩, -, n0, -⟩ := two_ments hm.town.ments ha hb
  unfold rule2
  rw [mentAt_is ha, mentAt_is hb]
  generalize t.ments[a].vill = x at *
  generalize t.ments[b].vill = y at *
  have haI : (a : Int) < (t.ments.length : Int) := by omega
  have hbI : (b : Int) < (t.ments.length : Int) := by omega
  have ha0 : (0 : Int) ≤ (a : Int) := by omega
  have hb0 : (0 : Int) ≤ (b : Int) := by omega
  obtain ⟨-, -, -, -, y4, -, -, -, -, yz⟩ := hm.cells
  rw [hae] at y4
  clear hm ha hb
  by_cases h1 : x = y
  · have e1 : (x != y) = false := by simp [h1]
    go_enter Tryz.func138, Tryz.ntmps138
    go_upto_region 1 with (fail)
    go_quiet (fail)
    have hbd : Below w.heap.size w (w.drewN nq) := below_drewN' (Below.refl _ _) _
    clear y4 m0 n0 yz hp
    go_wp2
    go_ret
    exact ⟨ret_bool (by simp [h1]), hbd⟩
  · have e1 : (x != y) = true := by simpa using h1
    by_cases h2 : x = -1
    · have e2 : (x != -1) = false := by simp [h2]
      go_enter Tryz.func138, Tryz.ntmps138
      go_upto_region 1 with (fail)
      go_quiet (fail)
      have hbd : Below w.heap.size w (w.drewN nq) := below_drewN' (Below.refl _ _) _
      clear y4 m0 n0 yz hp
      go_wp2
      go_ret
      exact ⟨ret_bool (by simp [h2]), hbd⟩
    · have e2 : (x != -1) = true := by simpa using h2
      have e3 : decide (x ≠ y ∧ x ≠ -1 ∧ y ≠ -1) = (y != -1) := by rw [Bool.eq_iff_iff]; simp [h1, h2]
      rw [e3]
      go_enter Tryz.func138, Tryz.ntmps138
      go_upto_region 1 with (fail)
      go_quiet (fail)
      have hbd : Below w.heap.size w (w.drewN nq) := below_drewN' (Below.refl _ _) _
      clear y4 m0 n0 yz hp
      go_wp2
      go_ret
      exact ⟨rfl, hbd⟩
set_option maxRecDepth 100000 in
set_option maxHeartbeats 2000000 in
theorem PRule4_any (a1 a2 a3 a4 : Option Addr) (k1 k2 k3 k4 : Nat) (t : PeW) (bt bc bk but a b : Nat) (w : World) (hm : TownW w bt bc bk a1 a2 a3 a4 k1 k2 k3 k4 t but) (ha : a < t.ments.length) (hb : b < t.ments.length) :
    Calls Tryz.prog 140 #[.pointer (some ⟨bt, 0, none⟩), .int .i64 (a : Int), .int .i64 (b : Int)] w fun e w' => e = .returned (.bool (rule4 t a b)) ∧ w' = w := by
  obtain ⟨p, off, hae, hp, ⟨-, -, -, -, m0⟩, -, -, -, -, n0⟩ := two_ments hm.town.ments ha hb
  unfold rule4
  rw [mentAt_is ha, mentAt_is hb]
  generalize t.ments[a].par = x at *
  generalize t.ments[b].par = y at *
  have haI : (a : Int) < (t.ments.length : Int) := by omega
  have hbI : (b : Int) < (t.ments.length : Int) := by omega
  have ha0 : (0 : Int) ≤ (a : Int) := by omega
  have hb0 : (0 : Int) ≤ (b : Int) := by omega
  obtain ⟨-, -, -, -, y4, -, -, -, -, yz⟩ := hm.cells
  rw [hae] at y4
  clear hm ha hb
  by_cases h1 : x = (b : Int)
  · have e1 : (x == (b : Int)) = true := by simp [h1]
    go_enter Tryz.func140, Tryz.ntmps140
    go_wp2
    go_ret
    exact ⟨ret_bool (by simp [h1]), rfl⟩
  · have e1 : (x == (b : Int)) = false := by simpa using h1
    have e3 : decide (x = (b : Int) ∨ y = (a : Int)) = (y == (a : Int)) := by rw [Bool.eq_iff_iff]; simp [h1]
    rw [e3]
    go_enter Tryz.func140, Tryz.ntmps140
    go_wp2
    go_ret
    exact ⟨rfl, rfl⟩
set_option maxRecDepth 100000 in
set_option maxHeartbeats 2000000 in
theorem PRule3_any (a1 a2 a3 a4 : Option Addr) (k1 k2 k3 k4 : Nat) (t : PeW) (bt bc bk but a b : Nat) (w : World) (hm : TownW w bt bc bk a1 a2 a3 a4 k1 k2 k3 k4 t but) (ha : a < t.ments.length) (hb : b < t.ments.length) :
    Calls Tryz.prog 139 #[.pointer (some ⟨bt, 0, none⟩), .int .i64 (a : Int), .int .i64 (b : Int)] w fun e w' => e = .returned (.bool (rule3 t a b)) ∧ Below w.heap.size w w' := by
  obtain ⟨p, off, hae, hp, ⟨-, -, m2, m3, -⟩, -, -, n2, n3, -⟩ := two_ments hm.town.ments ha hb
  unfold rule3
  rw [mentAt_is ha, mentAt_is hb]
  generalize t.ments[a].lo = x at *
  generalize t.ments[b].lo = y at *
  generalize t.ments[a].hi = u at *
  generalize t.ments[b].hi = v at *
  have haI : (a : Int) < (t.ments.length : Int) := by omega
  have hbI : (b : Int) < (t.ments.length : Int) := by omega
  have ha0 : (0 : Int) ≤ (a : Int) := by omega
  have hb0 : (0 : Int) ≤ (b : Int) := by omega
  obtain ⟨-, -, -, -, y4, -, -, -, -, yz⟩ := hm.cells
  rw [hae] at y4
  clear hm ha hb
  go_enter Tryz.func139, Tryz.ntmps139
  go_upto_region 1 with (fail)
  (focus go_region)
  all_goals
    clear m2 m3 n2 n3 y4 yz hp
    go_wp2
    all_goals
      go_ret
      exact ⟨ret_bool (by rw [decide_eq_decide]; omega), below_drew' (((Below.refl _ _).alloc (Nat.le_refl _) _).alloc (by simp) _)⟩
@[reducible] def ruleCells : Array Value := #[.int .i64 1, .func (.func 136) #[] #[], .int .i64 2, .func (.func 138) #[] #[], .int .i64 3, .func (.func 139) #[] #[], .int .i64 4, .func (.func 140) #[] #[]]
set_option maxRecDepth 100000 in
set_option maxHeartbeats 1000000 in
theorem PRules_any (w : World) : Calls Tryz.prog 92 #[] w fun e w' => e = .returned (.slice (some ⟨w.heap.size, 0, none⟩) 4 4) ∧ w' = w.alloc (.cells ruleCells 171) := by
  go_enter Tryz.func92, Tryz.ntmps92
  go_wp2
  go_ret
  exact ⟨rfl, rfl⟩
def ruleB (t : PeW) (a b : Nat) : Nat → Bool
  | 0 => !aliveB t (2 ^ spOf t a ||| 2 ^ spOf t b)
  | 1 => rule2 t a b
  | 2 => rule3 t a b
  | _ => rule4 t a b
theorem rules_more {rb : Nat → Bool} {k : Nat} (h : ∀ j, j < k → rb j = false) (e : rb k = false) : ∀ j, j < k + 1 → rb j = false := fun j hj => by
  by_cases g : j < k
  · exact h j g
  · have e2 : j = k := by omega
    subst e2
    exact e
theorem why_rules (t : PeW) (a b : Nat) : whyN t a b = if ruleB t a b 0 = true then 1 else if ruleB t a b 1 = true then 2 else if ruleB t a b 2 = true then 3 else if ruleB t a b 3 = true then 4 else 0 := by
  unfold whyN ruleB rule2 rule3 rule4
  simp only [Bool.not_eq_true', decide_eq_true_eq]
set_option maxRecDepth 100000 in
set_option maxHeartbeats 4000000 in
theorem PWhy_any (a1 a2 a3 a4 : Option Addr) (k1 k2 k3 k4 : Nat) (t : PeW) (bt bc bk but a b : Nat) (w : World) (hm : TownW w bt bc bk a1 a2 a3 a4 k1 k2 k3 k4 t but) (hv : PeOk t) (ha : a < t.ments.length) (hb : b < t.ments.length) :
    Calls Tryz.prog 42 #[.pointer (some ⟨bt, 0, none⟩), .int .i64 (a : Int), .int .i64 (b : Int)] w fun e w' => e = .returned (.int .i64 (whyN t a b)) ∧ Lrn bc bk w w' ∧ TownW w' bt bc bk a1 a2 a3 a4 k1 k2 k3 k4 t but := by
  have R1 := Lib.hid (fun (V : World) (h : TownW V bt bc bk a1 a2 a3 a4 k1 k2 k3 k4 t but) => (show Calls Tryz.prog 136 #[.pointer (some ⟨bt, 0, none⟩), .int .i64 (a : Int), .int .i64 (b : Int)] V fun e w' => e = .returned (.bool (ruleB t a b 0)) ∧ Lrn bc bk V w' ∧ TownW w' bt bc bk a1 a2 a3 a4 k1 k2 k3 k4 t but from PRule1_any a1 a2 a3 a4 k1 k2 k3 k4 t bt bc bk but a b V h hv ha hb))
  have R2 := Lib.hid (fun (V : World) (h : TownW V bt bc bk a1 a2 a3 a4 k1 k2 k3 k4 t but) => (show Calls Tryz.prog 138 #[.pointer (some ⟨bt, 0, none⟩), .int .i64 (a : Int), .int .i64 (b : Int)] V fun e w' => e = .returned (.bool (ruleB t a b 1)) ∧ Lrn bc bk V w' ∧ TownW w' bt bc bk a1 a2 a3 a4 k1 k2 k3 k4 t but from (PRule2_any a1 a2 a3 a4 k1 k2 k3 k4 t bt bc bk but a b V h ha hb).mono fun e w' ⟨h1, h2⟩ => ⟨h1, .of_below h2, h.below h2⟩))
  have R3 := Lib.hid (fun (V : World) (h : TownW V bt bc bk a1 a2 a3 a4 k1 k2 k3 k4 t but) => (show Calls Tryz.prog 139 #[.pointer (some ⟨bt, 0, none⟩), .int .i64 (a : Int), .int .i64 (b : Int)] V fun e w' => e = .returned (.bool (ruleB t a b 2)) ∧ Lrn bc bk V w' ∧ TownW w' bt bc bk a1 a2 a3 a4 k1 k2 k3 k4 t but from (PRule3_any a1 a2 a3 a4 k1 k2 k3 k4 t bt bc bk but a b V h ha hb).mono fun e w' ⟨h1, h2⟩ => ⟨h1, .of_below h2, h.below h2⟩))
  have R4 := Lib.hid (fun (V : World) (h : TownW V bt bc bk a1 a2 a3 a4 k1 k2 k3 k4 t but) => (show Calls Tryz.prog 140 #[.pointer (some ⟨bt, 0, none⟩), .int .i64 (a : Int), .int .i64 (b : Int)] V fun e w' => e = .returned (.bool (ruleB t a b 3)) ∧ Lrn bc bk V w' ∧ TownW w' bt bc bk a1 a2 a3 a4 k1 k2 k3 k4 t but from (PRule4_any a1 a2 a3 a4 k1 k2 k3 k4 t bt bc bk but a b V h ha hb).mono fun e w' ⟨h1, h2⟩ => ⟨h1, by rw [h2]; exact Lrn.refl _ _ _, by rw [h2]; exact h⟩))
  have HW := Lib.hid (why_rules t a b)
  generalize whyN t a b = r at HW ⊢
  generalize ruleB t a b = rb at R1 R2 R3 R4 HW
  clear hv ha hb
  go_enter Tryz.func42, Tryz.ntmps42
  go_wp2_with (go_at_call 92; go_must ((with_reducible refine (PRules_any _).mono ?_); rintro e w2 ⟨rfl, hw2'⟩; have hw2 := Lib.hid hw2'; clear hw2'; dsimp only))
  have hb2 : Below w.heap.size w w2 := by rw [hw2.out]; exact (Below.refl _ _).alloc (Nat.le_refl _) _
  have hr2 : w2.heap[w.heap.size]? = some (.cells ruleCells 171 (0, 0)) := by rw [hw2.out]; exact alloc_atE _ _ rfl
  have hm2 := hm.below hb2
  have hL2 : Lrn bc bk w w2 := .of_below hb2
  clear hw2 hm hb2
  go_loopw [11] (fun i wr => ∃ k : Nat, k ≤ 4 ∧ i = .int .i64 (k : Int) ∧ Hid (∀ j, j < k → rb j = false) ∧ wr.heap[w.heap.size]? = some (.cells ruleCells 171 (0, 0)) ∧ TownW wr bt bc bk a1 a2 a3 a4 k1 k2 k3 k4 t but ∧ Lrn bc bk w wr) (fun i _ => 4 - (intOf i).toNat)
  case atStart => exact ⟨0, by omega, rfl, Lib.hid (fun j h => absurd h (Nat.not_lt_zero j)), hr2, hm2, hL2⟩
  case round =>
    clear hr2 hm2 hL2
    obtain ⟨k, hk, rfl, HR, hr, hm, hL⟩ := hrel
    have HM := Lib.hid hm
    have HL := Lib.hid hL
    have rz := lt_of_block hr
    have HRB := Lib.hid hr
    have hk5 : k = 4 ∨ k = 0 ∨ k = 1 ∨ k = 2 ∨ k = 3 := by omega
    rcases hk5 with rfl | hk4
    · clear hr hm hL
      have HE : Hid (r = 0) := Lib.hid (by rw [HW.out, HR.out 0 (by omega), HR.out 1 (by omega), HR.out 2 (by omega), HR.out 3 (by omega)]; rfl)
      go_wp2
      go_ret
      exact ⟨by rw [HE.out]; rfl, HL.out, HM.out⟩
    · rcases hk4 with rfl | rfl | rfl | rfl
      · have c0 := blk_cell 0 hr rfl
        have c1 := blk_cell 1 hr rfl
        simp only [List.getElem_toArray, List.getElem_cons_zero, List.getElem_cons_succ] at c0 c1
        clear hr hm hL
        have HWK : Hid (rb 0 = true → r = 1) := Lib.hid (fun e => by rw [HW.out, e]; rfl)
        generalize hbb : rb 0 = bb at R1 HWK
        have HBB := Lib.hid hbb
        clear hbb
        go_upto_region 4 with (fail)
        obtain ⟨V, hV⟩ : ∃ V : World, V = wr.alloc (.cells #[.int .i64 1, .func (.func 136) #[] #[]] 171) := ⟨_, rfl⟩
        rw [← hV]
        have hbV : Below wr.heap.size wr V := by rw [hV]; exact (Below.refl _ _).alloc (Nat.le_refl _) _
        have hcV : V.heap[wr.heap.size]? = some (.cells #[.int .i64 1, .func (.func 136) #[] #[]] 171 (0, 0)) := by rw [hV]; exact alloc_atE _ _ rfl
        have HMV := Lib.hid (HM.out.below hbV)
        have HRV := Lib.hid ((hbV.block _ rz).trans HRB.out)
        have HLV := Lib.hid (HL.out.trans (.of_below hbV))
        have HCV := Lib.hid hcV
        have v0 := blk_cell 0 hcV rfl
        have v1 := blk_cell 1 hcV rfl
        simp only [List.getElem_toArray, List.getElem_cons_zero, List.getElem_cons_succ] at v0 v1
        have vz := lt_of_block hcV
        have NU := Lib.hid (R1.out V HMV.out)
        clear hV hbV hcV c0 c1
        cases bb
        · go_wp2_with (go_at_call 136; go_must ((with_reducible refine NU.out.mono ?_); rintro e w3 ⟨rfl, hl3, ht3⟩; dsimp only))
          go_roundw
          case rel => exact ⟨1, by omega, by go_num, Lib.hid (rules_more HR.out HBB.out), hl3.cellsB HMV.out HRV.out, ht3, HLV.out.trans hl3⟩
          case measure => simp [intOf]
        · have HE := Lib.hid (HWK.out rfl)
          go_upto_region 5 with (go_at_call 136; go_must ((with_reducible refine NU.out.mono ?_); rintro e w3 ⟨rfl, hl3, ht3⟩; dsimp only))
          have hc3 := hl3.cellsB HMV.out HCV.out
          have u0 := blk_cell 0 hc3 rfl
          have uz := lt_of_block hc3
          simp only [List.getElem_toArray, List.getElem_cons_zero] at u0
          clear hc3 v0 v1 vz
          go_wp2
          go_ret
          exact ⟨by rw [HE.out]; rfl, HLV.out.trans hl3, ht3⟩
      · have c0 := blk_cell 2 hr rfl
        have c1 := blk_cell 3 hr rfl
        simp only [List.getElem_toArray, List.getElem_cons_zero, List.getElem_cons_succ] at c0 c1
        clear hr hm hL
        have HWK : Hid (rb 1 = true → r = 2) := Lib.hid (fun e => by rw [HW.out, HR.out 0 (by omega), e]; rfl)
        generalize hbb : rb 1 = bb at R2 HWK
        have HBB := Lib.hid hbb
        clear hbb
        go_upto_region 4 with (fail)
        obtain ⟨V, hV⟩ : ∃ V : World, V = wr.alloc (.cells #[.int .i64 2, .func (.func 138) #[] #[]] 171) := ⟨_, rfl⟩
        rw [← hV]
        have hbV : Below wr.heap.size wr V := by rw [hV]; exact (Below.refl _ _).alloc (Nat.le_refl _) _
        have hcV : V.heap[wr.heap.size]? = some (.cells #[.int .i64 2, .func (.func 138) #[] #[]] 171 (0, 0)) := by rw [hV]; exact alloc_atE _ _ rfl
        have HMV := Lib.hid (HM.out.below hbV)
        have HRV := Lib.hid ((hbV.block _ rz).trans HRB.out)
        have HLV := Lib.hid (HL.out.trans (.of_below hbV))
        have HCV := Lib.hid hcV
        have v0 := blk_cell 0 hcV rfl
        have v1 := blk_cell 1 hcV rfl
        simp only [List.getElem_toArray, List.getElem_cons_zero, List.getElem_cons_succ] at v0 v1
        have vz := lt_of_block hcV
        have NU := Lib.hid (R2.out V HMV.out)
        clear hV hbV hcV c0 c1
        cases bb
        · go_wp2_with (go_at_call 138; go_must ((with_reducible refine NU.out.mono ?_); rintro e w3 ⟨rfl, hl3, ht3⟩; dsimp only))
          go_roundw
          case rel => exact ⟨2, by omega, by go_num, Lib.hid (rules_more HR.out HBB.out), hl3.cellsB HMV.out HRV.out, ht3, HLV.out.trans hl3⟩
          case measure => simp [intOf]
        · have HE := Lib.hid (HWK.out rfl)
          go_upto_region 5 with (go_at_call 138; go_must ((with_reducible refine NU.out.mono ?_); rintro e w3 ⟨rfl, hl3, ht3⟩; dsimp only))
          have hc3 := hl3.cellsB HMV.out HCV.out
          have u0 := blk_cell 0 hc3 rfl
          have uz := lt_of_block hc3
          simp only [List.getElem_toArray, List.getElem_cons_zero] at u0
          clear hc3 v0 v1 vz
          go_wp2
          go_ret
          exact ⟨by rw [HE.out]; rfl, HLV.out.trans hl3, ht3⟩
      · have c0 := blk_cell 4 hr rfl
        have c1 := blk_cell 5 hr rfl
        simp only [List.getElem_toArray, List.getElem_cons_zero, List.getElem_cons_succ] at c0 c1
        clear hr hm hL
        have HWK : Hid (rb 2 = true → r = 3) := Lib.hid (fun e => by rw [HW.out, HR.out 0 (by omega), HR.out 1 (by omega), e]; rfl)
        generalize hbb : rb 2 = bb at R3 HWK
        have HBB := Lib.hid hbb
        clear hbb
        go_upto_region 4 with (fail)
        obtain ⟨V, hV⟩ : ∃ V : World, V = wr.alloc (.cells #[.int .i64 3, .func (.func 139) #[] #[]] 171) := ⟨_, rfl⟩
        rw [← hV]
        have hbV : Below wr.heap.size wr V := by rw [hV]; exact (Below.refl _ _).alloc (Nat.le_refl _) _
        have hcV : V.heap[wr.heap.size]? = some (.cells #[.int .i64 3, .func (.func 139) #[] #[]] 171 (0, 0)) := by rw [hV]; exact alloc_atE _ _ rfl
        have HMV := Lib.hid (HM.out.below hbV)
        have HRV := Lib.hid ((hbV.block _ rz).trans HRB.out)
        have HLV := Lib.hid (HL.out.trans (.of_below hbV))
        have HCV := Lib.hid hcV
        have v0 := blk_cell 0 hcV rfl
        have v1 := blk_cell 1 hcV rfl
        simp only [List.getElem_toArray, List.getElem_cons_zero, List.getElem_cons_succ] at v0 v1
        have vz := lt_of_block hcV
        have NU := Lib.hid (R3.out V HMV.out)
        clear hV hbV hcV c0 c1
        cases bb
        · go_wp2_with (go_at_call 139; go_must ((with_reducible refine NU.out.mono ?_); rintro e w3 ⟨rfl, hl3, ht3⟩; dsimp only))
          go_roundw
          case rel => exact ⟨3, by omega, by go_num, Lib.hid (rules_more HR.out HBB.out), hl3.cellsB HMV.out HRV.out, ht3, HLV.out.trans hl3⟩
          case measure => simp [intOf]
        · have HE := Lib.hid (HWK.out rfl)
          go_upto_region 5 with (go_at_call 139; go_must ((with_reducible refine NU.out.mono ?_); rintro e w3 ⟨rfl, hl3, ht3⟩; dsimp only))
          have hc3 := hl3.cellsB HMV.out HCV.out
          have u0 := blk_cell 0 hc3 rfl
          have uz := lt_of_block hc3
          simp only [List.getElem_toArray, List.getElem_cons_zero] at u0
          clear hc3 v0 v1 vz
          go_wp2
          go_ret
          exact ⟨by rw [HE.out]; rfl, HLV.out.trans hl3, ht3⟩
      · have c0 := blk_cell 6 hr rfl
        have c1 := blk_cell 7 hr rfl
        simp only [List.getElem_toArray, List.getElem_cons_zero, List.getElem_cons_succ] at c0 c1
        clear hr hm hL
        have HWK : Hid (rb 3 = true → r = 4) := Lib.hid (fun e => by rw [HW.out, HR.out 0 (by omega), HR.out 1 (by omega), HR.out 2 (by omega), e]; rfl)
        generalize hbb : rb 3 = bb at R4 HWK
        have HBB := Lib.hid hbb
        clear hbb
        go_upto_region 4 with (fail)
        obtain ⟨V, hV⟩ : ∃ V : World, V = wr.alloc (.cells #[.int .i64 4, .func (.func 140) #[] #[]] 171) := ⟨_, rfl⟩
        rw [← hV]
        have hbV : Below wr.heap.size wr V := by rw [hV]; exact (Below.refl _ _).alloc (Nat.le_refl _) _
        have hcV : V.heap[wr.heap.size]? = some (.cells #[.int .i64 4, .func (.func 140) #[] #[]] 171 (0, 0)) := by rw [hV]; exact alloc_atE _ _ rfl
        have HMV := Lib.hid (HM.out.below hbV)
        have HRV := Lib.hid ((hbV.block _ rz).trans HRB.out)
        have HLV := Lib.hid (HL.out.trans (.of_below hbV))
        have HCV := Lib.hid hcV
        have v0 := blk_cell 0 hcV rfl
        have v1 := blk_cell 1 hcV rfl
        simp only [List.getElem_toArray, List.getElem_cons_zero, List.getElem_cons_succ] at v0 v1
        have vz := lt_of_block hcV
        have NU := Lib.hid (R4.out V HMV.out)
        clear hV hbV hcV c0 c1
        cases bb
        · go_wp2_with (go_at_call 140; go_must ((with_reducible refine NU.out.mono ?_); rintro e w3 ⟨rfl, hl3, ht3⟩; dsimp only))
          go_roundw
          case rel => exact ⟨4, by omega, by go_num, Lib.hid (rules_more HR.out HBB.out), hl3.cellsB HMV.out HRV.out, ht3, HLV.out.trans hl3⟩
          case measure => simp [intOf]
        · have HE := Lib.hid (HWK.out rfl)
          go_upto_region 5 with (go_at_call 140; go_must ((with_reducible refine NU.out.mono ?_); rintro e w3 ⟨rfl, hl3, ht3⟩; dsimp only))
          have hc3 := hl3.cellsB HMV.out HCV.out
          have u0 := blk_cell 0 hc3 rfl
          have uz := lt_of_block hc3
          simp only [List.getElem_toArray, List.getElem_cons_zero] at u0
          clear hc3 v0 v1 vz
          go_wp2
          go_ret
          exact ⟨by rw [HE.out]; rfl, HLV.out.trans hl3, ht3⟩
end Go.Proofs.YtklconegomgjaaaGreat
namespace Go.Proofs.YtklconegomgjaaaGreat
open Go Go.RowKit Go.Shelf

def Sml (x : Int) : Prop := -1000 ≤ x ∧ x ≤ 1000
theorem okI_sml {n : Int} (h : Sml n) : (Lit.int .i64 n).wf = true := by
  unfold Lit.wf
  have e1 : IntKind.min .i64 = -9223372036854775808 := by decide
  have e2 : IntKind.max .i64 = 9223372036854775807 := by decide
  simp only [e1, e2, Bool.and_eq_true, decide_eq_true_eq]
  have := h.1
  have := h.2
  omega
theorem lits_int (m : Nat) {x : Int} (hx : Sml x) : Tryz.prog.keyLits (m + 1) 3 [.int .i64 x] = some [.int .i64 x] := by
  have h4 : Tryz.prog.underlying 3 = some (.int .i64) := by kernel_rfl
  unfold Program.keyLits
  simp only [h4, okI_sml hx, and_self, if_true]
theorem lits_bool (m : Nat) (x : Bool) : Tryz.prog.keyLits (m + 1) 4 [.bool x] = some [.bool x] := by
  have h4 : Tryz.prog.underlying 4 = some .bool := by kernel_rfl
  unfold Program.keyLits
  simp only [h4]
set_option maxRecDepth 100000 in
theorem span_lits (n : Nat) {a b : Int} (ha : Sml a) (hb : Sml b) : Tryz.prog.keyLits (n + 1 + 1) 36 [.int .i64 a, .int .i64 b] = some [.int .i64 a, .int .i64 b] := by
  have h1 : (match Tryz.prog.underlying 36 with | some (.struct fs) => (fs.toList.map fun f => (f.type, f.offset)) == [(3, 0), (3, 1)] && fs.all (fun f => f.name != "_") | _ => false) = true := by kernel_rfl
  have h5 : Tryz.prog.cellsOf 3 = 1 := by kernel_rfl
  have h6 : Tryz.prog.cellsOf 36 = 2 := by kernel_rfl
  cases hu : Tryz.prog.underlying 36 with
  | none => rw [hu] at h1; cases h1
  | some kd =>
    rw [hu] at h1
    cases kd with
    | struct fs =>
      simp only [Bool.and_eq_true, beq_iff_eq] at h1
      obtain ⟨g1, g2⟩ := h1
      unfold Program.keyLits
      rw [hu]
      obtain ⟨L⟩ := fs
      simp only at g1 g2 ⊢
      match L, g1 with
      | [f0, f1], g1 =>
        simp only [List.map_cons, List.map_nil, List.cons.injEq, Prod.mk.injEq, and_true] at g1
        obtain ⟨⟨t0, o0⟩, t1, o1⟩ := g1
        simp only [h6, List.length_cons, List.length_nil, Nat.zero_add, Nat.reduceAdd, g2, and_self, if_true, List.mapM_cons, List.mapM_nil, t0, o0, t1, o1, h5, List.drop_zero, List.drop_succ_cons, List.take_succ_cons, List.take_zero, lits_int n ha, lits_int n hb]
        rfl
    | _ => simp at h1
set_option maxRecDepth 100000 in
theorem tie_lits (n : Nat) {a b : Int} (s : Bool) (ha : Sml a) (hb : Sml b) : Tryz.prog.keyLits (n + 1 + 1) 44 [.int .i64 a, .int .i64 b, .bool s] = some [.int .i64 a, .int .i64 b, .bool s] := by
  have h1 : (match Tryz.prog.underlying 44 with | some (.struct fs) => (fs.toList.map fun f => (f.type, f.offset)) == [(3, 0), (3, 1), (4, 2)] && fs.all (fun f => f.name != "_") | _ => false) = true := by kernel_rfl
  have h5 : Tryz.prog.cellsOf 3 = 1 := by kernel_rfl
  have h7 : Tryz.prog.cellsOf 4 = 1 := by kernel_rfl
  have h6 : Tryz.prog.cellsOf 44 = 3 := by kernel_rfl
  cases hu : Tryz.prog.underlying 44 with
  | none => rw [hu] at h1; cases h1
  | some kd =>
    rw [hu] at h1
    cases kd with
    | struct fs =>
      simp only [Bool.and_eq_true, beq_iff_eq] at h1
      obtain ⟨g1, g2⟩ := h1
      unfold Program.keyLits
      rw [hu]
      obtain ⟨L⟩ := fs
      simp only at g1 g2 ⊢
      match L, g1 with
      | [f0, f1, f2], g1 =>
        simp only [List.map_cons, List.map_nil, List.cons.injEq, Prod.mk.injEq, and_true] at g1
        obtain ⟨⟨t0, o0⟩, ⟨t1, o1⟩, t2, o2⟩ := g1
        simp only [h6, List.length_cons, List.length_nil, Nat.zero_add, Nat.reduceAdd, g2, and_self, if_true, List.mapM_cons, List.mapM_nil, t0, o0, t1, o1, t2, o2, h5, h7, List.drop_zero, List.drop_succ_cons, List.take_succ_cons, List.take_zero, lits_int n ha, lits_int n hb, lits_bool n s]
        rfl
    | _ => simp at h1
set_option maxRecDepth 100000 in
theorem ps_lits (n : Nat) {a b c d e f : Int} (ha : Sml a) (hb : Sml b) (hc : Sml c) (hd : Sml d) (he : Sml e) (hf : Sml f) : Tryz.prog.keyLits (n + 1 + 1) 109 [.int .i64 a, .int .i64 b, .int .i64 c, .int .i64 d, .int .i64 e, .int .i64 f] = some [.int .i64 a, .int .i64 b, .int .i64 c, .int .i64 d, .int .i64 e, .int .i64 f] := by
  have h5 : Tryz.prog.cellsOf 3 = 1 := by kernel_rfl
  have h8 : Tryz.prog.cellsOf 109 = 6 := by kernel_rfl
  have h9 : Tryz.prog.underlying 109 = some (.array 6 3) := by kernel_rfl
  unfold Program.keyLits
  rw [h9]
  simp only [h8, h5, List.length_cons, List.length_nil, Nat.zero_add, Nat.reduceAdd, if_true]
  rw [show List.range 6 = [0, 1, 2, 3, 4, 5] from rfl]
  simp only [List.mapM_cons, List.mapM_nil, Nat.zero_mul, Nat.one_mul, Nat.reduceMul, List.drop_zero, List.drop_succ_cons, List.take_succ_cons, List.take_zero, lits_int n ha, lits_int n hb, lits_int n hc, lits_int n hd, lits_int n he, lits_int n hf]
  rfl
theorem span_eqE {a b c d : Int} (ha : Sml a) (hb : Sml b) (hc : Sml c) (hd : Sml d) (w : World) :
    (Op.equalIn 10000 36 (.agg #[.int .i64 a, .int .i64 b]) (.agg #[.int .i64 c, .int .i64 d])).run Tryz.prog w = .ok (decide (a = c ∧ b = d)) w := by
  obtain ⟨r, hr, hi⟩ := run_equalIn_deep (P := Tryz.prog) 9998 2 36 (by kernel_rfl) w 2 2 (.agg #[.int .i64 a, .int .i64 b]) (.agg #[.int .i64 c, .int .i64 d]) _ _ (by kernel_rfl) (by kernel_rfl) (span_lits 0 ha hb) (span_lits 0 hc hd)
  have e : r = decide (a = c ∧ b = d) := by
    rw [Bool.eq_iff_iff, hi]
    simp only [List.cons.injEq, Lit.int.injEq, true_and, and_true, decide_eq_true_eq]
  rw [e] at hr
  exact hr
theorem tie_eqE {a b c d : Int} {s u : Bool} (ha : Sml a) (hb : Sml b) (hc : Sml c) (hd : Sml d) (w : World) :
    (Op.equalIn 10000 44 (.agg #[.int .i64 a, .int .i64 b, .bool s]) (.agg #[.int .i64 c, .int .i64 d, .bool u])).run Tryz.prog w = .ok (decide (a = c ∧ b = d ∧ s = u)) w := by
  obtain ⟨r, hr, hi⟩ := run_equalIn_deep (P := Tryz.prog) 9998 2 44 (by kernel_rfl) w 2 2 (.agg #[.int .i64 a, .int .i64 b, .bool s]) (.agg #[.int .i64 c, .int .i64 d, .bool u]) _ _ (by kernel_rfl) (by kernel_rfl) (tie_lits 0 s ha hb) (tie_lits 0 u hc hd)
  have e : r = decide (a = c ∧ b = d ∧ s = u) := by
    rw [Bool.eq_iff_iff, hi]
    simp only [List.cons.injEq, Lit.int.injEq, Lit.bool.injEq, true_and, and_true, decide_eq_true_eq]
  rw [e] at hr
  exact hr
theorem pAt_sml {p : List Int} (h : PsOk p) (i : Nat) : Sml (pAt p i) := by have := h.at i; exact ⟨by omega, by omega⟩
theorem ps_eqE {p q : List Int} (hp : PsOk p) (hq : PsOk q) (w : World) :
    (Op.equalIn 10000 109 (psV p) (psV q)).run Tryz.prog w = .ok (decide (p = q)) w := by
  obtain ⟨r, hr, hi⟩ := run_equalIn_deep (P := Tryz.prog) 9998 2 109 (by kernel_rfl) w 2 2 (psV p) (psV q) _ _ (by kernel_rfl) (by kernel_rfl) (ps_lits 0 (pAt_sml hp 0) (pAt_sml hp 1) (pAt_sml hp 2) (pAt_sml hp 3) (pAt_sml hp 4) (pAt_sml hp 5)) (ps_lits 0 (pAt_sml hq 0) (pAt_sml hq 1) (pAt_sml hq 2) (pAt_sml hq 3) (pAt_sml hq 4) (pAt_sml hq 5))
  have e : r = decide (p = q) := by
    rw [Bool.eq_iff_iff, hi, decide_eq_true_eq]
    constructor
    · intro e
      refine psV_inj hp.1 hq.1 ?_
      simp only [List.cons.injEq, Lit.int.injEq, true_and, and_true] at e
      obtain ⟨e0, e1, e2, e3, e4, e5⟩ := e
      simp only [psV, e0, e1, e2, e3, e4, e5]
    · rintro rfl; rfl
  rw [e] at hr
  exact hr
end Go.Proofs.YtklconegomgjaaaGreat
