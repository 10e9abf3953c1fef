/- What is proved here: contracts of the reference of layer 12: Day, So. Conditions: the room lies in memory and is valid. -/
/- What is proved here: contracts of the reference of layer 12: index, asked. Conditions: the room lies in memory. -/
/- What is proved here: growing slices of rows of which some are older, and the contract of the reference's Sets of layer 12. Conditions: the room lies in memory and is valid. -/
/- What is proved here: contracts of the reference of layer 12: Truths. Conditions: the room lies in memory and is valid. -/
import Derived.Test.YtmhbjohpggghgaaSrA
import Derived.Shelf.RegionOpen
import Derived.Test.YtmhbjohpggghgaaRef1C
import Derived.Deep.DeepCutAuto
set_option linter.unusedVariables false
set_option linter.unusedSimpArgs false
namespace Go.Proofs.Ytmhbjohpggghgaa
open Go Go.RowKit Go.Shelf

theorem letters_bd {r : SeRoom} (hv : SeValid r) : ∀ x ∈ r.letters, 0 ≤ x.day ∧ x.day ≤ 10 ∧ 0 ≤ x.secrets ∧ x.secrets ≤ 8 := fun x hx => by
  obtain ⟨i, hi, rfl⟩ := List.getElem_of_mem hx
  have h := hv.letters i hi
  have h3 := hv.nk
  have : (2 : Int) ^ r.kept.length ≤ 8 := by
    have : r.kept.length = 0 ∨ r.kept.length = 1 ∨ r.kept.length = 2 ∨ r.kept.length = 3 := by omega
    rcases this with e | e | e | e <;> rw [e] <;> decide
  omega
theorem fromD_days {r : SeRoom} {letters : List SeLetter} (t : List Int) (s : Nat) (h : ∀ x ∈ letters, 0 ≤ x.day) : Days (fromD r letters t s) := (startDay_days s h).rounds _

set_option maxRecDepth 100000 in
set_option maxHeartbeats 1000000 in
theorem RDay_any (a1 a2 a3 a4 a5 : Option Addr) (k1 k2 k3 k4 k5 : Nat) (r : SeRoom) (ta : Option Addr) (t : List Int) (tc u s : Nat) (w : World) (hm : RoomC w a1 a2 a3 a4 a5 k1 k2 k3 k4 k5 r) (hv : SeValid r) (hto : SlOk ta t.length tc) (htc : IntsC w ta t) (htb : ∀ x ∈ t, 0 ≤ x ∧ x < r.leaks.length) (hu : u < r.writers.length) (hs : s ≤ 3) :
    Calls Try.prog 40 #[(.agg #[.slice a1 r.writers.length k1, .slice a2 r.kept.length k2, .slice a3 r.leaks.length k3, .slice a4 r.letters.length k4, .slice a5 r.heard.length k5]), .slice ta t.length tc, .int .i64 (u : Int), .int .i64 (s : Int)] w fun e w' => e = .returned (.int .i64 (dayOf r t u s)) ∧ Below w.heap.size w w' := by
  have hB := Below.refl (w.heap.size + 1) (w.alloc (.cells #[.slice a1 r.writers.length k1, .slice a2 r.kept.length k2, .slice a3 r.leaks.length k3, .slice a4 r.letters.length k4, .slice a5 r.heard.length k5] 28))
  have F := RFrom_any a1 a2 a3 a4 a5 k1 k2 k3 k4 k5 r a4 ta r.letters t k4 tc s (w.alloc (.cells #[.slice a1 r.writers.length k1, .slice a2 r.kept.length k2, .slice a3 r.leaks.length k3, .slice a4 r.letters.length k4, .slice a5 r.heard.length k5] 28)) (hm.mono (box_old hB)) hv hm.ok4 (hm.mono (box_old hB)).letters (letters_bd hv) hto (htc.mono (box_old hB)) htb hs
  rw [show (w.alloc (.cells #[.slice a1 r.writers.length k1, .slice a2 r.kept.length k2, .slice a3 r.leaks.length k3, .slice a4 r.letters.length k4, .slice a5 r.heard.length k5] 28)).heap.size = w.heap.size + 1 by simp] at F
  have HB := fromD_days (r := r) (letters := r.letters) t s (fun x hx => (letters_bd hv x hx).1) u
  have HD : Hid (dayOf r t u s = min 10 (fromD r r.letters t s u)) := rfl
  generalize dayOf r t u s = res at HD ⊢
  have HFC := Lib.hid (fun W (h : FromW (w.alloc (.cells #[.slice a1 r.writers.length k1, .slice a2 r.kept.length k2, .slice a3 r.leaks.length k3, .slice a4 r.letters.length k4, .slice a5 r.heard.length k5] 28)) W a1 a2 a3 a4 a5 k1 k2 k3 k4 k5 r (fromD r r.letters t s)) => (show W.cell? ⟨w.heap.size + 1 + 1, u, none⟩ = some (.int .i64 (fromD r r.letters t s u)) from by have := h.cell u hu; rwa [show (w.alloc (.cells #[.slice a1 r.writers.length k1, .slice a2 r.kept.length k2, .slice a3 r.leaks.length k3, .slice a4 r.letters.length k4, .slice a5 r.heard.length k5] 28)).heap.size = w.heap.size + 1 by simp] at this))
  have hul : (u : Int) < r.writers.length := by omega
  have F := Lib.hid F
  generalize fromD r r.letters t s u = d at HB HD HFC
  go_enter Try.func40, Try.ntmps40
  go_wp2_with (go_at_call 104; go_must ((with_reducible refine F.out.mono ?_); rintro e w2 ⟨rfl, hF⟩; have c0 := HFC.out w2 hF; have z0 := lt_of_cell c0; dsimp only))
  all_goals go_ret
  all_goals refine ⟨ret_int ?_, box_old (hF.1.mono (by simp))⟩
  all_goals rw [HD.out]
  all_goals omega

set_option maxRecDepth 100000 in
set_option maxHeartbeats 1000000 in
theorem RSo_any (a1 a2 a3 a4 a5 : Option Addr) (k1 k2 k3 k4 k5 : Nat) (r : SeRoom) (x : SeHeard) (ta : Option Addr) (t : List Int) (tc : Nat) (w : World) (hm : RoomC w a1 a2 a3 a4 a5 k1 k2 k3 k4 k5 r) (hv : SeValid r) (hto : SlOk ta t.length tc) (htc : IntsC w ta t) (htb : ∀ x ∈ t, 0 ≤ x ∧ x < r.leaks.length) (hx : x ∈ r.heard) :
    Calls Try.prog 105 #[(.agg #[.slice a1 r.writers.length k1, .slice a2 r.kept.length k2, .slice a3 r.leaks.length k3, .slice a4 r.letters.length k4, .slice a5 r.heard.length k5]), .agg #[.int .i64 x.writer, .int .i64 x.secret, .int .i64 x.day, .bool x.knew], .slice ta t.length tc] w fun e w' => e = .returned (.bool (soB r x t)) ∧ Below w.heap.size w w' := by
  obtain ⟨i, hi, rfl⟩ := List.getElem_of_mem hx
  have hxv := hv.heard i hi
  have vk := hv.nk
  clear hx
  generalize r.heard[i] = x at hxv ⊢
  have HS : Hid (soB r x t = (x.knew == leI (dayOf r t x.writer.toNat x.secret.toNat) x.day)) := rfl
  generalize soB r x t = res at HS ⊢
  obtain ⟨hw, hs, hd, hn⟩ := x
  simp only at hxv HS ⊢
  obtain ⟨u, rfl⟩ : ∃ u : Nat, hw = u := ⟨hw.toNat, by omega⟩
  obtain ⟨s, rfl⟩ : ∃ s : Nat, hs = s := ⟨hs.toNat, by omega⟩
  simp only [Int.toNat_natCast] at HS
  have D := Lib.hid (fun (V : World) (hb : Below w.heap.size w V) => RDay_any a1 a2 a3 a4 a5 k1 k2 k3 k4 k5 r ta t tc u s V (hm.mono hb) hv hto (htc.mono hb) htb (by omega) (by omega))
  generalize dayOf r t u s = d at D HS
  obtain ⟨X, hX⟩ : ∃ X : World, X = (w.alloc (.cells #[.slice a1 r.writers.length k1, .slice a2 r.kept.length k2, .slice a3 r.leaks.length k3, .slice a4 r.letters.length k4, .slice a5 r.heard.length k5] 28)).alloc (.cells #[.int .i64 (u : Int), .int .i64 (s : Int), .int .i64 hd, .bool hn] 74) := ⟨_, rfl⟩
  have hXb : Below w.heap.size w X := by rw [hX]; exact (by (repeat' (first | assumption | exact Below.refl _ _ | refine below_drew' ?_ | refine Below.setCell ?_ (by first | omega | (simp <;> omega)) _ | refine Below.alloc ?_ (by first | omega | (simp <;> omega)) _)))
  have h0 : X.heap[w.heap.size]? = some (.cells #[.slice a1 r.writers.length k1, .slice a2 r.kept.length k2, .slice a3 r.leaks.length k3, .slice a4 r.letters.length k4, .slice a5 r.heard.length k5] 28 (0, 0)) := by rw [hX]; exact (heap_alloc_old _ _ (by simp)).trans (alloc_at _ _ rfl)
  have h1 : X.heap[w.heap.size + 1]? = some (.cells #[.int .i64 (u : Int), .int .i64 (s : Int), .int .i64 hd, .bool hn] 74 (0, 0)) := by rw [hX]; exact alloc_at _ _ (by simp)
  have KE : Hid (∀ V, Below X.heap.size X V → (Below X.heap.size X V ∧ V.cell? ⟨w.heap.size, 0, none⟩ = some (.slice a1 r.writers.length k1) ∧ V.cell? ⟨w.heap.size, 1, none⟩ = some (.slice a2 r.kept.length k2) ∧ V.cell? ⟨w.heap.size, 2, none⟩ = some (.slice a3 r.leaks.length k3) ∧ V.cell? ⟨w.heap.size, 3, none⟩ = some (.slice a4 r.letters.length k4) ∧ V.cell? ⟨w.heap.size, 4, none⟩ = some (.slice a5 r.heard.length k5) ∧ V.cell? ⟨w.heap.size + 1, 0, none⟩ = some (.int .i64 (u : Int)) ∧ V.cell? ⟨w.heap.size + 1, 1, none⟩ = some (.int .i64 (s : Int)) ∧ V.cell? ⟨w.heap.size + 1, 2, none⟩ = some (.int .i64 hd) ∧ V.cell? ⟨w.heap.size + 1, 3, none⟩ = some (.bool hn) ∧ w.heap.size < V.heap.size ∧ w.heap.size + 1 < V.heap.size)) := Lib.hid (fun V h => by
    have h0 := (h.block _ (lt_of_block h0)).trans h0
    have h1 := (h.block _ (lt_of_block h1)).trans h1
    exact ⟨h, blk_cell 0 h0 rfl, blk_cell 1 h0 rfl, blk_cell 2 h0 rfl, blk_cell 3 h0 rfl, blk_cell 4 h0 rfl, blk_cell 0 h1 rfl, blk_cell 1 h1 rfl, blk_cell 2 h1 rfl, blk_cell 3 h1 rfl, lt_of_block h0, lt_of_block h1⟩)
  have HXM : Hid (∀ V, Below X.heap.size X V → Below w.heap.size w V) := Lib.hid (fun V h => hXb.trans (h.mono hXb.size))
  go_enter Try.func105, Try.ntmps105
  go_upto_region 1 with (fail)
  rw [← hX]
  clear hX h0 h1
  apply wp_mid _ (fun V => Below X.heap.size X V)
  · have hg0 : Below X.heap.size X X.drew := below_drew' (Below.refl _ _)
    go_region_held3 (fun V => Below X.heap.size X V ∧ V.cell? ⟨w.heap.size, 0, none⟩ = some (.slice a1 r.writers.length k1) ∧ V.cell? ⟨w.heap.size, 1, none⟩ = some (.slice a2 r.kept.length k2) ∧ V.cell? ⟨w.heap.size, 2, none⟩ = some (.slice a3 r.leaks.length k3) ∧ V.cell? ⟨w.heap.size, 3, none⟩ = some (.slice a4 r.letters.length k4) ∧ V.cell? ⟨w.heap.size, 4, none⟩ = some (.slice a5 r.heard.length k5) ∧ V.cell? ⟨w.heap.size + 1, 0, none⟩ = some (.int .i64 (u : Int)) ∧ V.cell? ⟨w.heap.size + 1, 1, none⟩ = some (.int .i64 (s : Int)) ∧ V.cell? ⟨w.heap.size + 1, 2, none⟩ = some (.int .i64 hd) ∧ V.cell? ⟨w.heap.size + 1, 3, none⟩ = some (.bool hn) ∧ w.heap.size < V.heap.size ∧ w.heap.size + 1 < V.heap.size) (first | exact KE.out _ hg0 | exact KE.out _ hg1) (first
      | (go_at_call 40; refine (D.out _ (HXM.out _ (And.left (by assumption)))).mono ?_; rintro e w2 ⟨rfl, hgs⟩; have hg1 := hg0.trans (hgs.mono hg0.size); dsimp only))
    exact ⟨rfl, hg1⟩
  intro V hgV
  go_wp2
  go_ret
  exact ⟨ret_bool (by rw [HS.out]; rfl), hXb.trans (hgV.mono hXb.size)⟩
end Go.Proofs.Ytmhbjohpggghgaa
namespace Go.Proofs.Ytmhbjohpggghgaa
open Go Go.RowKit Go.Shelf

set_option maxRecDepth 100000 in
set_option maxHeartbeats 1000000 in
theorem RIndex_any (a1 a2 a3 a4 a5 : Option Addr) (k1 k2 k3 k4 k5 : Nat) (r : SeRoom) (n below : Int) (w : World) (hm : RoomC w a1 a2 a3 a4 a5 k1 k2 k3 k4 k5 r) (hb0 : 0 ≤ below) (hb1 : below ≤ 9223372036854775807) :
    Calls Try.prog 86 #[(.agg #[.slice a1 r.writers.length k1, .slice a2 r.kept.length k2, .slice a3 r.leaks.length k3, .slice a4 r.letters.length k4, .slice a5 r.heard.length k5]), .int .i64 n, .int .i64 below] w fun e w' => e = .returned (.int .i64 (indexErr r n below)) ∧ Below w.heap.size w w' := by
  have HS : Hid (indexErr r n below = if (seCheck r).2.2 = 0 then (if inB n 0 (below - 1) then 0 else 4) else (seCheck r).2.2) := rfl
  generalize indexErr r n below = res at HS ⊢
  have hB0 := Below.refl (w.heap.size + 1) (w.alloc (.cells #[.slice a1 r.writers.length k1, .slice a2 r.kept.length k2, .slice a3 r.leaks.length k3, .slice a4 r.letters.length k4, .slice a5 r.heard.length k5] 28))
  obtain ⟨x0, x1, x2, x3, x4, z0⟩ := box_room hB0
  have C := Lib.hid (RCheck_any a1 a2 a3 a4 a5 k1 k2 k3 k4 k5 r (w.alloc (.cells #[.slice a1 r.writers.length k1, .slice a2 r.kept.length k2, .slice a3 r.leaks.length k3, .slice a4 r.letters.length k4, .slice a5 r.heard.length k5] 28)) (hm.mono (box_old hB0)))
  generalize seCheck r = x at HS C
  obtain ⟨q1, q2, q3⟩ := x
  simp only at HS C
  have I := fun w' => In_any n 0 (below - 1) w'
  generalize inB n 0 (below - 1) = b at HS I
  have I := Lib.hid I
  by_cases h0 : q3 = 0
  · have h1 := eqi_t h0
    replace HS := Lib.hid (HS.out.trans (if_pos h0))
    clear h0
    cases b
    all_goals
      go_enter Try.func86, Try.ntmps86
      go_wp2_with (first
        | (go_at_call 76; (with_reducible refine (I.out _).mono ?_); rintro e w3 ⟨rfl, hw3⟩; obtain rfl := hw3.symm; dsimp only)
        | (go_at_call 17; (with_reducible refine C.out.mono ?_); rintro e w2 ⟨rfl, hb⟩; dsimp only))
      go_ret
      have := HS.out
      subst this
      exact ⟨by first | rfl | (have := h1; simp at this; simp [this]), box_old (hB0.trans (hb.mono (by simp)))⟩
  · have h1 := eqi_f h0
    replace HS := Lib.hid (HS.out.trans (if_neg h0))
    clear h0
    go_enter Try.func86, Try.ntmps86
    go_wp2_with (go_at_call 17; (with_reducible refine C.out.mono ?_); rintro e w2 ⟨rfl, hb⟩; dsimp only)
    go_ret
    have := HS.out
    subst this
    exact ⟨rfl, box_old (hB0.trans (hb.mono (by simp)))⟩

set_option maxRecDepth 100000 in
set_option maxHeartbeats 1000000 in
theorem RAsked_any (a1 a2 a3 a4 a5 : Option Addr) (k1 k2 k3 k4 k5 : Nat) (r : SeRoom) (u s : Int) (w : World) (hm : RoomC w a1 a2 a3 a4 a5 k1 k2 k3 k4 k5 r) :
    Calls Try.prog 82 #[(.agg #[.slice a1 r.writers.length k1, .slice a2 r.kept.length k2, .slice a3 r.leaks.length k3, .slice a4 r.letters.length k4, .slice a5 r.heard.length k5]), .int .i64 u, .int .i64 s] w fun e w' => e = .returned (.int .i64 (whoErr r u s)) ∧ Below w.heap.size w w' := by
  have HS : Hid (whoErr r u s = if indexErr r u r.writers.length = 0 then indexErr r s r.kept.length else indexErr r u r.writers.length) := rfl
  generalize whoErr r u s = res at HS ⊢
  have l1 := hm.ok1.len
  have l2 := hm.ok2.len
  have hB0 := Below.refl (w.heap.size + 1) (w.alloc (.cells #[.slice a1 r.writers.length k1, .slice a2 r.kept.length k2, .slice a3 r.leaks.length k3, .slice a4 r.letters.length k4, .slice a5 r.heard.length k5] 28))
  obtain ⟨x0, x1, x2, x3, x4, z0⟩ := box_room hB0
  have A := Lib.hid (RIndex_any a1 a2 a3 a4 a5 k1 k2 k3 k4 k5 r u r.writers.length (w.alloc (.cells #[.slice a1 r.writers.length k1, .slice a2 r.kept.length k2, .slice a3 r.leaks.length k3, .slice a4 r.letters.length k4, .slice a5 r.heard.length k5] 28)) (hm.mono (box_old hB0)) (by omega) (by omega))
  have B := Lib.hid (fun W (h : Below w.heap.size w W) => RIndex_any a1 a2 a3 a4 a5 k1 k2 k3 k4 k5 r s r.kept.length W (hm.mono h) (by omega) (by omega))
  generalize indexErr r u r.writers.length = e1 at A HS
  generalize indexErr r s r.kept.length = e2 at B HS
  have HN : Hid (∀ W, Below (w.alloc (.cells #[.slice a1 r.writers.length k1, .slice a2 r.kept.length k2, .slice a3 r.leaks.length k3, .slice a4 r.letters.length k4, .slice a5 r.heard.length k5] 28)).heap.size (w.alloc (.cells #[.slice a1 r.writers.length k1, .slice a2 r.kept.length k2, .slice a3 r.leaks.length k3, .slice a4 r.letters.length k4, .slice a5 r.heard.length k5] 28)) W → Below (w.heap.size + 1) (w.alloc (.cells #[.slice a1 r.writers.length k1, .slice a2 r.kept.length k2, .slice a3 r.leaks.length k3, .slice a4 r.letters.length k4, .slice a5 r.heard.length k5] 28)) W) := Lib.hid (fun W h => hB0.trans (h.mono (by simp)))
  by_cases h0 : e1 = 0
  · have h1 := eqi_t h0
    replace HS := Lib.hid (HS.out.trans (if_pos h0))
    clear h0
    go_enter Try.func82, Try.ntmps82
    go_wp2_with (first
      | (go_at_call 86; have hh := hb; (with_reducible refine (B.out w2 (box_old (HN.out _ hb))).mono ?_); rintro e w3 ⟨rfl, hb3⟩; dsimp only)
      | (go_at_call 86; (with_reducible refine A.out.mono ?_); rintro e w2 ⟨rfl, hb⟩; obtain ⟨x0, x1, x2, x3, x4, z0⟩ := box_room (HN.out _ hb); dsimp only))
    go_ret
    exact ⟨ret_int HS.out.symm, (box_old (HN.out _ hb)).trans (hb3.mono (box_old (HN.out _ hb)).size)⟩
  · have h1 := eqi_f h0
    replace HS := Lib.hid (HS.out.trans (if_neg h0))
    clear h0
    go_enter Try.func82, Try.ntmps82
    go_wp2_with (go_at_call 86; (with_reducible refine A.out.mono ?_); rintro e w2 ⟨rfl, hb⟩; dsimp only)
    go_ret
    exact ⟨ret_int HS.out.symm, box_old (HN.out _ hb)⟩
end Go.Proofs.Ytmhbjohpggghgaa
namespace Go.Proofs.Ytmhbjohpggghgaa
open Go Go.RowKit Go.Shelf

/-- A growing slice of slices of ints: the call's own; each row that has a number lies apart from the growing one. -/
def OwnR (w : World) (base : Nat) (e : TypeId) (v : Value) (L : List (List Int)) : Prop :=
  ∃ vs : List Value, w.ownsRow base e 1 v L.length vs ∧ ∀ i (_ : i < L.length), ∃ a c, vs[i]? = some (.slice a L[i].length c) ∧ SlOk a L[i].length c ∧
    IntsC w a L[i] ∧ (0 < L[i].length → ∀ ad, a = some ad → ad.block < w.heap.size ∧ some ad.block ≠ v.ownBlock)
theorem OwnR.nil (w : World) (base : Nat) (e : TypeId) : OwnR w base e (.slice none 0 0) [] := ⟨[], World.ownsRow_nil _ _ _ _, fun i hi => absurd hi (Nat.not_lt_zero i)⟩
theorem intsC_empty {w W : World} {a : Option Addr} {l : List Int} (h : l.length = 0) : IntsC W a l := fun i hi => by omega
theorem OwnR.kept {w W : World} {base : Nat} {e : TypeId} {v : Value} {L : List (List Int)} (h : OwnR w base e v L) (hb : Below w.heap.size w W) : OwnR W base e v L := by
  obtain ⟨vs, h1, h2⟩ := h
  have hg : w.grownBy W none := ⟨hb.os, hb.tape, hb.output, hb.size, fun k hk _ => hb.block k hk⟩
  refine ⟨vs, h1.kept hg ?_, fun i hi => ?_⟩
  · cases hv : v.ownBlock <;> simp
  · obtain ⟨a, c, e1, e2, e5, e6⟩ := h2 i hi
    exact ⟨a, c, e1, e2, e5.mono hb, fun hn ad ead => ⟨Nat.lt_of_lt_of_le (e6 hn ad ead).1 hb.size, (e6 hn ad ead).2⟩⟩
/-- Behind 'rows = append(rows, t)': t lies apart from the growing slice. -/
theorem OwnR.push {w w1 w2 : World} {base : Nat} {e : TypeId} {v v' : Value} {L : List (List Int)} {vs : List Value} {a : Option Addr} {t : List Int} {c : Nat} {tmp : Obj}
    (hvs : w.ownsRow base e 1 v L.length vs)
    (h2 : ∀ i (_ : i < L.length), ∃ a c, vs[i]? = some (.slice a L[i].length c) ∧ SlOk a L[i].length c ∧ IntsC w a L[i] ∧ (0 < L[i].length → ∀ ad, a = some ad → ad.block < w.heap.size ∧ some ad.block ≠ v.ownBlock))
    (hb : Below w.heap.size w w1) (ht : IntsC w1 a t) (hc : SlOk a t.length c) (hne : 0 < t.length → ∀ ad, a = some ad → ad.block < w1.heap.size ∧ some ad.block ≠ v.ownBlock)
    (hown : w2.ownsRow base e 1 v' (L.length + 1) (vs ++ [.slice a t.length c])) (hg : (w1.alloc tmp).grownBy w2 v.ownBlock) (hv : v'.ownBlock = v.ownBlock ∨ v'.ownBlock = some (w1.alloc tmp).heap.size) :
    OwnR w2 base e v' (L ++ [t]) := by
  have hb1 : Below w.heap.size w (w1.alloc tmp) := hb.alloc hb.size _
  have hlen : vs.length = L.length := by simpa using hvs.1
  refine ⟨_, by simpa using hown, fun i hi => ?_⟩
  have hsz := hb1.size
  by_cases h : i < L.length
  · obtain ⟨a', c', e1, e2, e5, e6⟩ := h2 i h
    refine ⟨a', c', ?_, ?_, ?_, ?_⟩
    · rw [List.getElem?_append_left (by omega), List.getElem_append_left h]
      exact e1
    · rw [List.getElem_append_left h]; exact e2
    · rw [List.getElem_append_left h]
      by_cases hn : L[i].length = 0
      · exact intsC_empty (w := w) hn
      · exact (e5.mono hb1).grown hg fun ad ead => (e6 (by omega) ad ead).2
    · rw [List.getElem_append_left h]
      intro hn ad ead
      have e7 := e6 hn ad ead
      have := hg.size
      simp at hsz this
      refine ⟨by omega, ?_⟩
      rcases hv with hv | hv
      · rw [hv]; exact e7.2
      · rw [hv]
        intro e'
        simp at e'
        omega
  · have hi' : i = L.length := by simp at hi; omega
    subst hi'
    refine ⟨a, c, ?_, ?_, ?_, ?_⟩
    · rw [List.getElem?_append_right (by omega)]
      simp [hlen]
    · simpa using hc
    · simp
      by_cases hn : t.length = 0
      · exact intsC_empty (w := w) hn
      · exact (ht.mono ((Below.refl _ _).alloc (Nat.le_refl _) _)).grown hg fun ad ead => (hne (by omega) ad ead).2
    · simp only [List.getElem_append_right (Nat.le_refl _), Nat.sub_self, List.getElem_cons_zero]
      intro hn ad ead
      have h1 := hne hn ad ead
      have := hg.size
      simp at this
      refine ⟨by omega, fun e' => ?_⟩
      rcases hv with hv | hv
      · rw [hv] at e'; exact h1.2 e'
      · rw [hv] at e'
        simp at e'
        omega
theorem OwnR.rows {w : World} {base : Nat} {e : TypeId} {v : Value} {L : List (List Int)} (h : OwnR w base e v L) : RowsV w v L := by
  obtain ⟨vs, h1, h2⟩ := h
  have hm : maxLen = 9223372036854775807 := rfl
  rcases h1.2 with ⟨rfl, h0⟩ | ⟨g, cap, cur, rfl, _, hg, h3, h4, h5, h6⟩
  · have : L = [] := List.eq_nil_of_length_eq_zero h0
    subst this
    exact ⟨none, 0, rfl, ⟨Nat.le_refl _, by omega, fun _ => rfl⟩, RowsC.nil _ _⟩
  · refine ⟨some ⟨g, 0, none⟩, cap, rfl, ⟨h3, by omega, fun h => by cases h⟩, fun i hi => ?_⟩
    obtain ⟨a, c, e1, e2, e5, _⟩ := h2 i hi
    refine ⟨g, 0, a, c, rfl, (Array.getElem?_eq_some_iff.1 hg).1, ?_, e2, e5⟩
    have := h1.cells (g := g) rfl i _ e1
    simpa [Addr.add_lit] using this
/-- An older row lies apart. -/
theorem old_apart {W0 w : World} {base : Nat} {e : TypeId} {v : Value} {n : Nat} {vs : List Value} {a : Option Addr} {t : List Int} (h : IntsC W0 a t) (hz : W0.heap.size ≤ base) (hw : W0.heap.size ≤ w.heap.size) {W : World} (hown : W.ownsRow base e 1 v n vs) : 0 < t.length → ∀ ad, a = some ad → ad.block < w.heap.size ∧ some ad.block ≠ v.ownBlock := fun hn ad e => by
  obtain ⟨b, off, e2, hlt, _⟩ := h 0 hn
  rw [e2] at e
  cases e
  refine ⟨by simp only; omega, fun e' => ?_⟩
  have := (hown.lt b e'.symm).1
  omega
theorem setStep_len (r : SeRoom) (i : Nat) (l : List Int) : (setStep r i l).length ≤ 2 := by
  unfold setStep
  split <;> simp
theorem setsTo_many (r : SeRoom) (k : Nat) : (setsTo r k).length ≤ 2 ^ k := by
  induction k with
  | zero => simp [setsTo]
  | succ k ih =>
    show ((setsTo r k).flatMap (setStep r k)).length ≤ _
    have : ∀ L : List (List Int), (L.flatMap (setStep r k)).length ≤ 2 * L.length := fun L => by
      induction L with
      | nil => simp
      | cons x L ih =>
        have := setStep_len r k x
        rw [List.flatMap_cons, List.length_append, List.length_cons]
        omega
    have := this (setsTo r k)
    rw [Nat.pow_succ]
    omega
theorem setsTo_len (r : SeRoom) (k : Nat) : ∀ t ∈ setsTo r k, t.length ≤ k := by
  induction k with
  | zero => intro t ht; simp [setsTo] at ht; simp [ht]
  | succ k ih =>
    intro t ht
    obtain ⟨l, hl, h⟩ := List.mem_flatMap.1 ht
    have := ih l hl
    unfold setStep at h
    rcases List.mem_append.1 h with h | h
    · split at h
      · simp at h
      · simp at h; rw [h]; omega
    · simp at h; rw [h]; simp; omega

set_option maxRecDepth 100000 in
set_option maxHeartbeats 2000000 in
theorem RSets_any (a1 a2 a3 a4 a5 : Option Addr) (k1 k2 k3 k4 k5 : Nat) (r : SeRoom) (w : World) (hm : RoomC w a1 a2 a3 a4 a5 k1 k2 k3 k4 k5 r) (hv : SeValid r) :
    Calls Try.prog 103 #[(.agg #[.slice a1 r.writers.length k1, .slice a2 r.kept.length k2, .slice a3 r.leaks.length k3, .slice a4 r.letters.length k4, .slice a5 r.heard.length k5])] w fun e w' => ∃ v, e = .returned v ∧ RowsV w' v (seSets r) ∧ Below w.heap.size w w' := by
  have l3 := hm.ok3.len
  have v3 := hv.nl
  show Calls _ _ _ _ fun e w' => ∃ v, e = .returned v ∧ RowsV w' v (setsTo r r.leaks.length) ∧ Below w.heap.size w w'
  go_enter Try.func103, Try.ntmps103
  go_wp2
  go_loopw [3, 4] (fun o i wr => ∃ (k c : Nat) (a : Option Addr), k ≤ r.leaks.length ∧ i = .int .i64 k ∧ o = .slice a (setsTo r k).length c ∧ SlOk a (setsTo r k).length c ∧ RowsC wr a (setsTo r k) ∧ Below (w.heap.size + 1) (w.alloc (.cells #[.slice a1 r.writers.length k1, .slice a2 r.kept.length k2, .slice a3 r.leaks.length k3, .slice a4 r.letters.length k4, .slice a5 r.heard.length k5] 28)) wr) (fun _ i _ => r.leaks.length - (intOf i).toNat)
  case atStart =>
    refine ⟨0, 1, some ⟨w.heap.size + 1, 0, none⟩, Nat.zero_le _, rfl, rfl, ⟨by simp [setsTo], by omega, fun h => by cases h⟩, ?_, by go_grown⟩
    intro i hi
    simp [setsTo] at hi
    subst hi
    exact ⟨w.heap.size + 1, 0, none, 0, rfl, by simp, by simp [setsTo], ⟨by simp [setsTo], by omega, fun _ => rfl⟩, IntsC.nil _ _⟩
  case round =>
    obtain ⟨k, c, a, hk, rfl, rfl, hso, hrc, hB⟩ := hrel
    obtain ⟨x0, x1, x2, x3, x4, z0⟩ := box_room hB
    by_cases hlt : k < r.leaks.length
    · have hlen := Lib.hid (setsTo_len r k)
      have hmany := Nat.le_trans (setsTo_many r k) (Nat.le_trans (Nat.pow_le_pow_right (by omega) (show k ≤ 4 by omega)) (by decide : 2 ^ 4 ≤ 16))
      have hmany2 := Nat.le_trans (setsTo_many r (k + 1)) (Nat.le_trans (Nat.pow_le_pow_right (by omega) (show k + 1 ≤ 4 by omega)) (by decide : 2 ^ 4 ≤ 16))
      have hnext : Hid (setsTo r (k+1) = (setsTo r k).flatMap (setStep r k)) := rfl
      generalize setsTo r k = L at hlen hmany hnext hrc hso ⊢
      generalize hL' : setsTo r (k+1) = L' at hnext hmany2
      have HL' := Lib.hid hL'
      clear hL'
      rw [hnext.out] at hmany2
      have HSU : Hid (sureAt r k = r.leaks[k].sure) := Lib.hid (by unfold sureAt; rw [List.getElem?_eq_getElem hlt])
      obtain ⟨bl, ol, ha3, hbl0, h1l, h2l, h3l⟩ := (hm.mono (box_old hB)).leaks k hlt
      rw [← HSU.out] at h3l
      obtain ⟨sure, hsure⟩ : ∃ b, b = sureAt r k := ⟨_, rfl⟩
      rw [← hsure] at h3l
      have HST : Hid (∀ l, setStep r k l = (if sure then [] else [l]) ++ [l ++ [(k : Int)]]) := Lib.hid (fun l => by rw [hsure]; rfl)
      clear hsure HSU h1l h2l
      rw [ha3] at x2
      have HA3 := Lib.hid ha3
      clear ha3
      have hkl : (k : Int) < r.leaks.length := by omega
      obtain ⟨W0, hW0⟩ : ∃ W0 : World, W0 = wr := ⟨_, rfl⟩
      subst hW0
      go_wp2
      go_loopw [5, 6] (fun v i wr => ∃ (j : Nat), j ≤ L.length ∧ i = .int .i64 j ∧ OwnR wr W0.heap.size 23 v ((L.take j).flatMap (setStep r k)) ∧ Below W0.heap.size W0 wr) (fun _ i _ => L.length - (intOf i).toNat)
      case atStart => exact ⟨0, Nat.zero_le _, rfl, OwnR.nil _ _ _, Below.refl _ _⟩
      case round =>
        clear x0 x1 x2 x3 x4 z0
        obtain ⟨j, hj, rfl, hown, hbw1⟩ := hrel
        have hB1 := hB.trans (hbw1.mono (by have := hB.size; simp at this; omega))
        obtain ⟨x0, x1, x2, x3, x4, z0⟩ := box_room hB1
        rw [HA3.out] at x2
        have h3 := cell_below hbw1 h3l
        have hbl := lt_of_cell h3
        obtain ⟨wa, hwa⟩ : ∃ wa : World, wa = wr := ⟨_, rfl⟩
        subst hwa
        by_cases hjl : j < L.length
        · obtain ⟨l, hl⟩ : ∃ l, L[j] = l := ⟨_, rfl⟩
          have hmem : l ∈ L := by rw [← hl]; exact List.getElem_mem hjl
          obtain ⟨b, off, a', c', rfl, hbl0, hcell0, hsl, hints0⟩ := hrc.push_mono (Below.refl _ _) hjl hl
          have hll : l.length ≤ 4 := Nat.le_trans (hlen.out l hmem) (by omega)
          have htk := Lib.hid (take_flat (setStep r k) L j hjl)
          have hcnt := flat_take_many (setStep r k) L (j+1)
          rw [htk.out, hl] at hcnt
          rw [hl] at htk
          simp only [List.length_append] at hcnt
          clear hl
          generalize hN : (L.take j).flatMap (setStep r k) = N at *
          clear hN
          have hcell := cell_below hbw1 hcell0
          have hb2 := lt_of_cell hcell
          have hjL : (j : Int) < L.length := by omega
          have HI0 := Lib.hid hints0
          go_upto_if 27 with (fail)
          have hz1 := hbw1.size
          have hcN : N.length ≤ 16 := by omega
          go_cut [5] (fun v W => OwnR W W0.heap.size 23 v (N ++ if sure then [] else [l]) ∧ Below W0.heap.size W0 W)
          case first =>
            have hints := HI0.out.mono hbw1
            cases sure
            · obtain ⟨vs, hvs1, hvs2⟩ := hown
              go_wp2_with (at_builtin; go_must (refine wpList_app (.tmp 28) (.tmp 33) E_ints rfl rfl rfl rfl W0.heap.size N.length 1 vs [.slice a' l.length c'] (hvs1.alloc _) (SrcAt.one _ _ _ rfl) (by omega) (by decide) (by simp; omega) ?_; intro v3 w3 ho3 hg3 hv3; (have hp := OwnR.push (w := wa) (w1 := wa) (t := l) hvs1 hvs2 (Below.refl _ _) hints hsl (old_apart HI0.out (Nat.le_refl _) hbw1.size hvs1) (by simpa using ho3) hg3 hv3); (have hb3 := app_next hbw1 (Nat.le_refl _) (Nat.le_refl _) hvs1 hg3); clear ho3 hg3 hv3; simp only [Act.put, List.setIfInBounds_toArray, List.set_cons_succ, List.set_cons_zero]))
              go_meet
              case rel => exact ⟨by simpa using hp, hb3⟩
            · go_wp2
              go_meet
              case rel => exact ⟨by simpa using hown, hbw1⟩
          case rest =>
            clear hown x0 x1 x2 x3 x4 z0 h3 hbl hcell hb2 hbw1 hB1
            obtain ⟨hown, hbw1⟩ := hcut
            rename World => V
            have hrel : Hid (N ++ setStep r k l = (N ++ if sure then [] else [l]) ++ [l ++ [(k : Int)]]) := Lib.hid (by rw [HST.out, List.append_assoc])
            have hcN2 : (N ++ if sure then [] else [l]).length ≤ 17 := by rw [List.length_append]; split <;> simp <;> omega
            generalize (N ++ if sure then [] else [l]) = N2 at *
            obtain ⟨vs, hvs1, hvs2⟩ := hown
            have hc2 : V.cell? ⟨b, off + j, none⟩ = some (.slice a' l.length c') := cell_below hbw1 hcell0
            have hi2 : IntsC V a' l := HI0.out.mono hbw1
            have hb2 : b < V.heap.size := lt_of_cell hc2
            have hW0 : W0.heap.size ≤ V.heap.size := hbw1.size
            go_wp2_with (first
              | (at_builtin; have hh := hb2'; go_must ((refine wpList_app (.tmp 35) (.tmp 45) E_ints rfl rfl rfl rfl W0.heap.size N2.length 1 vs [.slice (some ⟨g, 0, none⟩) (l.length + 1) cap] ((own_below hvs1 hb2').alloc _) (SrcAt.one _ _ _ rfl) (by omega) (by decide) (by simp; omega) ?_); intro v3 w3 ho3 hg3 hv3; (obtain ⟨_, hti, hts, htb, htl⟩ := ints_own ho2 (l := l ++ [(k : Int)]) (by simp)); (have hp := OwnR.push (w := V) (w1 := w2) (t := l ++ [(k : Int)]) hvs1 hvs2 hb2' hti (by simpa using hts) (fun _ ad e => by cases e; exact ⟨htl, fun e' => by have h9 : g < V.heap.size := (hvs1.lt _ e'.symm).2; omega⟩) (by simpa using ho3) hg3 hv3); (have hb3 := app_next (hbw1.trans (hb2'.mono hW0)) (Nat.le_refl _) (Nat.le_refl _) (own_below hvs1 hb2') hg3); clear ho3 hg3 hv3; simp only [Act.put, List.setIfInBounds_toArray, List.set_cons_succ, List.set_cons_zero]))
              | (at_builtin; (refine wpList_app (.tmp 41) (.tmp 43) E_int rfl rfl rfl rfl V.heap.size l.length 1 (l.map (Value.int .i64)) [.int .i64 ((k : Int))] (ho1.alloc _) (SrcAt.one _ _ _ rfl) (by omega) (by decide) (by simp; omega) ?_); (intro v2 w2 ho2 hg2 _); (obtain ⟨g, cap, rfl⟩ := own_succ ho2); (have hb2' := app_next hb1 (Nat.le_refl _) (Nat.le_refl _) ho1 hg2); have hz2 := hb2'.size; clear hg2; simp only [Act.put, List.setIfInBounds_toArray, List.set_cons_succ, List.set_cons_zero])
              | (at_builtin; (refine wpList_app (.tmp 36) (.tmp 40) E_int rfl rfl rfl rfl V.heap.size 0 l.length [] (l.map (Value.int .i64)) (World.ownsRow_made V #[] 0 (Nat.le_refl _) (by decide) rfl) ?g1 (by omega) (by decide) (by simp) ?_); (case g1 => exact SrcAt.ints hsl.2.2 (hi2.mono (by go_grown))); intro v1 w1 ho1 hg1 _; simp only [Nat.zero_add, List.nil_append] at ho1; have hb1 := app_fresh hg1; have hz1 := hb1.size; clear hg1; simp only [Act.put, List.setIfInBounds_toArray, List.set_cons_succ, List.set_cons_zero]))
            go_roundw
            case rel => exact ⟨j + 1, by omega, by go_num, by rw [htk.out, hrel.out]; exact hp, hb3⟩
            case measure => simp [intOf]; omega
        · have hjL : j = L.length := by omega
          rw [hjL, List.take_length, ← hnext.out, ← HL'.out] at hown
          obtain ⟨a3, c3, rfl, hs3, hr3⟩ := hown.rows
          go_wp2
          go_roundw
          case rel => exact ⟨k + 1, c3, a3, by omega, by go_num, rfl, hs3, hr3, hB1⟩
          case measure => simp [intOf]; omega
    · obtain rfl : k = r.leaks.length := by omega
      go_wp2
      go_ret
      exact ⟨_, rfl, ⟨a, c, rfl, hso, hrc⟩, box_old hB⟩
end Go.Proofs.Ytmhbjohpggghgaa
namespace Go.Proofs.Ytmhbjohpggghgaa
open Go Go.RowKit Go.Shelf

theorem setsTo_bd (r : SeRoom) (k : Nat) : ∀ t ∈ setsTo r k, ∀ x ∈ t, 0 ≤ x ∧ x < k := by
  induction k with
  | zero => intro t ht x hx; simp [setsTo] at ht; simp [ht] at hx
  | succ k ih =>
    intro t ht x hx
    obtain ⟨l, hl, h⟩ := List.mem_flatMap.1 ht
    have hi := ih l hl
    unfold setStep at h
    rcases List.mem_append.1 h with h | h
    · split at h
      · simp at h
      · simp at h; subst h; have := hi x hx; omega
    · simp at h; subst h
      rcases List.mem_append.1 hx with h | h
      · have := hi x h; omega
      · simp at h; omega
theorem soAll_succ (r : SeRoom) (but l : List Int) (n : Nat) : (List.range (n + 1)).all (soAt r but l) = ((List.range n).all (soAt r but l) && soAt r but l n) := by
  rw [List.range_succ, List.all_append]; simp
theorem filter_take {α : Type} (p : α → Bool) (L : List α) (j : Nat) (h : j < L.length) : (L.take (j + 1)).filter p = (L.take j).filter p ++ (if p L[j] then [L[j]] else []) := by
  rw [List.take_succ_eq_append_getElem h, List.filter_append]
  simp only [List.filter_cons, List.filter_nil]

set_option maxRecDepth 100000 in
set_option maxHeartbeats 4000000 in
theorem RTruths_any (a1 a2 a3 a4 a5 : Option Addr) (k1 k2 k3 k4 k5 : Nat) (r : SeRoom) (ab : Option Addr) (but : List Int) (cb : Nat) (w : World) (hm : RoomC w a1 a2 a3 a4 a5 k1 k2 k3 k4 k5 r) (hv : SeValid r) (hsb : SlOk ab but.length cb) (hib : IntsC w ab but) :
    Calls Try.prog 46 #[(.agg #[.slice a1 r.writers.length k1, .slice a2 r.kept.length k2, .slice a3 r.leaks.length k3, .slice a4 r.letters.length k4, .slice a5 r.heard.length k5]), .slice ab but.length cb] w fun e w' => ∃ v, e = .returned v ∧ RowsV w' v (seTruths r but) ∧ Below w.heap.size w w' := by
  have l5 := hm.ok5.len
  have vh := hv.nh
  have lb := hsb.len
  have hB0 := Below.refl (w.heap.size + 1) (w.alloc (.cells #[.slice a1 r.writers.length k1, .slice a2 r.kept.length k2, .slice a3 r.leaks.length k3, .slice a4 r.letters.length k4, .slice a5 r.heard.length k5] 28))
  have S := Lib.hid (RSets_any a1 a2 a3 a4 a5 k1 k2 k3 k4 k5 r (w.alloc (.cells #[.slice a1 r.writers.length k1, .slice a2 r.kept.length k2, .slice a3 r.leaks.length k3, .slice a4 r.letters.length k4, .slice a5 r.heard.length k5] 28)) (hm.mono (box_old hB0)) hv)
  have HT : Hid (seTruths r but = (seSets r).filter (seTrue r but)) := rfl
  generalize seTruths r but = res at HT ⊢
  have HBD : Hid (∀ t ∈ seSets r, ∀ x ∈ t, 0 ≤ x ∧ x < r.leaks.length) := Lib.hid (setsTo_bd r r.leaks.length)
  have hmany : (seSets r).length ≤ 16 := Nat.le_trans (setsTo_many r r.leaks.length) (Nat.le_trans (Nat.pow_le_pow_right (by omega) hv.nl) (by decide : 2 ^ 4 ≤ 16))
  generalize seSets r = L at S HT HBD hmany
  obtain ⟨x0, x1, x2, x3, x4, z0⟩ := box_room hB0
  go_enter Try.func46, Try.ntmps46
  go_wp2_with (go_at_call 103; go_must ((with_reducible refine S.out.mono ?_); rintro e W0 ⟨v0, rfl, ⟨a, c, rfl, hso, hrc⟩, hb0⟩; dsimp only))
  have hB : Below (w.heap.size + 1) (w.alloc (.cells #[.slice a1 r.writers.length k1, .slice a2 r.kept.length k2, .slice a3 r.leaks.length k3, .slice a4 r.letters.length k4, .slice a5 r.heard.length k5] 28)) W0 := hB0.trans (hb0.mono (by simp))
  clear x0 x1 x2 x3 x4 z0 hb0 hB0
  have hlL := hso.len
  go_loopw [6, 7] (fun v i wr => ∃ (j : Nat), j ≤ L.length ∧ i = .int .i64 j ∧ OwnR wr W0.heap.size 23 v ((L.take j).filter (seTrue r but)) ∧ Below W0.heap.size W0 wr) (fun _ i _ => L.length - (intOf i).toNat)
  case atStart => exact ⟨0, Nat.zero_le _, rfl, OwnR.nil _ _ _, Below.refl _ _⟩
  case round =>
    obtain ⟨j, hj, rfl, hown, hbw1⟩ := hrel
    obtain ⟨wa, hwa⟩ : ∃ wa : World, wa = wr := ⟨_, rfl⟩
    subst hwa
    by_cases hjl : j < L.length
    · obtain ⟨l, hl⟩ : ∃ l, L[j] = l := ⟨_, rfl⟩
      have hmem : l ∈ L := by rw [← hl]; exact List.getElem_mem hjl
      obtain ⟨b, off, a', c', rfl, hbl0, hcell0, hsl, hints0⟩ := hrc.push_mono (Below.refl _ _) hjl hl
      have htb := Lib.hid (HBD.out l hmem)
      have htk := Lib.hid (filter_take (seTrue r but) L j hjl)
      rw [hl] at htk
      have hcN : ((L.take j).filter (seTrue r but)).length ≤ 16 := Nat.le_trans (List.length_filter_le _ _) (by rw [List.length_take]; omega)
      clear hl
      generalize hN : (L.take j).filter (seTrue r but) = N at *
      clear hN
      have HI0 := Lib.hid hints0
      have HE : Hid (seTrue r but l = (List.range r.heard.length).all (soAt r but l)) := rfl
      have hjL : (j : Int) < L.length := by omega
      go_wp2
      go_loopw [8, 9] (fun v i wr => ∃ n : Nat, n ≤ r.heard.length ∧ i = .int .i64 n ∧ v = .bool ((List.range n).all (soAt r but l)) ∧ Below wa.heap.size wa wr) (fun _ i _ => r.heard.length - (intOf i).toNat)
      case atStart => exact ⟨0, Nat.zero_le _, rfl, rfl, Below.refl _ _⟩
      case round =>
        obtain ⟨n, hn, rfl, rfl, hbw2⟩ := hrel
        have hbV := hbw1.trans (hbw2.mono hbw1.size)
        have hBV : Below (w.heap.size + 1) (w.alloc (.cells #[.slice a1 r.writers.length k1, .slice a2 r.kept.length k2, .slice a3 r.leaks.length k3, .slice a4 r.letters.length k4, .slice a5 r.heard.length k5] 28)) wr := hB.trans (hbV.mono (by have := hB.size; simp at this; omega))
        obtain ⟨x0, x1, x2, x3, x4, z0⟩ := box_room hBV
        by_cases hnl : n < r.heard.length
        · have HS := Lib.hid (soAll_succ r but l n)
          have hx := List.getElem_mem hnl
          have HSA : Hid (soAt r but l n = (hasB but (n : Int) || soB r r.heard[n] l)) := Lib.hid (by unfold soAt; rw [List.getElem?_eq_getElem hnl])
          obtain ⟨b5, o5, ha5, hb5, y0, y1, y2, y3⟩ := (hm.mono (box_old hBV)).heard n hnl
          have SO := Lib.hid (fun V (h : Below w.heap.size w V) h2 => RSo_any a1 a2 a3 a4 a5 k1 k2 k3 k4 k5 r r.heard[n] a' l c' V (hm.mono h) hv hsl h2 htb.out hx)
          have HA := Lib.hid (fun V (h : Below w.heap.size w V) => Has_any ab but cb (n : Int) V lb (hib.mono h))
          generalize r.heard[n] = x at y0 y1 y2 y3 SO HSA
          obtain ⟨hw, hs, hd, hk⟩ := x
          simp only at y0 y1 y2 y3 SO
          generalize soB r ⟨hw, hs, hd, hk⟩ l = sb at SO HSA
          generalize hasB but (n : Int) = hb at HA HSA
          generalize soAt r but l n = sa at HSA HS
          generalize (List.range n).all (soAt r but l) = al at HS ⊢
          replace HS : Hid ((List.range (n + 1)).all (soAt r but l) = (al && sa)) := HS
          have hc2 : wr.cell? ⟨b, off + j, none⟩ = some (.slice a' l.length c') := cell_below hbV hcell0
          have hzb : b < wr.heap.size := lt_of_cell hc2
          have hbW := box_old hBV
          rw [ha5] at x4
          have KE : Hid (∀ V, Below wr.heap.size wr V → (Below wr.heap.size wr V ∧ V.cell? ⟨w.heap.size, 0, none⟩ = some (.slice a1 r.writers.length k1) ∧ V.cell? ⟨w.heap.size, 1, none⟩ = some (.slice a2 r.kept.length k2) ∧ V.cell? ⟨w.heap.size, 2, none⟩ = some (.slice a3 r.leaks.length k3) ∧ V.cell? ⟨w.heap.size, 3, none⟩ = some (.slice a4 r.letters.length k4) ∧ V.cell? ⟨w.heap.size, 4, none⟩ = some (.slice (some ⟨b5, o5, none⟩) r.heard.length k5) ∧ V.cell? ⟨b5, o5 + n * 4, none⟩ = some (.int .i64 hw) ∧ V.cell? ⟨b5, o5 + n * 4 + 1, none⟩ = some (.int .i64 hs) ∧ V.cell? ⟨b5, o5 + n * 4 + 2, none⟩ = some (.int .i64 hd) ∧ V.cell? ⟨b5, o5 + n * 4 + 3, none⟩ = some (.bool hk) ∧ V.cell? ⟨b, off + j, none⟩ = some (.slice a' l.length c') ∧ w.heap.size < V.heap.size ∧ b5 < V.heap.size ∧ b < V.heap.size)) := Lib.hid (fun V h => ⟨h, cell_below h x0, cell_below h x1, cell_below h x2, cell_below h x3, cell_below h x4, cell_below h y0, cell_below h y1, cell_below h y2, cell_below h y3, cell_below h hc2, Nat.lt_of_lt_of_le z0 h.size, Nat.lt_of_lt_of_le hb5 h.size, Nat.lt_of_lt_of_le hzb h.size⟩)
          have SO2 := Lib.hid (fun V (h : Below wr.heap.size wr V) => SO.out V (hbW.trans (h.mono hbW.size)) (HI0.out.mono (hbV.trans (h.mono hbV.size))))
          have HA2 := Lib.hid (fun V (h : Below wr.heap.size wr V) => HA.out V (hbW.trans (h.mono hbW.size)))
          have HM2 := Lib.hid hm
          clear hm SO HA
          subst ha5
          have hni : (n : Int) < r.heard.length := by omega
          cases al
          · have hs2 := Lib.hid (show (List.range (n + 1)).all (soAt r but l) = false from HS.out)
            go_upto_region 10 with (fail)
            go_quiet (fail)
            go_wp2
            go_roundw
            case rel => exact ⟨n + 1, by omega, by go_num, val_bool hs2.out.symm, below_drewN' hbw2 _⟩
            case measure => simp [intOf]; omega
          · cases hb
            · have hs2 := Lib.hid (show (List.range (n + 1)).all (soAt r but l) = sb by rw [HS.out, HSA.out]; rfl)
              go_upto_region 10 with (fail)
              apply wp_mid _ (fun V => Below wr.heap.size wr V)
              · have hg0 : Below wr.heap.size wr wr.drew := below_drew' (Below.refl _ _)
                go_region_held3 (fun V => Below wr.heap.size wr V ∧ V.cell? ⟨w.heap.size, 0, none⟩ = some (.slice a1 r.writers.length k1) ∧ V.cell? ⟨w.heap.size, 1, none⟩ = some (.slice a2 r.kept.length k2) ∧ V.cell? ⟨w.heap.size, 2, none⟩ = some (.slice a3 r.leaks.length k3) ∧ V.cell? ⟨w.heap.size, 3, none⟩ = some (.slice a4 r.letters.length k4) ∧ V.cell? ⟨w.heap.size, 4, none⟩ = some (.slice (some ⟨b5, o5, none⟩) r.heard.length k5) ∧ V.cell? ⟨b5, o5 + n * 4, none⟩ = some (.int .i64 hw) ∧ V.cell? ⟨b5, o5 + n * 4 + 1, none⟩ = some (.int .i64 hs) ∧ V.cell? ⟨b5, o5 + n * 4 + 2, none⟩ = some (.int .i64 hd) ∧ V.cell? ⟨b5, o5 + n * 4 + 3, none⟩ = some (.bool hk) ∧ V.cell? ⟨b, off + j, none⟩ = some (.slice a' l.length c') ∧ w.heap.size < V.heap.size ∧ b5 < V.heap.size ∧ b < V.heap.size) (first | exact KE.out _ hg0 | exact KE.out _ hg1) (first
                  | (go_at_call 105; (with_reducible refine (SO2.out _ (And.left (by assumption))).mono ?_); rintro e w2 ⟨rfl, hgs⟩; have hg1 := hg0.trans (hgs.mono hg0.size); dsimp only)
                  | (go_at_call 39; (with_reducible refine (HA2.out _ (And.left (by assumption))).mono ?_); rintro e w2 ⟨rfl, rfl⟩; dsimp only))
                exact ⟨rfl, hg1⟩
              intro V hgV
              go_wp2
              go_roundw
              case rel => exact ⟨n + 1, by omega, by go_num, val_bool hs2.out.symm, hbw2.trans (hgV.mono hbw2.size)⟩
              case measure => simp [intOf]; omega
            · have hs2 := Lib.hid (show (List.range (n + 1)).all (soAt r but l) = true by rw [HS.out, HSA.out]; rfl)
              go_upto_region 10 with (fail)
              go_quiet ((go_at_call 39; exact Calls.quiet_of_same (HA2.out _ (below_draws _ _ _))))
              go_wp2
              go_roundw
              case rel => exact ⟨n + 1, by omega, by go_num, val_bool hs2.out.symm, below_drewN' hbw2 _⟩
              case measure => simp [intOf]; omega
        · obtain rfl : n = r.heard.length := by omega
          rw [← HE.out]
          obtain ⟨vs, hvs1, hvs2⟩ := hown
          have hc2 : wr.cell? ⟨b, off + j, none⟩ = some (.slice a' l.length c') := cell_below hbV hcell0
          have hi2 : IntsC wr a' l := HI0.out.mono hbV
          have hzb : b < wr.heap.size := lt_of_cell hc2
          generalize seTrue r but l = st at htk ⊢
          cases st
          · have htk2 := Lib.hid (htk.out.trans (by simp) : _ = N)
            go_wp2
            go_roundw
            case rel => exact ⟨j + 1, by omega, by go_num, by rw [htk2.out]; exact OwnR.kept ⟨vs, hvs1, hvs2⟩ hbw2, hbV⟩
            case measure => simp [intOf]; omega
          · have htk2 := Lib.hid (htk.out.trans (by simp) : _ = N ++ [l])
            have hz1 := hbw1.size
            have hz2 := hbV.size
            go_wp2_with (at_builtin; go_must (refine wpList_app (.tmp 45) (.tmp 50) E_ints rfl rfl rfl rfl W0.heap.size N.length 1 vs [.slice a' l.length c'] ((own_below hvs1 hbw2).alloc _) (SrcAt.one _ _ _ rfl) (by omega) (by decide) (by simp; omega) ?_; intro v3 w3 ho3 hg3 hv3; (have hp := OwnR.push (w := wa) (w1 := wr) (t := l) hvs1 hvs2 hbw2 hi2 hsl (old_apart HI0.out (Nat.le_refl _) hz2 hvs1) (by simpa using ho3) hg3 hv3); (have hb3 := app_next hbV (Nat.le_refl _) (Nat.le_refl _) (own_below hvs1 hbw2) hg3); clear ho3 hg3 hv3; simp only [Act.put, List.setIfInBounds_toArray, List.set_cons_succ, List.set_cons_zero]))
            go_roundw
            case rel => exact ⟨j + 1, by omega, by go_num, by rw [htk2.out]; exact hp, hb3⟩
            case measure => simp [intOf]; omega
    · have hjL : j = L.length := by omega
      rw [hjL, List.take_length, ← HT.out] at hown
      go_wp2
      go_ret
      exact ⟨_, rfl, hown.rows, (box_old hB).trans (hbw1.mono (box_old hB).size)⟩
end Go.Proofs.Ytmhbjohpggghgaa
