/- What is proved here: contracts of the reference of layer 12: plans. Conditions: the room lies in memory and is valid. -/
/- What is proved here: contracts of the reference of layer 12: Before. Condition: slices lie in memory. -/
/- What is proved here: contracts of the reference of layer 12: Since. Conditions: the room lies in memory. -/
/- What is proved here: contracts of the reference of layer 12: Wrong. Conditions: the room lies in memory. -/
import Derived.Test.YtmhbjohpggghgaaSrD
import Derived.Test.YtmhbjohpggghgaaSeSince
import Derived.Deep.RegionWith
set_option linter.unusedVariables false
set_option linter.unusedSimpArgs false
namespace Go.Proofs.Ytmhbjohpggghgaa
open Go Go.RowKit Go.Shelf

theorem planStep_len (r : SeRoom) (p : List Int) : (planStep r p).length = r.writers.length + 1 := by unfold planStep; simp
theorem plansTo_many (r : SeRoom) (k : Nat) : (plansTo r k).length = (r.writers.length + 1) ^ k := by
  induction k with
  | zero => simp [plansTo]
  | succ k ih =>
    show ((plansTo r k).flatMap (planStep r)).length = _
    have : ∀ L : List (List Int), (L.flatMap (planStep r)).length = L.length * (r.writers.length + 1) := fun L => by
      induction L with
      | nil => simp
      | cons x L ih => rw [List.flatMap_cons, List.length_append, List.length_cons, ih, planStep_len, Nat.succ_mul, Nat.add_comm]
    rw [this, ih, Nat.pow_succ]
theorem plansTo_len (r : SeRoom) (k : Nat) : ∀ p ∈ plansTo r k, p.length = k := by
  induction k with
  | zero => intro p hp; simp [plansTo] at hp; simp [hp]
  | succ k ih =>
    intro p hp
    obtain ⟨q, hq, h⟩ := List.mem_flatMap.1 hp
    obtain ⟨x, rfl, _⟩ := planStep_mem h
    rw [List.length_append, ih q hq]; rfl
theorem plans_few {r : SeRoom} (hv : SeValid r) (k : Nat) (hk : k ≤ 4) : (plansTo r k).length ≤ 625 := by
  rw [plansTo_many]
  exact Nat.le_trans (Nat.pow_le_pow_left (by have := hv.nw; omega : r.writers.length + 1 ≤ 5) k) (Nat.le_trans (Nat.pow_le_pow_right (by omega) hk) (by decide : 5 ^ 4 ≤ 625))

set_option maxRecDepth 100000 in
set_option maxHeartbeats 2000000 in
theorem RPlans_any (a1 a2 a3 a4 a5 : Option Addr) (k1 k2 k3 k4 k5 : Nat) (r : SeRoom) (w : World) (hm : RoomC w a1 a2 a3 a4 a5 k1 k2 k3 k4 k5 r) (hv : SeValid r) :
    Calls Try.prog 99 #[(.agg #[.slice a1 r.writers.length k1, .slice a2 r.kept.length k2, .slice a3 r.leaks.length k3, .slice a4 r.letters.length k4, .slice a5 r.heard.length k5])] w fun e w' => ∃ v, e = .returned v ∧ RowsV w' v (sePlans r) ∧ Below w.heap.size w w' := by
  have l1 := hm.ok1.len
  have l4 := hm.ok4.len
  have v4 := hv.nt
  have vw := hv.nw
  show Calls _ _ _ _ fun e w' => ∃ v, e = .returned v ∧ RowsV w' v (plansTo r r.letters.length) ∧ Below w.heap.size w w'
  go_enter Try.func99, Try.ntmps99
  go_wp2
  go_loopw [3, 4] (fun o i wr => ∃ (k c : Nat) (a : Option Addr), k ≤ r.letters.length ∧ i = .int .i64 k ∧ o = .slice a (plansTo r k).length c ∧ SlOk a (plansTo r k).length c ∧ RowsC wr a (plansTo r k) ∧ Below (w.heap.size + 1) (w.alloc (.cells #[.slice a1 r.writers.length k1, .slice a2 r.kept.length k2, .slice a3 r.leaks.length k3, .slice a4 r.letters.length k4, .slice a5 r.heard.length k5] 28)) wr) (fun _ i _ => r.letters.length - (intOf i).toNat)
  case atStart =>
    refine ⟨0, 1, some ⟨w.heap.size + 1, 0, none⟩, Nat.zero_le _, rfl, rfl, ⟨by simp [plansTo], by omega, fun h => by cases h⟩, ?_, by go_grown⟩
    intro i hi
    simp [plansTo] at hi
    subst hi
    exact ⟨w.heap.size + 1, 0, none, 0, rfl, by simp, by simp [plansTo], ⟨by simp [plansTo], by omega, fun _ => rfl⟩, IntsC.nil _ _⟩
  case round =>
    obtain ⟨k, c, a, hk, rfl, rfl, hso, hrc, hB⟩ := hrel
    obtain ⟨x0, x1, x2, x3, x4, z0⟩ := box_room hB
    by_cases hlt : k < r.letters.length
    · have hlen := Lib.hid (plansTo_len r k)
      have hmany := plans_few hv k (by omega)
      have hmany2 := plans_few hv (k + 1) (by omega)
      have hnext : Hid (plansTo r (k+1) = (plansTo r k).flatMap (planStep r)) := rfl
      generalize plansTo r k = L at hlen hmany hnext hrc hso ⊢
      generalize hL' : plansTo r (k+1) = L' at hnext hmany2
      have HL' := Lib.hid hL'
      clear hL'
      rw [hnext.out] at hmany2
      obtain ⟨W0, hW0⟩ : ∃ W0 : World, W0 = wr := ⟨_, rfl⟩
      subst hW0
      go_wp2
      go_loopw [5, 6] (fun v i wr => ∃ (j : Nat), j ≤ L.length ∧ i = .int .i64 j ∧ OwnR wr W0.heap.size 23 v ((L.take j).flatMap (planStep r)) ∧ Below W0.heap.size W0 wr) (fun _ i _ => L.length - (intOf i).toNat)
      case atStart => exact ⟨0, Nat.zero_le _, rfl, OwnR.nil _ _ _, Below.refl _ _⟩
      case round =>
        clear x0 x1 x2 x3 x4 z0
        obtain ⟨j, hj, rfl, hown, hbw1⟩ := hrel
        by_cases hjl : j < L.length
        · obtain ⟨l, hl⟩ : ∃ l, L[j] = l := ⟨_, rfl⟩
          have hmem : l ∈ L := by rw [← hl]; exact List.getElem_mem hjl
          obtain ⟨b, off, a', c', rfl, hbl0, hcell0, hsl, hints0⟩ := hrc.push_mono (Below.refl _ _) hjl hl
          have hll : l.length ≤ 4 := by rw [hlen.out l hmem]; omega
          have htk := Lib.hid (take_flat (planStep r) L j hjl)
          have hcnt := flat_take_many (planStep r) L (j+1)
          rw [htk.out, hl] at hcnt
          rw [hl] at htk
          simp only [List.length_append] at hcnt
          clear hl
          generalize hN : (L.take j).flatMap (planStep r) = N at *
          clear hN
          have hcN : N.length ≤ 625 := by omega
          have HI0 := Lib.hid hints0
          have hST : Hid (planStep r l = ((List.range r.writers.length).map fun (w : Nat) => l ++ [(w : Int)]) ++ [l ++ [-1]]) := rfl
          have hjL : (j : Int) < L.length := by omega
          go_wp2
          go_loopw [5, 7] (fun v i wr => ∃ n : Nat, n ≤ r.writers.length ∧ i = .int .i64 n ∧ OwnR wr W0.heap.size 23 v (N ++ (List.range n).map fun (w : Nat) => l ++ [(w : Int)]) ∧ Below W0.heap.size W0 wr) (fun _ i _ => r.writers.length - (intOf i).toNat)
          case atStart => exact ⟨0, Nat.zero_le _, rfl, by simpa using hown, hbw1⟩
          case round =>
            clear hown hbw1
            obtain ⟨n, hn, rfl, hown, hbw1⟩ := hrel
            have hB1 := hB.trans (hbw1.mono (by have := hB.size; simp at this; omega))
            obtain ⟨x0, x1, x2, x3, x4, z0⟩ := box_room hB1
            have hc2 : wr.cell? ⟨b, off + j, none⟩ = some (.slice a' l.length c') := cell_below hbw1 hcell0
            have hi2 : IntsC wr a' l := HI0.out.mono hbw1
            have hb2 : b < wr.heap.size := lt_of_cell hc2
            have hW0 : W0.heap.size ≤ wr.heap.size := hbw1.size
            have hcN2 : (N ++ (List.range n).map fun (w : Nat) => l ++ [(w : Int)]).length ≤ 629 := by rw [List.length_append, List.length_map, List.length_range]; omega
            have hrm := Lib.hid (range_map_succ (fun (w : Nat) => l ++ [(w : Int)]) n)
            generalize hN2 : (N ++ (List.range n).map fun (w : Nat) => l ++ [(w : Int)]) = N2 at *
            have HN2 := Lib.hid hN2
            clear hN2
            obtain ⟨vs, hvs1, hvs2⟩ := hown
            by_cases hnl : n < r.writers.length
            · go_wp2_with (first
                | (at_builtin; have hh := hb2'; go_must ((refine wpList_app (.tmp 29) (.tmp 39) E_ints rfl rfl rfl rfl W0.heap.size N2.length 1 vs [.slice (some ⟨g, 0, none⟩) (l.length + 1) cap] ((own_below hvs1 hb2').alloc _) (SrcAt.one _ _ _ rfl) (by omega) (by decide) (by simp; omega) ?_); intro v3 w3 ho3 hg3 hv3; (obtain ⟨_, hti, hts, htb, htl⟩ := ints_own ho2 (l := l ++ [(n : Int)]) (by simp)); (have hp := OwnR.push (w := wr) (w1 := w2) (t := l ++ [(n : Int)]) hvs1 hvs2 hb2' hti (by simpa using hts) (fun _ ad e => by cases e; exact ⟨htl, fun e' => by have h9 : g < wr.heap.size := (hvs1.lt _ e'.symm).2; omega⟩) (by simpa using ho3) hg3 hv3); (have hb3 := app_next (hbw1.trans (hb2'.mono hW0)) (Nat.le_refl _) (Nat.le_refl _) (own_below hvs1 hb2') hg3); clear ho3 hg3 hv3; simp only [Act.put, List.setIfInBounds_toArray, List.set_cons_succ, List.set_cons_zero]))
                | (at_builtin; (refine wpList_app (.tmp 35) (.tmp 37) E_int rfl rfl rfl rfl wr.heap.size l.length 1 (l.map (Value.int .i64)) [.int .i64 ((n : Int))] (ho1.alloc _) (SrcAt.one _ _ _ rfl) (by omega) (by decide) (by simp; omega) ?_); (intro v2 w2 ho2 hg2 _); (obtain ⟨g, cap, rfl⟩ := own_succ ho2); (have hb2' := app_next hb1 (Nat.le_refl _) (Nat.le_refl _) ho1 hg2); have hz2 := hb2'.size; clear hg2; simp only [Act.put, List.setIfInBounds_toArray, List.set_cons_succ, List.set_cons_zero])
                | (at_builtin; (refine wpList_app (.tmp 30) (.tmp 34) E_int rfl rfl rfl rfl wr.heap.size 0 l.length [] (l.map (Value.int .i64)) (World.ownsRow_made wr #[] 0 (Nat.le_refl _) (by decide) rfl) ?g1 (by omega) (by decide) (by simp) ?_); (case g1 => exact SrcAt.ints hsl.2.2 (hi2.mono (by go_grown))); intro v1 w1 ho1 hg1 _; simp only [Nat.zero_add, List.nil_append] at ho1; have hb1 := app_fresh hg1; have hz1 := hb1.size; clear hg1; simp only [Act.put, List.setIfInBounds_toArray, List.set_cons_succ, List.set_cons_zero]))
              go_roundw
              case rel => exact ⟨n + 1, by omega, by go_num, by rw [hrm.out, ← List.append_assoc, HN2.out]; exact hp, hb3⟩
              case measure => simp [intOf]; omega
            · obtain rfl : n = r.writers.length := by omega
              go_wp2_with (first
                | (at_builtin; have hh := hb2'; go_must ((refine wpList_app (.tmp 41) (.tmp 50) E_ints rfl rfl rfl rfl W0.heap.size N2.length 1 vs [.slice (some ⟨g, 0, none⟩) (l.length + 1) cap] ((own_below hvs1 hb2').alloc _) (SrcAt.one _ _ _ rfl) (by omega) (by decide) (by simp; omega) ?_); intro v3 w3 ho3 hg3 hv3; (obtain ⟨_, hti, hts, htb, htl⟩ := ints_own ho2 (l := l ++ [(-1 : Int)]) (by simp)); (have hp := OwnR.push (w := wr) (w1 := w2) (t := l ++ [(-1 : Int)]) hvs1 hvs2 hb2' hti (by simpa using hts) (fun _ ad e => by cases e; exact ⟨htl, fun e' => by have h9 : g < wr.heap.size := (hvs1.lt _ e'.symm).2; omega⟩) (by simpa using ho3) hg3 hv3); (have hb3 := app_next (hbw1.trans (hb2'.mono hW0)) (Nat.le_refl _) (Nat.le_refl _) (own_below hvs1 hb2') hg3); clear ho3 hg3 hv3; simp only [Act.put, List.setIfInBounds_toArray, List.set_cons_succ, List.set_cons_zero]))
                | (at_builtin; (refine wpList_app (.tmp 47) (.tmp 48) E_int rfl rfl rfl rfl wr.heap.size l.length 1 (l.map (Value.int .i64)) [.int .i64 (-1)] (ho1.alloc _) (SrcAt.one _ _ _ rfl) (by omega) (by decide) (by simp; omega) ?_); (intro v2 w2 ho2 hg2 _); (obtain ⟨g, cap, rfl⟩ := own_succ ho2); (have hb2' := app_next hb1 (Nat.le_refl _) (Nat.le_refl _) ho1 hg2); have hz2 := hb2'.size; clear hg2; simp only [Act.put, List.setIfInBounds_toArray, List.set_cons_succ, List.set_cons_zero])
                | (at_builtin; (refine wpList_app (.tmp 42) (.tmp 46) E_int rfl rfl rfl rfl wr.heap.size 0 l.length [] (l.map (Value.int .i64)) (World.ownsRow_made wr #[] 0 (Nat.le_refl _) (by decide) rfl) ?g1 (by omega) (by decide) (by simp) ?_); (case g1 => exact SrcAt.ints hsl.2.2 (hi2.mono (by go_grown))); intro v1 w1 ho1 hg1 _; simp only [Nat.zero_add, List.nil_append] at ho1; have hb1 := app_fresh hg1; have hz1 := hb1.size; clear hg1; simp only [Act.put, List.setIfInBounds_toArray, List.set_cons_succ, List.set_cons_zero]))
              go_roundw
              case rel => exact ⟨j + 1, by omega, by go_num, by rw [htk.out, hST.out, ← List.append_assoc, HN2.out]; exact hp, hb3⟩
              case measure => simp [intOf]; omega
        · have hjL : j = L.length := by omega
          have hB1 := hB.trans (hbw1.mono (by have := hB.size; simp at this; omega))
          rw [hjL, List.take_length, ← hnext.out, ← HL'.out] at hown
          obtain ⟨a3, c3, rfl, hs3, hr3⟩ := hown.rows
          go_wp2
          go_roundw
          case rel => exact ⟨k + 1, c3, a3, by omega, by go_num, rfl, hs3, hr3, hB1⟩
          case measure => simp [intOf]; omega
    · obtain rfl : k = r.letters.length := by omega
      go_wp2
      go_ret
      exact ⟨_, rfl, ⟨a, c, rfl, hso, hrc⟩, box_old hB⟩
end Go.Proofs.Ytmhbjohpggghgaa
namespace Go.Proofs.Ytmhbjohpggghgaa
open Go Go.RowKit Go.Shelf

theorem before_drop (l m : List Int) (k : Nat) (h1 : k < l.length) (h2 : k < m.length) : planBefore (l.drop k) (m.drop k) = if l[k] = m[k] then planBefore (l.drop (k + 1)) (m.drop (k + 1)) else decide (m[k] = -1) || (decide (l[k] ≠ -1) && decide (l[k] < m[k])) := by
  rw [List.drop_eq_getElem_cons h1, List.drop_eq_getElem_cons h2]
  rfl
theorem before_end (l m : List Int) (k : Nat) (h : l.length ≤ k ∨ m.length ≤ k) : planBefore (l.drop k) (m.drop k) = false := by
  rcases h with h | h
  · rw [List.drop_of_length_le h]; rfl
  · rw [List.drop_of_length_le h]; cases l.drop k <;> rfl
set_option maxHeartbeats 800000 in
theorem RBefore_any (a b : Option Addr) (l m : List Int) (c d : Nat) (w : World) (hl : l.length ≤ 9223372036854775807) (hm : m.length ≤ 9223372036854775807) (hi : IntsC w a l) (hj : IntsC w b m) :
    Calls Try.prog 49 #[.slice a l.length c, .slice b m.length d] w fun e w' => e = .returned (.bool (planBefore l m)) ∧ ∃ q, w' = w.drewN q := by
  obtain ⟨r, hr⟩ : ∃ r, r = planBefore l m := ⟨_, rfl⟩
  rw [← hr]
  have Hr := Lib.hid hr
  clear hr
  go_enter Try.func49, Try.ntmps49
  go_wp2
  go_loopw [5] (fun i wr => ∃ (k q : Nat), k ≤ l.length ∧ k ≤ m.length ∧ i = .int .i64 k ∧ wr = w.drewN q ∧ Hid (r = planBefore (l.drop k) (m.drop k))) (fun i _ => l.length - (intOf i).toNat)
  case atStart => exact ⟨0, 0, Nat.zero_le _, Nat.zero_le _, rfl, rfl, Lib.hid (by rw [Hr.out]; rfl)⟩
  case round =>
    obtain ⟨k, q, hk, hk2, rfl, rfl, HR⟩ := hrel
    by_cases h1 : k < l.length
    · by_cases h2 : k < m.length
      · obtain ⟨b1, off1, rfl, _, g1⟩ := hi k h1
        obtain ⟨b2, off2, rfl, _, g2⟩ := hj k h2
        have H := Lib.hid (before_drop l m k h1 h2)
        generalize l[k] = x at H g1
        generalize m[k] = y at H g2
        by_cases hxy : x = y
        · subst hxy
          have H := Lib.hid (H.out.trans (if_pos rfl))
          go_wp2
          go_quiet (fail)
          go_wp2
          go_roundw
          case rel => exact ⟨k+1, q + nq, by omega, by omega, by go_num, by simp, Lib.hid (HR.out.trans H.out)⟩
          case measure => simp [intOf]; omega
        · have hb : (x == y) = false := by simpa using hxy
          have H := Lib.hid (HR.out.trans (H.out.trans (if_neg hxy)))
          by_cases hy : y = -1
          · have k1 := eqi_t hy
            have hr := Lib.hid (show r = true by rw [H.out]; simp [hy])
            clear hy
            go_wp2
            go_quiet (fail)
            go_wp2
            go_quiet (fail)
            go_wp2
            go_ret
            exact ⟨ret_bool hr.out.symm, _, by first | rfl | (simp; rfl)⟩
          · have k1 := eqi_f hy
            by_cases hx : x = -1
            · have k2 := nei_f hx
              have hr := Lib.hid (show r = false by rw [H.out]; simp [hy, hx])
              clear hy hx
              go_wp2
              go_quiet (fail)
              go_wp2
              go_quiet (fail)
              go_wp2
              go_ret
              exact ⟨ret_bool hr.out.symm, _, by first | rfl | (simp; rfl)⟩
            · have k2 := nei_t hx
              have hr := Lib.hid (show r = decide (x < y) by rw [H.out]; simp [hy, hx])
              clear hy hx
              go_wp2
              go_quiet (fail)
              go_wp2
              go_quiet (fail)
              go_wp2
              go_ret
              exact ⟨ret_bool hr.out.symm, _, by first | rfl | (simp; rfl)⟩
      · have hd : decide ((k : Int) < (m.length : Int)) = false := by simp; omega
        have hr := Lib.hid (HR.out.trans (before_end l m k (.inr (by omega))))
        go_wp2
        go_ret
        exact ⟨ret_bool hr.out.symm, _, by first | rfl | (simp; rfl)⟩
    · have hd0 : decide ((k : Int) < (l.length : Int)) = false := by simp; omega
      have hr := Lib.hid (HR.out.trans (before_end l m k (.inl (by omega))))
      go_wp2
      go_ret
      exact ⟨ret_bool hr.out.symm, _, by first | rfl | (simp; rfl)⟩
end Go.Proofs.Ytmhbjohpggghgaa
namespace Go.Proofs.Ytmhbjohpggghgaa
open Go Go.RowKit Go.Shelf

theorem days_take (f : List Int → Int) (T : List (List Int)) (j : Nat) (h : j < T.length) : daysTo f (T.take (j + 1)).reverse = if 9 < f T[j] then daysTo f (T.take j).reverse else if (daysTo f (T.take j).reverse).1 = 0 then (1, f T[j], f T[j]) else ((daysTo f (T.take j).reverse).1 + 1, min (daysTo f (T.take j).reverse).2.1 (f T[j]), max (daysTo f (T.take j).reverse).2.2 (f T[j])) := by
  rw [List.take_succ_eq_append_getElem h, List.reverse_append]
  rfl
theorem days_few (f : List Int → Int) (T : List (List Int)) (j : Nat) : (daysTo f (T.take j).reverse).1 ≤ T.length := by
  have h := (daysTo_spec f (T.take j).reverse).1
  rw [h]
  refine Nat.le_trans List.countP_le_length ?_
  rw [List.length_reverse, List.length_take]
  omega
theorem days_pos (f : List Int → Int) (T : List (List Int)) (j : Nat) (h : (daysTo f (T.take j).reverse).1 = 0) : (daysTo f (T.take j).reverse).2.1 = 0 ∧ (daysTo f (T.take j).reverse).2.2 = 0 := (daysTo_spec f (T.take j).reverse).2.1 h

theorem held_nextR {wr W W' : World} {p : Prop} (h : Below wr.heap.size wr W ∧ p) (hb : Below W.heap.size W W') : Below wr.heap.size wr W' := h.1.trans (hb.mono h.1.size)
set_option maxRecDepth 100000 in
set_option maxHeartbeats 4000000 in
theorem RSince_any (a1 a2 a3 a4 a5 : Option Addr) (k1 k2 k3 k4 k5 : Nat) (r : SeRoom) (who s : Int) (w : World) (hm : RoomC w a1 a2 a3 a4 a5 k1 k2 k3 k4 k5 r) :
    Calls Try.prog 19 #[(.agg #[.slice a1 r.writers.length k1, .slice a2 r.kept.length k2, .slice a3 r.leaks.length k3, .slice a4 r.letters.length k4, .slice a5 r.heard.length k5]), .int .i64 who, .int .i64 s] w fun e w' => e = .returned (.tuple #[.agg #[.int .i64 (sinceOf r who s).1.1, .int .i64 (sinceOf r who s).1.2], .int .i64 (sinceOf r who s).2.1, .int .i64 (sinceOf r who s).2.2]) ∧ Below w.heap.size w w' := by
  have HF : Hid (sinceOf r who s = if sinceErr r who s = 0 then (((daysTo (fun t => dayOf r t who.toNat s.toNat) (seTruths r []).reverse).2), settled (daysTo (fun t => dayOf r t who.toNat s.toNat) (seTruths r []).reverse).1 (seTruths r []).length, 0) else ((0, 0), 0, sinceErr r who s)) := rfl
  have HE : Hid (sinceErr r who s = knownErr r (whoErr r who s)) := rfl
  generalize sinceOf r who s = res at HF ⊢
  have HW := Lib.hid (fun h : sinceErr r who s = 0 => who_zero (by
    by_cases h2 : whoErr r who s = 0
    · exact h2
    · rw [HE.out, known_no h2] at h; exact absurd h h2 : whoErr r who s = 0))
  have HV := Lib.hid (fun h : whoErr r who s = 0 => (who_zero h).1)
  obtain ⟨Y, hY⟩ : ∃ Y : World, Y = (w.alloc (.cells #[.slice a1 r.writers.length k1, .slice a2 r.kept.length k2, .slice a3 r.leaks.length k3, .slice a4 r.letters.length k4, .slice a5 r.heard.length k5] 28)).alloc (.cells #[.int .i64 0, .int .i64 0] 34) := ⟨_, rfl⟩
  have hYs : Y.heap.size = w.heap.size + 2 := by rw [hY]; simp
  have hB0 : Below (w.heap.size + 1) (w.alloc (.cells #[.slice a1 r.writers.length k1, .slice a2 r.kept.length k2, .slice a3 r.leaks.length k3, .slice a4 r.letters.length k4, .slice a5 r.heard.length k5] 28)) Y := by rw [hY]; exact (Below.refl _ _).alloc (by simp) _
  have hS1 : Y.heap[w.heap.size + 1]? = some (.cells #[.int .i64 0, .int .i64 0] 34 (0, 0)) := by rw [hY]; exact alloc_at _ _ (by simp)
  obtain ⟨x0, x1, x2, x3, x4, z0⟩ := box_room hB0
  have hbY := box_old hB0
  have A := Lib.hid (fun (V : World) (h : Below Y.heap.size Y V) => RAsked_any a1 a2 a3 a4 a5 k1 k2 k3 k4 k5 r who s V (hm.mono (hbY.trans (h.mono hbY.size))))
  have S := fun (V : World) (h : Below Y.heap.size Y V) => RKnown_any a1 a2 a3 a4 a5 k1 k2 k3 k4 k5 r (whoErr r who s) V (hm.mono (hbY.trans (h.mono hbY.size))) HV.out
  rw [← HE.out] at S
  replace S := Lib.hid S
  generalize whoErr r who s = e1 at A S
  clear HE HV
  generalize sinceErr r who s = te at S HF HW
  have KE : Hid (∀ V, Below Y.heap.size Y V → (Below Y.heap.size Y V ∧ V.cell? ⟨w.heap.size, 0, none⟩ = some (.slice a1 r.writers.length k1) ∧ V.cell? ⟨w.heap.size, 1, none⟩ = some (.slice a2 r.kept.length k2) ∧ V.cell? ⟨w.heap.size, 2, none⟩ = some (.slice a3 r.leaks.length k3) ∧ V.cell? ⟨w.heap.size, 3, none⟩ = some (.slice a4 r.letters.length k4) ∧ V.cell? ⟨w.heap.size, 4, none⟩ = some (.slice a5 r.heard.length k5) ∧ w.heap.size < V.heap.size)) := Lib.hid (fun V h => ⟨h, cell_below h x0, cell_below h x1, cell_below h x2, cell_below h x3, cell_below h x4, Nat.lt_of_lt_of_le z0 h.size⟩)
  have hg0 : Below Y.heap.size Y Y.drew := below_drew' (Below.refl _ _)
  by_cases h0 : te = 0
  · obtain ⟨hva, hw0, hw1, hs0, hs1⟩ := HW.out h0
    clear HW
    obtain ⟨u, rfl⟩ : ∃ u : Nat, who = u := ⟨who.toNat, by omega⟩
    obtain ⟨s, rfl⟩ : ∃ s' : Nat, s = s' := ⟨s.toNat, by omega⟩
    simp only [Int.toNat_natCast] at HF
    have hul : u < r.writers.length := by omega
    have vk := hva.nk
    have vl := hva.nl
    have hsl3 : s ≤ 3 := by omega
    have hfew := truths_few hva []
    have hbd := Lib.hid (truths_bd (r := r) [])
    replace HF := Lib.hid (HF.out.trans (if_pos h0))
    have h1 := nei_f h0
    have HER := Lib.hid h0
    clear h0
    obtain ⟨f, hf⟩ : ∃ f : List Int → Int, f = fun t => dayOf r t u s := ⟨_, rfl⟩
    rw [← hf] at HF
    have HFF := Lib.hid hf
    clear hf
    generalize hT : seTruths r [] = T at hfew hbd HF
    have HTT := Lib.hid hT
    clear hT
    go_enter Try.func19, Try.ntmps19
    go_upto_region 1 with (fail)
    rw [← hY]
    clear hY
    go_region_held3 (fun V => Below Y.heap.size Y V ∧ V.cell? ⟨w.heap.size, 0, none⟩ = some (.slice a1 r.writers.length k1) ∧ V.cell? ⟨w.heap.size, 1, none⟩ = some (.slice a2 r.kept.length k2) ∧ V.cell? ⟨w.heap.size, 2, none⟩ = some (.slice a3 r.leaks.length k3) ∧ V.cell? ⟨w.heap.size, 3, none⟩ = some (.slice a4 r.letters.length k4) ∧ V.cell? ⟨w.heap.size, 4, none⟩ = some (.slice a5 r.heard.length k5) ∧ w.heap.size < V.heap.size) (exact KE.out _ (by assumption)) (first
      | (go_at_call 82; (with_reducible refine (A.out _ (And.left (by assumption))).mono ?_); rintro e w2 ⟨rfl, hb⟩; have hB2 := held_nextR (by assumption) hb; dsimp only)
      | (go_at_call 81; (with_reducible refine (S.out _ (And.left (by assumption))).mono ?_); rintro e w3 ⟨v, rfl, hsv, hb3⟩; have hB3 := held_nextR (by assumption) hb3; (have h5 := hsv.1 HER.out; rw [HTT.out] at h5; obtain ⟨a, c, rfl, hso, hrc⟩ := h5); dsimp only))
    have hlT := hso.len
    clear x0 x1 x2 x3 x4 z0
    have hS3 := (hB3.block _ (lt_of_block hS1)).trans hS1
    have hz3 := hB3.size
    go_upto_region 5 with (fail)
    obtain ⟨Z, hZ⟩ : ∃ Z : World, Z = w3.alloc (.cells #[.int .i64 0, .int .i64 0] 34) := ⟨_, rfl⟩
    rw [← hZ]
    have hbZ : Below w3.heap.size w3 Z := by rw [hZ]; exact (Below.refl _ _).alloc (Nat.le_refl _) _
    have hD0 : Z.heap[w3.heap.size]? = some (.cells #[.int .i64 0, .int .i64 0] 34 (0, 0)) := by rw [hZ]; exact alloc_at _ _ rfl
    clear hZ
    have hYZ := hB3.trans (hbZ.mono hB3.size)
    go_wp2
    go_loopw [12, 13] (fun y i wr => ∃ (j m : Nat) (lo hi : Int), j ≤ T.length ∧ i = .int .i64 j ∧ y = .int .i64 m ∧ m ≤ 16 ∧ Hid (daysTo f (T.take j).reverse = (m, lo, hi)) ∧ wr.heap[w3.heap.size]? = some (.cells #[.int .i64 lo, .int .i64 hi] 34 (0, 0)) ∧ Below w3.heap.size w3 wr) (fun _ i _ => T.length - (intOf i).toNat)
    case atStart => exact ⟨0, 0, 0, 0, Nat.zero_le _, rfl, rfl, by omega, Lib.hid rfl, hD0, hbZ⟩
    case round =>
      obtain ⟨j, m, lo, hi, hj, rfl, rfl, hm16, HM, hD, hbw⟩ := hrel
      have hYW := hB3.trans (hbw.mono hB3.size)
      obtain ⟨x0, x1, x2, x3, x4, z0⟩ := box_room (room_next hB0 hYW)
      by_cases hlt : j < T.length
      · obtain ⟨b, off, a', c', rfl, hbl, hcell, hsl, hints⟩ := (hrc.mono hbw) j hlt
        have hst := days_take f T j hlt
        have hle := days_few f T (j + 1)
        rw [HM.out] at hst
        have htb := hbd.out T[j] (List.getElem_mem hlt)
        generalize T[j] = t at hcell hsl hints hst htb
        have hbO := hbY.trans (hYW.mono hbY.size)
        have D := fun V (h : Below wr.heap.size wr V) => RDay_any a1 a2 a3 a4 a5 k1 k2 k3 k4 k5 r a' t c' u s V (hm.mono (hbO.trans (h.mono hbO.size))) hva hsl (hints.mono h) htb hul hsl3
        have hft : dayOf r t u s = f t := by rw [HFF.out]
        rw [hft] at D
        replace D := Lib.hid D
        clear hft
        simp only at hst
        generalize f t = d at D hst
        have hjT : (j : Int) < T.length := by omega
        have KW : Hid (∀ V, Below wr.heap.size wr V → (Below wr.heap.size wr V ∧ V.cell? ⟨w.heap.size, 0, none⟩ = some (.slice a1 r.writers.length k1) ∧ V.cell? ⟨w.heap.size, 1, none⟩ = some (.slice a2 r.kept.length k2) ∧ V.cell? ⟨w.heap.size, 2, none⟩ = some (.slice a3 r.leaks.length k3) ∧ V.cell? ⟨w.heap.size, 3, none⟩ = some (.slice a4 r.letters.length k4) ∧ V.cell? ⟨w.heap.size, 4, none⟩ = some (.slice a5 r.heard.length k5) ∧ V.cell? ⟨b, off + j, none⟩ = some (.slice a' t.length c') ∧ w.heap.size < V.heap.size ∧ b < V.heap.size)) := Lib.hid (fun V h => ⟨h, cell_below h x0, cell_below h x1, cell_below h x2, cell_below h x3, cell_below h x4, cell_below h hcell, Nat.lt_of_lt_of_le z0 h.size, Nat.lt_of_lt_of_le hbl h.size⟩)
        clear KE hg0
        go_upto_region 9 with (fail)
        apply wp_mid _ (fun V => Below wr.heap.size wr V)
        · have hg0 : Below wr.heap.size wr wr.drew := below_drew' (Below.refl _ _)
          go_region_held3 (fun V => Below wr.heap.size wr V ∧ V.cell? ⟨w.heap.size, 0, none⟩ = some (.slice a1 r.writers.length k1) ∧ V.cell? ⟨w.heap.size, 1, none⟩ = some (.slice a2 r.kept.length k2) ∧ V.cell? ⟨w.heap.size, 2, none⟩ = some (.slice a3 r.leaks.length k3) ∧ V.cell? ⟨w.heap.size, 3, none⟩ = some (.slice a4 r.letters.length k4) ∧ V.cell? ⟨w.heap.size, 4, none⟩ = some (.slice a5 r.heard.length k5) ∧ V.cell? ⟨b, off + j, none⟩ = some (.slice a' t.length c') ∧ w.heap.size < V.heap.size ∧ b < V.heap.size) (first | exact KW.out _ hg0 | exact KW.out _ hg1) (first
            | (go_at_call 40; (with_reducible refine (D.out _ (And.left (by assumption))).mono ?_); rintro e w4 ⟨rfl, hgs⟩; have hg1 := hg0.trans (hgs.mono hg0.size); dsimp only))
          exact ⟨rfl, hg1⟩
        intro V hgV
        have hbV := hbw.trans (hgV.mono hbw.size)
        have hDV := (hgV.block _ (lt_of_block hD)).trans hD
        have q0 : V.cell? ⟨w3.heap.size, 0, none⟩ = some (.int .i64 lo) := blk_cell 0 hDV rfl
        have q1 : V.cell? ⟨w3.heap.size, 1, none⟩ = some (.int .i64 hi) := blk_cell 1 hDV rfl
        have f0 := blk_free 0 hDV
        have f1 := blk_free 1 hDV
        have hgw := lt_of_block hDV
        clear x0 x1 x2 x3 x4 z0 hcell hbl KW hD
        by_cases hd : 9 < d
        · have hs2 := Lib.hid (hst.trans (if_pos hd))
          clear hst hle
          go_wp2
          go_roundw
          case rel => exact ⟨j + 1, m, lo, hi, by omega, by go_num, rfl, hm16, hs2, hDV, hbV⟩
          case measure => simp [intOf]; omega
        · by_cases hm0 : m = 0
          · have hs2 := Lib.hid (hst.trans ((if_neg hd).trans (if_pos hm0)))
            subst hm0
            clear hst hle
            go_wp2
            go_roundw
            case rel =>
              refine ⟨j + 1, 1, d, d, by omega, by go_num, by go_num, by omega, hs2, ?_, (((hbV.setCell (Nat.le_refl _) _).setCell (Nat.le_refl _) _).setCell (Nat.le_refl _) _).setCell (Nat.le_refl _) _⟩
              exact blk_set 1 _ (blk_set 0 _ (blk_set 1 _ (blk_set 0 _ hDV)))
            case measure => simp [intOf]; omega
          · have hs2 := Lib.hid (hst.trans ((if_neg hd).trans (if_neg hm0)))
            have hm1 : ((m : Int) == 0) = false := eqi_f (by omega)
            rw [hs2.out] at hle
            clear hst hm0
            go_wp2
            go_roundw
            case rel =>
              refine ⟨j + 1, m + 1, if d < lo then d else lo, if hi < d then d else hi, by omega, by go_num, by go_num, by have hle : m + 1 ≤ T.length := hle; omega, Lib.hid (hs2.out.trans ?_), ?_, (hbV.setCell (Nat.le_refl _) _).setCell (Nat.le_refl _) _⟩
              · congr 1; congr 1 <;> (split <;> omega)
              · exact blk_set 1 _ (blk_set 0 _ hDV)
            case measure => simp [intOf]; omega
      · obtain rfl : j = T.length := by omega
        have hre : res = ((lo, hi), settled m T.length, 0) := by
          rw [HF.out]
          have h2 := HM.out
          rw [List.take_length] at h2
          rw [h2]
        have HR := Lib.hid hre
        have SE := Lib.hid (fun W => RSettled_any m T.length W)
        clear hre HF HM
        have hR4 := (hYW.block _ (lt_of_block hS1)).trans hS1
        have q0 : wr.cell? ⟨w3.heap.size, 0, none⟩ = some (.int .i64 lo) := blk_cell 0 hD rfl
        have q1 : wr.cell? ⟨w3.heap.size, 1, none⟩ = some (.int .i64 hi) := blk_cell 1 hD rfl
        have t0 : wr.cell? ⟨w.heap.size + 1, 0, none⟩ = some (.int .i64 0) := blk_cell 0 hR4 rfl
        have t1 : wr.cell? ⟨w.heap.size + 1, 1, none⟩ = some (.int .i64 0) := blk_cell 1 hR4 rfl
        have f0 := blk_free 0 hR4
        have f1 := blk_free 1 hR4
        have hgw := lt_of_block hD
        have hgt := lt_of_block hR4
        have hbO := hbY.trans (hYW.mono hbY.size)
        clear x0 x1 x2 x3 x4 z0 KE
        go_upto_region 15 with (fail)
        go_region_with (go_at_call 83; (with_reducible refine (SE.out _).mono ?_); rintro e w5 ⟨rfl, rfl⟩; dsimp only)
        all_goals
          go_wp2
          (try simp only [Exit.inBlock, Exit.then])
          refine bodyPost_ret (v := .tuple #[.agg #[.int .i64 lo, .int .i64 hi], .int .i64 (settled m T.length), .int .i64 0]) ?_ rfl ⟨?_, ?_⟩
          · rw [results_cell_tmp2 rfl]
            go_simp
          · rw [HR.out]
          · exact (by (repeat' (first | assumption | exact Below.refl _ _ | refine below_drew' ?_ | refine Below.setCell ?_ (by first | omega | (simp <;> omega)) _ | refine Below.alloc ?_ (by first | omega | (simp <;> omega)) _)))
  · have h1 := nei_t h0
    replace HF := Lib.hid (HF.out.trans (if_neg h0))
    go_enter Try.func19, Try.ntmps19
    go_upto_region 1 with (fail)
    rw [← hY]
    clear hY HW
    go_region_held3 (fun V => Below Y.heap.size Y V ∧ V.cell? ⟨w.heap.size, 0, none⟩ = some (.slice a1 r.writers.length k1) ∧ V.cell? ⟨w.heap.size, 1, none⟩ = some (.slice a2 r.kept.length k2) ∧ V.cell? ⟨w.heap.size, 2, none⟩ = some (.slice a3 r.leaks.length k3) ∧ V.cell? ⟨w.heap.size, 3, none⟩ = some (.slice a4 r.letters.length k4) ∧ V.cell? ⟨w.heap.size, 4, none⟩ = some (.slice a5 r.heard.length k5) ∧ w.heap.size < V.heap.size) (exact KE.out _ (by assumption)) (first
      | (go_at_call 82; (with_reducible refine (A.out _ (And.left (by assumption))).mono ?_); rintro e w2 ⟨rfl, hb⟩; have hB2 := held_nextR (by assumption) hb; dsimp only)
      | (go_at_call 81; (with_reducible refine (S.out _ (And.left (by assumption))).mono ?_); rintro e w3 ⟨v, rfl, hsv, hb3⟩; have hB3 := held_nextR (by assumption) hb3; dsimp only))
    have hT := (hB3.block _ (lt_of_block hS1)).trans hS1
    have t0 : w3.cell? ⟨w.heap.size + 1, 0, none⟩ = some (.int .i64 0) := blk_cell 0 hT rfl
    have t1 : w3.cell? ⟨w.heap.size + 1, 1, none⟩ = some (.int .i64 0) := blk_cell 1 hT rfl
    have f0 := blk_free 0 hT
    have f1 := blk_free 1 hT
    have hbz3 := lt_of_cell t0
    have hbO := hbY.trans (hB3.mono hbY.size)
    go_wp2
    (try simp only [Exit.inBlock, Exit.then])
    refine bodyPost_ret (v := .tuple #[.agg #[.int .i64 0, .int .i64 0], .int .i64 0, .int .i64 te]) ?_ rfl ⟨?_, ?_⟩
    · rw [results_cell_tmp2 rfl]
      go_simp
    · rw [HF.out]
    · exact (hbO.setCell (by simp) _).setCell (by simp) _
end Go.Proofs.Ytmhbjohpggghgaa
namespace Go.Proofs.Ytmhbjohpggghgaa
open Go Go.RowKit Go.Shelf

theorem heldR {w u V : World} {b o : Nat} {v v1 v2 v3 v4 v5 : Value} (h : Below u.heap.size u V) (x0 : u.cell? ⟨w.heap.size, 0, none⟩ = some v1) (x1 : u.cell? ⟨w.heap.size, 1, none⟩ = some v2) (x2 : u.cell? ⟨w.heap.size, 2, none⟩ = some v3) (x3 : u.cell? ⟨w.heap.size, 3, none⟩ = some v4) (x4 : u.cell? ⟨w.heap.size, 4, none⟩ = some v5) (y : u.cell? ⟨b, o, none⟩ = some v) :
    Below u.heap.size u V ∧ V.cell? ⟨w.heap.size, 0, none⟩ = some v1 ∧ V.cell? ⟨w.heap.size, 1, none⟩ = some v2 ∧ V.cell? ⟨w.heap.size, 2, none⟩ = some v3 ∧ V.cell? ⟨w.heap.size, 3, none⟩ = some v4 ∧ V.cell? ⟨w.heap.size, 4, none⟩ = some v5 ∧ V.cell? ⟨b, o, none⟩ = some v ∧ w.heap.size < V.heap.size ∧ b < V.heap.size :=
  ⟨h, cell_below h x0, cell_below h x1, cell_below h x2, cell_below h x3, cell_below h x4, cell_below h y, lt_of_cell (cell_below h x0), lt_of_cell (cell_below h y)⟩
theorem headD_at {α : Type} {d : α} (l : List α) (h : 0 < l.length) : l.headD d = l[0] := by cases l <;> first | rfl | (simp at h)
theorem choices_def (n k : Nat) : choices (n : Int) (k : Int) = choicesTo n k := rfl

set_option maxRecDepth 100000 in
set_option maxHeartbeats 4000000 in
theorem RWrong_any (a1 a2 a3 a4 a5 : Option Addr) (k1 k2 k3 k4 k5 : Nat) (r : SeRoom) (w : World) (hm : RoomC w a1 a2 a3 a4 a5 k1 k2 k3 k4 k5 r) :
    Calls Try.prog 26 #[(.agg #[.slice a1 r.writers.length k1, .slice a2 r.kept.length k2, .slice a3 r.leaks.length k3, .slice a4 r.letters.length k4, .slice a5 r.heard.length k5])] w fun e w' => ∃ v, e = .returned (.tuple #[v, .int .i64 (seWrongOf r).2]) ∧ IntsV w' v (seWrongOf r).1 ∧ Below w.heap.size w w' := by
  obtain ⟨so, hso⟩ : ∃ so : List Int → Bool, so = fun l => decide (0 < (seTruths r l).length) := ⟨_, rfl⟩
  have HF : Hid (seWrongOf r = if seErr r = 0 then ((searchFrom so r.heard.length 0 r.heard.length).getD ((choicesTo r.heard.length r.heard.length).headD []), 0) else ([], seErr r)) := Lib.hid (by rw [hso]; rfl)
  have HSO := Lib.hid hso
  clear hso
  have HV : Hid (seErr r = 0 → SeValid r) := seValid_of
  have HX : Hid (seErr r = (seCheck r).2.2) := rfl
  generalize seWrongOf r = res at HF ⊢
  generalize seErr r = we at HF HV HX
  have hB0 := Below.refl (w.heap.size + 1) (w.alloc (.cells #[.slice a1 r.writers.length k1, .slice a2 r.kept.length k2, .slice a3 r.leaks.length k3, .slice a4 r.letters.length k4, .slice a5 r.heard.length k5] 28))
  obtain ⟨x0, x1, x2, x3, x4, z0⟩ := box_room hB0
  have C := Lib.hid (RCheck_any a1 a2 a3 a4 a5 k1 k2 k3 k4 k5 r (w.alloc (.cells #[.slice a1 r.writers.length k1, .slice a2 r.kept.length k2, .slice a3 r.leaks.length k3, .slice a4 r.letters.length k4, .slice a5 r.heard.length k5] 28)) (hm.mono (box_old hB0)))
  generalize seCheck r = x at C HX
  obtain ⟨p1, p2, p3⟩ := x
  simp only at C HX
  obtain rfl := HX.out
  clear HX
  by_cases h0 : we = 0
  · have hva := HV.out h0
    have h1 := nei_f h0
    replace HF := Lib.hid (HF.out.trans (if_pos h0))
    subst h0
    have hn := hva.nh
    have hc5 := hm.ok5.len
    clear HV
    go_enter Try.func26, Try.ntmps26
    go_wp2_with (go_at_call 17; go_must ((with_reducible refine C.out.mono ?_); rintro e w2 ⟨rfl, hb⟩; have hB2 := room_next hB0 hb; dsimp only))
    clear x0 x1 x2 x3 x4 z0
    have R1 := Lib.hid (fun (W : World) (ab : Option Addr) (but : List Int) (cb : Nat) (h : Below w2.heap.size w2 W) hsb hib => RTruths_any a1 a2 a3 a4 a5 k1 k2 k3 k4 k5 r ab but cb W (hm.mono ((box_old hB2).trans (h.mono (box_old hB2).size))) hva hsb hib)
    generalize hR : searchFrom so r.heard.length 0 r.heard.length = R at HF
    have HR0 := Lib.hid hR.symm
    clear hR
    go_loopw [7] (fun i wr => ∃ k : Nat, k ≤ r.heard.length ∧ i = .int .i64 k ∧ Hid (R = searchFrom so r.heard.length k (r.heard.length - k)) ∧ Below w2.heap.size w2 wr) (fun i _ => r.heard.length - (intOf i).toNat)
    case atStart => exact ⟨0, Nat.zero_le _, rfl, HR0, Below.refl _ _⟩
    case round =>
      obtain ⟨k, hk, rfl, HR, hbw⟩ := hrel
      have hB := room_next hB2 hbw
      obtain ⟨x0, x1, x2, x3, x4, z0⟩ := box_room hB
      have hbz4 := hB.size
      by_cases hlt : k < r.heard.length
      · have Ch := Choices_any r.heard.length k wr (by omega) (by omega) (by omega) (by omega)
        rw [choices_def] at Ch
        replace Ch := Lib.hid Ch
        have HS1 := Lib.hid (fun (h : (choicesTo r.heard.length k).find? so = none) => (HR.out.trans (by rw [show r.heard.length - k = (r.heard.length - (k + 1)) + 1 from by omega]; exact search_none h) : R = searchFrom so r.heard.length (k + 1) (r.heard.length - (k + 1))))
        have HS2 := Lib.hid (fun (l : List Int) (h : (choicesTo r.heard.length k).find? so = some l) => (HR.out.trans (by rw [show r.heard.length - k = (r.heard.length - (k + 1)) + 1 from by omega]; exact search_some h) : R = some l))
        clear HR HR0
        generalize choicesTo (r.heard.length : Int) k = L at Ch HS1 HS2
        go_wp2_with (go_at_call 91; go_must ((with_reducible refine Ch.out.mono ?_); rintro e w4 ⟨v, rfl, ⟨al, cl, rfl, hsl, hrl⟩, hb4⟩; have hbw4 := hbw.trans (hb4.mono hbw.size); have hB4 := room_next hB2 hbw4; have hll := hsl.len; dsimp only))
        clear x0 x1 x2 x3 x4 z0
        go_loopw [9] (fun i wr => ∃ j : Nat, j ≤ L.length ∧ i = .int .i64 j ∧ Hid (∀ x (_ : x < j) (h : x < L.length), so L[x] = false) ∧ Below w4.heap.size w4 wr) (fun i _ => L.length - (intOf i).toNat)
        case atStart => exact ⟨0, Nat.zero_le _, rfl, Lib.hid (fun j h => absurd h (Nat.not_lt_zero j)), Below.refl _ _⟩
        case round =>
          obtain ⟨wb, hwb⟩ : ∃ wb : World, wb = wr := ⟨_, rfl⟩
          subst hwb
          obtain ⟨j, hj, rfl, HP, hbw5⟩ := hrel
          have hB5 := room_next hB4 hbw5
          have hbw35 := hbw4.trans (hbw5.mono hbw4.size)
          obtain ⟨x0, x1, x2, x3, x4, z0⟩ := box_room hB5
          by_cases hjl : j < L.length
          · obtain ⟨b, off, a', c', rfl, hb0, hcell, hsi, hints⟩ := hrl j hjl
            have HN := Lib.hid (fun (h : so L[j] = false) => none_succ HP.out hjl h)
            have HH := Lib.hid (fun (h : so L[j] = true) => HS2.out _ (find_hit hjl HP.out h))
            have hcw := cell_below hbw5 hcell
            have hii := hints.mono hbw5
            generalize L[j] = l at hcell hcw hsi hints hii HN HH
            have R2 := fun (W : World) (h : Below wb.heap.size wb W) => R1.out W a' l c' (hbw35.trans (h.mono hbw35.size)) hsi (hii.mono h)
            have hsoe : so l = decide (0 < (seTruths r l).length) := by rw [HSO.out]
            rw [hsoe] at HN HH
            clear hsoe
            generalize seTruths r l = T at R2 HN HH
            replace R2 := Lib.hid R2
            have hBd := below_drew' (Below.refl wb.heap.size wb)
            by_cases hT : (0 : Int) < T.length
            all_goals
              go_wp2
              go_region_held3 (fun V => Below wb.heap.size wb V ∧ V.cell? ⟨w.heap.size, 0, none⟩ = some (.slice a1 r.writers.length k1) ∧ V.cell? ⟨w.heap.size, 1, none⟩ = some (.slice a2 r.kept.length k2) ∧ V.cell? ⟨w.heap.size, 2, none⟩ = some (.slice a3 r.leaks.length k3) ∧ V.cell? ⟨w.heap.size, 3, none⟩ = some (.slice a4 r.letters.length k4) ∧ V.cell? ⟨w.heap.size, 4, none⟩ = some (.slice a5 r.heard.length k5) ∧ V.cell? ⟨b, off + j, none⟩ = some (.slice a' l.length c') ∧ w.heap.size < V.heap.size ∧ b < V.heap.size) (exact heldR (by assumption) x0 x1 x2 x3 x4 hcw) (first
                | (go_at_call 46; (with_reducible refine (R2.out _ (And.left (by assumption))).mono ?_); rintro e w6 ⟨v, rfl, ⟨aT, cT, rfl, hsT, -⟩, hb6⟩; have hB6 := held_nextR (by assumption) hb6; have hlT := hsT.len; dsimp only))
              have hB7 := room_next hB5 hB6
              have hcx := cell_below hB6 hcw
              have hbx := lt_of_cell hcx
              clear x0 x1 x2 x3 x4
              go_wp2
            · go_ret2
              have hr := HF.out
              rw [HH.out (decide_eq_true (by omega))] at hr
              subst hr
              exact ⟨_, rfl, ⟨_, _, rfl, hsi, hii.mono hB6⟩, box_old hB7⟩
            · go_roundw
              case rel => exact ⟨j + 1, by omega, by go_num, Lib.hid (HN.out (decide_eq_false (by omega))), hbw5.trans (hB6.mono hbw5.size)⟩
              case measure => simp [intOf]; omega
          · obtain rfl : j = L.length := by omega
            go_wp2
            go_roundw
            case rel => exact ⟨k + 1, by omega, by go_num, Lib.hid (HS1.out (find_none (fun i h => HP.out i h h))), hbw35⟩
            case measure => simp [intOf]; omega
      · obtain rfl : k = r.heard.length := by omega
        have Ch := Choices_any r.heard.length r.heard.length wr (by omega) (by omega) (by omega) (by omega)
        have hcpos := choices_all r.heard.length (by omega)
        rw [choices_def] at Ch
        replace Ch := Lib.hid Ch
        generalize choicesTo (r.heard.length : Int) r.heard.length = L at Ch HF hcpos
        rw [headD_at (d := []) _ hcpos] at HF
        go_wp2_with (go_at_call 91; go_must ((with_reducible refine Ch.out.mono ?_); rintro e w4 ⟨v, rfl, ⟨al, cl, rfl, hsl, hrl⟩, hb4⟩; have hbw4 := hbw.trans (hb4.mono hbw.size); have hB4 := room_next hB2 hbw4; obtain ⟨b, off, a', c', rfl, hb6, hcell, hsi, hints⟩ := hrl 0 hcpos; simp only [Nat.add_zero] at hcell; have hl5 := hsl.len; dsimp only))
        go_ret2
        have hr := HF.out
        have hr2 := HR.out
        simp only [Nat.sub_self, searchFrom] at hr2
        rw [hr2] at hr
        subst hr
        exact ⟨_, rfl, ⟨_, _, rfl, hsi, hints⟩, box_old hB4⟩
  · have h1 := nei_t h0
    replace HF := Lib.hid (HF.out.trans (if_neg h0))
    go_enter Try.func26, Try.ntmps26
    go_wp2_with (go_at_call 17; go_must ((with_reducible refine C.out.mono ?_); rintro e w2 ⟨rfl, hb⟩; have hB2 := room_next hB0 hb; dsimp only))
    go_ret2
    have hr := HF.out
    subst hr
    exact ⟨_, rfl, ⟨none, 0, rfl, ⟨Nat.le_refl _, by omega, fun _ => rfl⟩, IntsC.nil _ _⟩, box_old hB2⟩
end Go.Proofs.Ytmhbjohpggghgaa
