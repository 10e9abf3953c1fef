/- What is proved here: the contract of Choices. Condition: small numbers. -/
import Derived.Test.YtchnpekgmkhacaaDeGround
import Derived.Test.YtchnpekgmkhacaaDeNames
set_option linter.unusedVariables false
set_option linter.unusedSimpArgs false
namespace Go.Proofs.Ytchnpekgmkhacaa
open Go Go.RowKit

theorem choiceStep_len (below : Int) (f : Bool) (l : List Int) : ∀ t ∈ choiceStep below f l, t.length = l.length + 1 := by
  intro t ht
  unfold choiceStep at ht
  obtain ⟨j, _, rfl⟩ := List.mem_map.1 ht
  simp
theorem choicesTo_len (below : Int) (i : Nat) : ∀ t ∈ choicesTo below i, t.length = i := by
  induction i with
  | zero => intro t ht; simp [choicesTo] at ht; simp [ht]
  | succ i ih =>
    intro t ht
    rw [choicesTo] at ht
    obtain ⟨l, hl, ht⟩ := List.mem_flatMap.1 ht
    rw [choiceStep_len _ _ _ t ht, ih l hl]
/-- Numbers of choices are from 0 to below. -/
theorem choiceStep_bd (below : Int) (f : Bool) (l : List Int) (hl : ∀ x ∈ l, 0 ≤ x ∧ x < below) : ∀ t ∈ choiceStep below f l, ∀ x ∈ t, 0 ≤ x ∧ x < below := by
  intro t ht x hx
  unfold choiceStep at ht
  obtain ⟨j, hj, rfl⟩ := List.mem_map.1 ht
  simp only [List.mem_range] at hj
  rcases List.mem_append.1 hx with hx | hx
  · exact hl x hx
  · simp at hx
    subst hx
    have : (0 : Int) ≤ (if f = true then 0 else l.getLast?.getD 0 + 1) := by
      split
      · omega
      · cases h : l.getLast? with
        | none => simp
        | some y => have := hl y (List.mem_of_getLast? h); simp; omega
    omega
theorem choicesTo_bd (below : Int) (i : Nat) : ∀ t ∈ choicesTo below i, ∀ x ∈ t, 0 ≤ x ∧ x < below := by
  induction i with
  | zero => intro t ht; simp [choicesTo] at ht; simp [ht]
  | succ i ih =>
    intro t ht
    rw [choicesTo] at ht
    obtain ⟨l, hl, ht⟩ := List.mem_flatMap.1 ht
    exact choiceStep_bd _ _ _ (ih l hl) t ht
theorem choiceStep_many (below : Int) (f : Bool) (l : List Int) (hl : ∀ x ∈ l, 0 ≤ x ∧ x < below) : (choiceStep below f l).length ≤ below.toNat := by
  unfold choiceStep
  simp only [List.length_map, List.length_range]
  have : (0 : Int) ≤ (if f = true then 0 else l.getLast?.getD 0 + 1) := by
    split
    · omega
    · cases h : l.getLast? with
      | none => simp
      | some y => have := hl y (List.mem_of_getLast? h); simp; omega
  omega
theorem flatMap_many {α β : Type} (f : α → List β) (n : Nat) : ∀ (l : List α), (∀ x ∈ l, (f x).length ≤ n) → (l.flatMap f).length ≤ l.length * n
  | [], _ => by simp
  | x :: xs, h => by
    have h1 := h x (by simp)
    have h2 := flatMap_many f n xs (fun y hy => h y (by simp [hy]))
    simp only [List.flatMap_cons, List.length_append, List.length_cons, Nat.add_mul]
    omega
theorem choicesTo_many (below : Int) (i : Nat) (hb : below ≤ 6) : (choicesTo below i).length ≤ 6 ^ i := by
  induction i with
  | zero => simp [choicesTo]
  | succ i ih =>
    rw [choicesTo]
    have h := flatMap_many (choiceStep below (i == 0)) 6 (choicesTo below i) (fun l hl => Nat.le_trans (choiceStep_many _ _ _ (choicesTo_bd below i l hl)) (by omega))
    have : (choicesTo below i).length * 6 ≤ 6 ^ i * 6 := Nat.mul_le_mul_right 6 ih
    rw [Nat.pow_succ]
    omega


theorem take_flat {α β : Type} (f : α → List β) (l : List α) (k : Nat) (h : k < l.length) : (l.take (k+1)).flatMap f = (l.take k).flatMap f ++ f l[k] := by
  rw [List.take_succ_eq_append_getElem h, List.flatMap_append]
  simp
theorem flat_take_many {α β : Type} (f : α → List β) (l : List α) (k : Nat) : ((l.take k).flatMap f).length ≤ (l.flatMap f).length := by
  conv => rhs; rw [← List.take_append_drop k l, List.flatMap_append, List.length_append]
  omega
theorem range_map_succ {β : Type} (f : Nat → β) (m : Nat) : (List.range (m+1)).map f = (List.range m).map f ++ [f m] := by
  rw [List.range_succ, List.map_append]; rfl

theorem RowsC.push_mono {w W : World} {a : Option Addr} {L : List (List Int)} {l : List Int} {j : Nat} (h : RowsC w a L) (hb : Below w.heap.size w W) (hj : j < L.length) (hl : L[j] = l) :
    ∃ b off a' c', a = some ⟨b, off, none⟩ ∧ b < W.heap.size ∧ W.cell? ⟨b, off + j, none⟩ = some (.slice a' l.length c') ∧ SlOk a' l.length c' ∧ IntsC W a' l := by
  subst hl
  exact h.mono hb j hj

set_option maxRecDepth 100000 in
set_option maxHeartbeats 2000000 in
theorem Choices_any (below many : Int) (w : World) (hb0 : 0 ≤ below) (hb : below ≤ 6) (hm0 : 0 ≤ many) (hm : many ≤ 6) :
    Calls Try.prog 82 #[.int .i64 below, .int .i64 many] w fun e w' => ∃ v, e = .returned v ∧ RowsV w' v (choices below many) ∧ Below w.heap.size w w' := by
  obtain ⟨M, rfl⟩ := Int.eq_ofNat_of_zero_le hm0
  show Calls _ _ _ _ fun e w' => ∃ v, e = .returned v ∧ RowsV w' v (choicesTo below M) ∧ Below w.heap.size w w'
  go_enter Try.func82, Try.ntmps82
  go_wp2
  go_loopw [5, 6] (fun o i wr => ∃ (k c : Nat) (a : Option Addr), k ≤ M ∧ i = .int .i64 k ∧ o = .slice a (choicesTo below k).length c ∧ SlOk a (choicesTo below k).length c ∧ RowsC wr a (choicesTo below k) ∧ Below w.heap.size w wr) (fun _ i _ => M - (intOf i).toNat)
  case atStart =>
    refine ⟨0, 1, some ⟨w.heap.size, 0, none⟩, Nat.zero_le _, rfl, rfl, ⟨by simp [choicesTo], by omega, fun h => by cases h⟩, ?_, by go_grown⟩
    intro i hi
    simp [choicesTo] at hi
    subst hi
    exact ⟨w.heap.size, 0, none, 0, rfl, by simp, by simp [choicesTo], ⟨by simp [choicesTo], by omega, fun _ => rfl⟩, IntsC.nil _ _⟩
  case round =>
    obtain ⟨k, c, a, hk, rfl, rfl, hso, hrc, hbw⟩ := hrel
    by_cases hlt : k < M
    · have hlen := Lib.hid (choicesTo_len below k)
      have hbd := Lib.hid (choicesTo_bd below k)
      have hmany : (choicesTo below k).length ≤ 46656 := Nat.le_trans (choicesTo_many below k hb) (Nat.le_trans (Nat.pow_le_pow_right (by omega) (show k ≤ 6 by omega)) (by decide))
      have hmany2 : ((choicesTo below k).flatMap (choiceStep below (k == 0))).length ≤ 46656 := Nat.le_trans (choicesTo_many below (k+1) hb) (Nat.le_trans (Nat.pow_le_pow_right (by omega) (show k+1 ≤ 6 by omega)) (by decide))
      have hnext : Hid (choicesTo below (k+1) = (choicesTo below k).flatMap (choiceStep below (k == 0))) := rfl
      generalize choicesTo below k = L at hlen hbd hmany hmany2 hnext hrc hso ⊢
      generalize hL' : choicesTo below (k+1) = L' at hnext
      have HL' := Lib.hid hL'
      clear hL'
      obtain ⟨W0, hW0⟩ : ∃ W0 : World, W0 = wr := ⟨_, rfl⟩
      subst hW0
      go_wp2
      go_loopw [7, 8] (fun v i wr => ∃ (j : Nat), j ≤ L.length ∧ i = .int .i64 j ∧ OwnRows wr W0.heap.size 42 v ((L.take j).flatMap (choiceStep below (k == 0))) ∧ Below W0.heap.size W0 wr) (fun _ i _ => L.length - (intOf i).toNat)
      case atStart => exact ⟨0, Nat.zero_le _, rfl, OwnRows.nil _ _ _, Below.refl _ _⟩
      case round =>
        obtain ⟨j, hj, rfl, hown, hbw1⟩ := hrel
        obtain ⟨wa, hwa⟩ : ∃ wa : World, wa = wr := ⟨_, rfl⟩
        subst hwa
        by_cases hjl : j < L.length
        · obtain ⟨l, hl⟩ : ∃ l, L[j] = l := ⟨_, rfl⟩
          have hmem : l ∈ L := by rw [← hl]; exact List.getElem_mem hjl
          obtain ⟨b, off, a', c', rfl, hbl0, hcell0, hsl, hints0⟩ := hrc.push_mono (Below.refl _ _) hjl hl
          have hbl := Nat.lt_of_lt_of_le hbl0 hbw1.size
          have hcell := cell_below hbw1 hcell0
          have hints := hints0.mono hbw1
          have hll : l.length = k := hlen.out l hmem
          have hlb := Lib.hid (hbd.out l hmem)
          have htk := Lib.hid (take_flat (choiceStep below (k == 0)) L j hjl)
          have hcnt := flat_take_many (choiceStep below (k == 0)) L (j+1)
          rw [htk.out, hl] at hcnt
          rw [hl] at htk
          simp only [List.length_append] at hcnt
          have hstep : Hid (choiceStep below (k == 0) l = (List.range (below - (if k == 0 then 0 else l.getLast?.getD 0 + 1)).toNat).map fun (j : Nat) => l ++ [(if k == 0 then 0 else l.getLast?.getD 0 + 1) + (j : Int)]) := rfl
          clear hl
          generalize hN : (L.take j).flatMap (choiceStep below (k == 0)) = N at *
          clear hN
          rcases k with _ | k
          · have hl0 : l = [] := List.eq_nil_of_length_eq_zero hll
            have hl6 : l.length ≤ 6 := by omega
            have hstep := Lib.hid (show choiceStep below (0 == 0) l = (List.range below.toNat).map fun (j : Nat) => l ++ [(j : Int)] from by rw [hstep.out]; simp)
            have hsl0 : (choiceStep below (0 == 0) l).length = below.toNat := by rw [hstep.out]; simp
            clear hl0 hll
            go_wp2
            go_loopw [7, 10] (fun v n wr2 => ∃ (m : Nat), (m : Int) ≤ below ∧ n = .int .i64 ((m : Int)) ∧ OwnRows wr2 W0.heap.size 42 v (N ++ (List.range m).map fun (j : Nat) => l ++ [(j : Int)]) ∧ Below W0.heap.size W0 wr2) (fun _ n _ => (below - intOf n).toNat)
            case atStart => exact ⟨0, by omega, by simp, by simpa using hown, hbw1⟩
            case round =>
              obtain ⟨m, hm2, rfl, hown2, hbw3⟩ := hrel
              by_cases hml : (m : Int) < below
              · obtain ⟨vs, hvs1, hvs2⟩ := hown2
                have hc2 : wr.cell? ⟨b, off + j, none⟩ = some (.slice a' l.length c') := cell_below hbw3 hcell0
                have hi2 : IntsC wr a' l := hints0.mono hbw3
                have hW0 : W0.heap.size ≤ wr.heap.size := hbw3.size
                have hNm : ((List.range m).map fun (j : Nat) => l ++ [(j : Int)]).length = m := by simp
                have hNn : (N ++ (List.range m).map fun (j : Nat) => l ++ [(j : Int)]).length ≤ 50000 := by rw [List.length_append, hNm]; omega
                have hb2 : b < wr.heap.size := lt_of_cell hc2
                have hrm := Lib.hid (range_map_succ (fun (j : Nat) => l ++ [(j : Int)]) m)
                generalize hN2 : (N ++ (List.range m).map fun (j : Nat) => l ++ [(j : Int)]) = N2 at *
                have HN2 := Lib.hid hN2
                clear hN2 hNm
                go_wp2_with (first
                  | (at_builtin; (refine wpList_app (.tmp 40) (.tmp 50) E_ints rfl rfl rfl rfl W0.heap.size N2.length 1 vs [.slice (some ⟨g, 0, none⟩) (l.length + 1) cap] ((own_below hvs1 hb2').alloc _) (SrcAt.one _ _ _ rfl) (by omega) (by decide) (by simp; omega) ?_); intro v3 w3 ho3 hg3 hv3; (obtain ⟨_, hti, hts, htb, htl⟩ := ints_own ho2 (l := l ++ [(m : Int)]) (by simp)); (have hp := OwnRows.push (w := wr) (w1 := w2) (t := l ++ [(m : Int)]) hvs1 hvs2 hb2' hti (by simpa using hts) (fun ad e => by cases e; exact ⟨htb, htl⟩) (by simpa using ho3) hg3 hv3); (have hb3 := app_next (hbw3.trans (hb2'.mono hW0)) (Nat.le_refl _) (Nat.le_refl _) (own_below hvs1 hb2') hg3); clear ho3 hg3 hv3; simp only [Act.put, List.setIfInBounds_toArray, List.set_cons_succ, List.set_cons_zero])
                  | (at_builtin; (refine wpList_app (.tmp 46) (.tmp 48) E_int rfl rfl rfl rfl wr.heap.size l.length 1 (l.map (Value.int .i64)) [.int .i64 ((m : Int))] (ho1.alloc _) (SrcAt.one _ _ _ rfl) (by omega) (by decide) (by simp; omega) ?_); (intro v2 w2 ho2 hg2 _); (obtain ⟨g, cap, rfl⟩ := own_succ ho2); (have hb2' := app_next hb1 (Nat.le_refl _) (Nat.le_refl _) ho1 hg2); have hz2 := hb2'.size; clear hg2; simp only [Act.put, List.setIfInBounds_toArray, List.set_cons_succ, List.set_cons_zero])
                  | (at_builtin; (refine wpList_app (.tmp 41) (.tmp 45) E_int rfl rfl rfl rfl wr.heap.size 0 l.length [] (l.map (Value.int .i64)) (World.ownsRow_made wr #[] 0 (Nat.le_refl _) (by decide) rfl) ?g1 (by omega) (by decide) (by simp) ?_); (case g1 => exact SrcAt.ints hsl.2.2 (hi2.mono (by go_grown))); intro v1 w1 ho1 hg1 _; simp only [Nat.zero_add, List.nil_append] at ho1; have hb1 := app_fresh hg1; have hz1 := hb1.size; clear hg1; simp only [Act.put, List.setIfInBounds_toArray, List.set_cons_succ, List.set_cons_zero]))
                go_roundw
                case rel => exact ⟨m + 1, by omega, by go_num, by rw [hrm.out, ← List.append_assoc, HN2.out]; exact hp, hb3⟩
                case measure => simp [intOf]; omega
              · have hm3 : m = (below - (0)).toNat := by omega
                go_wp2
                go_roundw
                case rel => exact ⟨j + 1, by omega, by go_num, by rw [htk.out, hstep.out]; rw [hm3] at hown2; simpa using hown2, hbw3⟩
                case measure => simp [intOf]; omega

          · have hlast : ∃ x, l.getLast?.getD 0 = x ∧ 0 ≤ x ∧ x < below ∧ ∀ h : k < l.length, l[k] = x := by
              have hne : l ≠ [] := by intro h; rw [h] at hll; simp at hll
              have h1 : k < l.length := by omega
              refine ⟨l[k], ?_, (hlb.out _ (List.getElem_mem h1)).1, (hlb.out _ (List.getElem_mem h1)).2, fun _ => rfl⟩
              rw [List.getLast?_eq_getElem?, hll]
              simp [h1]
            obtain ⟨x, hx, hx0, hx1, hx2⟩ := hlast
            have hl6 : l.length ≤ 6 := by omega
            have hstep := Lib.hid (show choiceStep below (k + 1 == 0) l = (List.range (below - (x + 1)).toNat).map fun (j : Nat) => l ++ [(x + 1) + (j : Int)] from by rw [hstep.out, hx]; rfl)
            have hsl0 : (choiceStep below (k + 1 == 0) l).length = (below - (x + 1)).toNat := by rw [hstep.out]; simp
            obtain ⟨b2, off2, rfl, hbl2, hcell2⟩ := hints0 k (by omega)
            rw [hx2] at hcell2
            have hcell2 := cell_below hbw1 hcell2
            have hbl2 := Nat.lt_of_lt_of_le hbl2 hbw1.size
            have hlL := Lib.hid hll
            have hkl : k < l.length := by omega
            clear hll
            go_wp2
            go_loopw [7, 10] (fun v n wr2 => ∃ (m : Nat), (m : Int) ≤ below - (x + 1) ∧ n = .int .i64 (x + 1 + (m : Int)) ∧ OwnRows wr2 W0.heap.size 42 v (N ++ (List.range m).map fun (j : Nat) => l ++ [x + 1 + (j : Int)]) ∧ Below W0.heap.size W0 wr2) (fun _ n _ => (below - intOf n).toNat)
            case atStart => exact ⟨0, by omega, by simp, by simpa using hown, hbw1⟩
            case round =>
              obtain ⟨m, hm2, rfl, hown2, hbw3⟩ := hrel
              by_cases hml : (m : Int) < below - (x + 1)
              · obtain ⟨vs, hvs1, hvs2⟩ := hown2
                have hc2 : wr.cell? ⟨b, off + j, none⟩ = some (.slice (some ⟨b2, off2, none⟩) l.length c') := cell_below hbw3 hcell0
                have hi2 : IntsC wr (some ⟨b2, off2, none⟩) l := hints0.mono hbw3
                have hW0 : W0.heap.size ≤ wr.heap.size := hbw3.size
                have hNm : ((List.range m).map fun (j : Nat) => l ++ [x + 1 + (j : Int)]).length = m := by simp
                have hNn : (N ++ (List.range m).map fun (j : Nat) => l ++ [x + 1 + (j : Int)]).length ≤ 50000 := by rw [List.length_append, hNm]; omega
                have hb2 : b < wr.heap.size := lt_of_cell hc2
                have hrm := Lib.hid (range_map_succ (fun (j : Nat) => l ++ [x + 1 + (j : Int)]) m)
                generalize hN2 : (N ++ (List.range m).map fun (j : Nat) => l ++ [x + 1 + (j : Int)]) = N2 at *
                have HN2 := Lib.hid hN2
                clear hN2 hNm
                go_wp2_with (first
                  | (at_builtin; (refine wpList_app (.tmp 40) (.tmp 50) E_ints rfl rfl rfl rfl W0.heap.size N2.length 1 vs [.slice (some ⟨g, 0, none⟩) (l.length + 1) cap] ((own_below hvs1 hb2').alloc _) (SrcAt.one _ _ _ rfl) (by omega) (by decide) (by simp; omega) ?_); intro v3 w3 ho3 hg3 hv3; (obtain ⟨_, hti, hts, htb, htl⟩ := ints_own ho2 (l := l ++ [x + 1 + (m : Int)]) (by simp)); (have hp := OwnRows.push (w := wr) (w1 := w2) (t := l ++ [x + 1 + (m : Int)]) hvs1 hvs2 hb2' hti (by simpa using hts) (fun ad e => by cases e; exact ⟨htb, htl⟩) (by simpa using ho3) hg3 hv3); (have hb3 := app_next (hbw3.trans (hb2'.mono hW0)) (Nat.le_refl _) (Nat.le_refl _) (own_below hvs1 hb2') hg3); clear ho3 hg3 hv3; simp only [Act.put, List.setIfInBounds_toArray, List.set_cons_succ, List.set_cons_zero])
                  | (at_builtin; (refine wpList_app (.tmp 46) (.tmp 48) E_int rfl rfl rfl rfl wr.heap.size l.length 1 (l.map (Value.int .i64)) [.int .i64 (x + 1 + (m : Int))] (ho1.alloc _) (SrcAt.one _ _ _ rfl) (by omega) (by decide) (by simp; omega) ?_); (intro v2 w2 ho2 hg2 _); (obtain ⟨g, cap, rfl⟩ := own_succ ho2); (have hb2' := app_next hb1 (Nat.le_refl _) (Nat.le_refl _) ho1 hg2); have hz2 := hb2'.size; clear hg2; simp only [Act.put, List.setIfInBounds_toArray, List.set_cons_succ, List.set_cons_zero])
                  | (at_builtin; (refine wpList_app (.tmp 41) (.tmp 45) E_int rfl rfl rfl rfl wr.heap.size 0 l.length [] (l.map (Value.int .i64)) (World.ownsRow_made wr #[] 0 (Nat.le_refl _) (by decide) rfl) ?g1 (by omega) (by decide) (by simp) ?_); (case g1 => exact SrcAt.ints hsl.2.2 (hi2.mono (by go_grown))); intro v1 w1 ho1 hg1 _; simp only [Nat.zero_add, List.nil_append] at ho1; have hb1 := app_fresh hg1; have hz1 := hb1.size; clear hg1; simp only [Act.put, List.setIfInBounds_toArray, List.set_cons_succ, List.set_cons_zero]))
                go_roundw
                case rel => exact ⟨m + 1, by omega, by go_num, by rw [hrm.out, ← List.append_assoc, HN2.out]; exact hp, hb3⟩
                case measure => simp [intOf]; omega
              · have hm3 : m = (below - (x + 1)).toNat := by omega
                go_wp2
                go_roundw
                case rel => exact ⟨j + 1, by omega, by go_num, by rw [htk.out, hstep.out]; rw [hm3] at hown2; simpa using hown2, hbw3⟩
                case measure => simp [intOf]; omega

        · have hjL : j = L.length := by omega
          rw [hjL, List.take_length, ← hnext.out, ← HL'.out] at hown
          obtain ⟨a3, c3, rfl, hs3, hr3⟩ := hown.rows
          go_wp2
          go_roundw
          case rel => exact ⟨k + 1, c3, a3, by omega, by go_num, rfl, hs3, hr3, hbw.trans (hbw1.mono hbw.size)⟩
          case measure => simp [intOf]; omega
    · obtain rfl : k = M := by omega
      go_wp2
      go_ret
      exact ⟨_, rfl, ⟨a, c, rfl, hso, hrc⟩, hbw⟩
end Go.Proofs.Ytchnpekgmkhacaa
