/- What is proved here: contracts of the reference of layer 12: known. Conditions: the room lies in memory; where there is no error it is valid. -/
/- What is proved here: contracts of the reference of layer 12: Told, and of Settled. Conditions: the room lies in memory. -/
/- What is proved here: contracts of the reference of layer 12: Knows. Conditions: the room lies in memory. -/
/- What is proved here: contracts of the reference of layer 12: Keeps. Conditions: the room lies in memory and is valid. -/
import Derived.Test.YtmhbjohpggghgaaSrB
import Derived.Deep.RegionHeld3
set_option linter.unusedVariables false
set_option linter.unusedSimpArgs false
namespace Go.Proofs.Ytmhbjohpggghgaa
open Go Go.RowKit Go.Shelf

/-- The truths in memory, where there is no error. -/
def KnownV (w : World) (v : Value) (r : SeRoom) (e : Int) : Prop := (e = 0 → RowsV w v (seTruths r [])) ∧ (e ≠ 0 → v = .slice none 0 0)
theorem KnownV.mono {w W : World} {v : Value} {r : SeRoom} {e : Int} (h : KnownV w v r e) (hb : Below w.heap.size w W) : KnownV W v r e := ⟨fun h0 => (h.1 h0).mono hb, h.2⟩
set_option maxRecDepth 100000 in
set_option maxHeartbeats 1000000 in
theorem RKnown_any (a1 a2 a3 a4 a5 : Option Addr) (k1 k2 k3 k4 k5 : Nat) (r : SeRoom) (e0 : Int) (w : World) (hm : RoomC w a1 a2 a3 a4 a5 k1 k2 k3 k4 k5 r) (hv : e0 = 0 → SeValid r) :
    Calls Try.prog 81 #[(.agg #[.slice a1 r.writers.length k1, .slice a2 r.kept.length k2, .slice a3 r.leaks.length k3, .slice a4 r.letters.length k4, .slice a5 r.heard.length k5]), .int .i64 e0] w fun e w' => ∃ v, e = .returned (.tuple #[v, .int .i64 (knownErr r e0)]) ∧ KnownV w' v r (knownErr r e0) ∧ Below w.heap.size w w' := by
  have HS : Hid (knownErr r e0 = if e0 = 0 then (if (seTruths r []).length = 0 then 8 else 0) else e0) := rfl
  generalize knownErr r e0 = res at HS ⊢
  by_cases h0 : e0 = 0
  · have h1 := nei_f h0
    have hva := hv h0
    replace HS := Lib.hid (HS.out.trans (if_pos h0))
    subst h0
    clear hv
    have hB0 := Below.refl (w.heap.size + 1) (w.alloc (.cells #[.slice a1 r.writers.length k1, .slice a2 r.kept.length k2, .slice a3 r.leaks.length k3, .slice a4 r.letters.length k4, .slice a5 r.heard.length k5] 28))
    have T := RTruths_any a1 a2 a3 a4 a5 k1 k2 k3 k4 k5 r none [] 0 (w.alloc (.cells #[.slice a1 r.writers.length k1, .slice a2 r.kept.length k2, .slice a3 r.leaks.length k3, .slice a4 r.letters.length k4, .slice a5 r.heard.length k5] 28)) (hm.mono (box_old hB0)) hva ⟨by simp, by omega, fun _ => rfl⟩ (IntsC.nil _ _)
    rw [List.length_nil] at T
    have T := Lib.hid T
    obtain ⟨x0, x1, x2, x3, x4, z0⟩ := box_room hB0
    by_cases hl : (seTruths r []).length = 0
    · replace HS := Lib.hid (HS.out.trans (if_pos hl))
      have HL := Lib.hid hl
      clear hl
      go_enter Try.func81, Try.ntmps81
      go_wp2_with (go_at_call 46; go_must ((with_reducible refine T.out.mono ?_); rintro e w2 ⟨v, rfl, ⟨a, c, rfl, hso, hrc⟩, hb⟩; have hn := HL.out; dsimp only; simp only [hn] at *))
      go_ret2
      have := HS.out
      subst this
      exact ⟨_, rfl, ⟨fun h => by simp at h, fun _ => rfl⟩, box_old (hB0.trans (hb.mono (by simp)))⟩
    · replace HS := Lib.hid (HS.out.trans (if_neg hl))
      have hln : ((seTruths r []).length : Int) ≠ 0 := by omega
      go_enter Try.func81, Try.ntmps81
      go_wp2_with (go_at_call 46; go_must ((with_reducible refine T.out.mono ?_); rintro e w2 ⟨v, rfl, ⟨a, c, rfl, hso, hrc⟩, hb⟩; dsimp only))
      go_ret2
      obtain rfl : res = 0 := HS.out
      exact ⟨_, rfl, ⟨fun _ => ⟨_, _, rfl, hso, hrc⟩, fun h => absurd rfl h⟩, box_old (hB0.trans (hb.mono (by simp)))⟩
  · have h1 := nei_t h0
    replace HS := Lib.hid (HS.out.trans (if_neg h0))
    go_enter Try.func81, Try.ntmps81
    go_wp2
    go_ret2
    have := HS.out
    subst this
    exact ⟨_, rfl, ⟨fun h => absurd h h0, fun _ => rfl⟩, by go_grown⟩
end Go.Proofs.Ytmhbjohpggghgaa
namespace Go.Proofs.Ytmhbjohpggghgaa
open Go Go.RowKit Go.Shelf

theorem RSettled_any (yes all : Nat) (w : World) : Calls Try.prog 83 #[.int .i64 (yes : Int), .int .i64 (all : Int)] w fun e w' => e = .returned (.int .i64 (settled yes all)) ∧ w' = w := by
  obtain ⟨res, hres⟩ : ∃ x, x = settled yes all := ⟨_, rfl⟩
  rw [← hres]
  have HR := Lib.hid hres
  clear hres
  by_cases h1 : yes = all
  · have g1 := eqi_t (show (yes : Int) = all by omega)
    have hr := Lib.hid (show res = 1 from HR.out.trans (by unfold settled; rw [if_pos h1]))
    clear h1
    go_enter Try.func83, Try.ntmps83
    go_wp2
    go_ret
    exact ⟨ret_int hr.out.symm, rfl⟩
  · have g1 := eqi_f (show (yes : Int) ≠ all by omega)
    by_cases h2 : yes = 0
    · have g2 := eqi_t (show (yes : Int) = 0 by omega)
      have hr := Lib.hid (show res = 2 from HR.out.trans (by unfold settled; rw [if_neg h1, if_pos h2]))
      clear h1 h2
      go_enter Try.func83, Try.ntmps83
      go_wp2
      go_ret
      exact ⟨ret_int hr.out.symm, rfl⟩
    · have g2 := eqi_f (show (yes : Int) ≠ 0 by omega)
      have hr := Lib.hid (show res = 0 from HR.out.trans (by unfold settled; rw [if_neg h1, if_neg h2]))
      clear h1 h2
      go_enter Try.func83, Try.ntmps83
      go_wp2
      go_ret
      exact ⟨ret_int hr.out.symm, rfl⟩
theorem index_zero {r : SeRoom} {n below : Int} (h : indexErr r n below = 0) : SeValid r := by
  unfold indexErr at h
  by_cases h2 : seErr r = 0
  · exact seValid_of h2
  · rw [if_neg h2] at h; exact absurd h h2
theorem countP_take {α : Type} (p : α → Bool) (L : List α) (j : Nat) (h : j < L.length) : (L.take (j + 1)).countP p = (L.take j).countP p + if p L[j] then 1 else 0 := by
  rw [List.take_succ_eq_append_getElem h, List.countP_append, List.countP_singleton]
theorem countP_take_le {α : Type} (p : α → Bool) (L : List α) (j : Nat) : (L.take j).countP p ≤ L.length := Nat.le_trans List.countP_le_length (by rw [List.length_take]; omega)
theorem room_keep {w W : World} {a1 a2 a3 a4 a5 : Option Addr} {k1 k2 k3 k4 k5 : Nat} {r : SeRoom} (h : Below (w.heap.size + 1) (w.alloc (.cells #[.slice a1 r.writers.length k1, .slice a2 r.kept.length k2, .slice a3 r.leaks.length k3, .slice a4 r.letters.length k4, .slice a5 r.heard.length k5] 28)) W) : (fun V => Below (w.heap.size + 1) (w.alloc (.cells #[.slice a1 r.writers.length k1, .slice a2 r.kept.length k2, .slice a3 r.leaks.length k3, .slice a4 r.letters.length k4, .slice a5 r.heard.length k5] 28)) V ∧ V.cell? ⟨w.heap.size, 0, none⟩ = some (.slice a1 r.writers.length k1) ∧ V.cell? ⟨w.heap.size, 1, none⟩ = some (.slice a2 r.kept.length k2) ∧ V.cell? ⟨w.heap.size, 2, none⟩ = some (.slice a3 r.leaks.length k3) ∧ V.cell? ⟨w.heap.size, 3, none⟩ = some (.slice a4 r.letters.length k4) ∧ V.cell? ⟨w.heap.size, 4, none⟩ = some (.slice a5 r.heard.length k5) ∧ w.heap.size < V.heap.size) W := ⟨h, box_room h⟩
theorem room_next {w W W' : World} {o : Obj} (h : Below (w.heap.size + 1) (w.alloc o) W) (hb : Below W.heap.size W W') : Below (w.heap.size + 1) (w.alloc o) W' := h.trans (hb.mono (by have := h.size; simpa using this))
theorem truths_few {r : SeRoom} (hv : SeValid r) (but : List Int) : (seTruths r but).length ≤ 16 := Nat.le_trans (List.length_filter_le _ _) (Nat.le_trans (setsTo_many r r.leaks.length) (Nat.le_trans (Nat.pow_le_pow_right (by omega) hv.nl) (by decide : 2 ^ 4 ≤ 16)))
theorem truths_bd {r : SeRoom} (but : List Int) : ∀ t ∈ seTruths r but, ∀ x ∈ t, 0 ≤ x ∧ x < r.leaks.length := fun t ht => setsTo_bd r r.leaks.length t (List.mem_filter.1 ht).1
theorem truths_short {r : SeRoom} (but : List Int) : ∀ t ∈ seTruths r but, t.length ≤ r.leaks.length := fun t ht => setsTo_len r r.leaks.length t (List.mem_filter.1 ht).1

set_option maxRecDepth 100000 in
set_option maxHeartbeats 2000000 in
theorem RTold_any (a1 a2 a3 a4 a5 : Option Addr) (k1 k2 k3 k4 k5 : Nat) (r : SeRoom) (n : Int) (w : World) (hm : RoomC w a1 a2 a3 a4 a5 k1 k2 k3 k4 k5 r) :
    Calls Try.prog 24 #[(.agg #[.slice a1 r.writers.length k1, .slice a2 r.kept.length k2, .slice a3 r.leaks.length k3, .slice a4 r.letters.length k4, .slice a5 r.heard.length k5]), .int .i64 n] w fun e w' => e = .returned (.tuple #[.int .i64 (toldOf r n).1, .int .i64 (toldOf r n).2]) ∧ Below w.heap.size w w' := by
  have HF : Hid (toldOf r n = if toldErr r n = 0 then (settled ((seTruths r []).countP fun t => hasB t n) (seTruths r []).length, 0) else (0, toldErr r n)) := rfl
  have l3 := hm.ok3.len
  generalize toldOf r n = res at HF ⊢
  have hB0 := Below.refl (w.heap.size + 1) (w.alloc (.cells #[.slice a1 r.writers.length k1, .slice a2 r.kept.length k2, .slice a3 r.leaks.length k3, .slice a4 r.letters.length k4, .slice a5 r.heard.length k5] 28))
  obtain ⟨x0, x1, x2, x3, x4, z0⟩ := box_room hB0
  have C := Lib.hid (fun (W : World) (h : Below w.heap.size w W) => RIndex_any a1 a2 a3 a4 a5 k1 k2 k3 k4 k5 r n r.leaks.length W (hm.mono h) (by omega) (by omega))
  have HV := Lib.hid (fun h : indexErr r n r.leaks.length = 0 => index_zero h)
  have S := Lib.hid (fun (W : World) (h : Below w.heap.size w W) => RKnown_any a1 a2 a3 a4 a5 k1 k2 k3 k4 k5 r (indexErr r n r.leaks.length) W (hm.mono h) HV.out)
  have HVV := Lib.hid (fun h : toldErr r n = 0 => (index_valid (below := r.leaks.length) h).1)
  have HTE : Hid (toldErr r n = knownErr r (indexErr r n r.leaks.length)) := rfl
  rw [← HTE.out] at S
  generalize indexErr r n r.leaks.length = x at C S
  clear HTE HV
  generalize toldErr r n = te at S HF HVV
  have hBd := below_drew' hB0
  by_cases h0 : te = 0
  · have hva := HVV.out h0
    have vl := hva.nl
    have hfew := truths_few hva []
    have hshort := Lib.hid (truths_short (r := r) [])
    replace HF := Lib.hid (HF.out.trans (if_pos h0))
    have h1 := nei_f h0
    have HER := Lib.hid h0
    clear h0 HVV
    generalize hT : seTruths r [] = T at hfew hshort HF
    have HTT := Lib.hid hT
    clear hT
    go_enter Try.func24, Try.ntmps24
    go_wp2
    go_region_held3 (fun V => Below (w.heap.size + 1) (w.alloc (.cells #[.slice a1 r.writers.length k1, .slice a2 r.kept.length k2, .slice a3 r.leaks.length k3, .slice a4 r.letters.length k4, .slice a5 r.heard.length k5] 28)) V ∧ V.cell? ⟨w.heap.size, 0, none⟩ = some (.slice a1 r.writers.length k1) ∧ V.cell? ⟨w.heap.size, 1, none⟩ = some (.slice a2 r.kept.length k2) ∧ V.cell? ⟨w.heap.size, 2, none⟩ = some (.slice a3 r.leaks.length k3) ∧ V.cell? ⟨w.heap.size, 3, none⟩ = some (.slice a4 r.letters.length k4) ∧ V.cell? ⟨w.heap.size, 4, none⟩ = some (.slice a5 r.heard.length k5) ∧ w.heap.size < V.heap.size) (exact room_keep (by assumption)) (first
      | (go_at_call 86; (with_reducible refine (C.out _ (box_old (And.left (by assumption)))).mono ?_); rintro e w2 ⟨rfl, hb⟩; have hB2 := room_next (And.left (by assumption)) hb; dsimp only)
      | (go_at_call 81; (with_reducible refine (S.out _ (box_old (And.left (by assumption)))).mono ?_); rintro e w3 ⟨v, rfl, hsv, hb3⟩; have hB3 := room_next (And.left (by assumption)) hb3; (have h5 := hsv.1 HER.out; rw [HTT.out] at h5; obtain ⟨a, c, rfl, hso, hrc⟩ := h5); dsimp only))
    have hB3' := hB3
    have hlT := hso.len
    go_wp2
    go_loopw [8, 9] (fun y i wr => ∃ j m : Nat, j ≤ T.length ∧ i = .int .i64 j ∧ y = .int .i64 m ∧ m ≤ 16 ∧ Hid (m = (T.take j).countP fun t => hasB t n) ∧ Below w3.heap.size w3 wr) (fun _ i _ => T.length - (intOf i).toNat)
    case atStart => exact ⟨0, 0, Nat.zero_le _, rfl, rfl, by omega, Lib.hid (by simp), Below.refl _ _⟩
    case round =>
      obtain ⟨j, m, hj, rfl, rfl, hm16, HM, hbw⟩ := hrel
      by_cases hlt : j < T.length
      · obtain ⟨b, off, a', c', rfl, hbl, hcell, hsl, hints⟩ := (hrc.mono hbw) j hlt
        have hst := Lib.hid (countP_take (fun t => hasB t n) T j hlt)
        have hlj := hshort.out T[j] (List.getElem_mem hlt)
        have hle := countP_take_le (fun t => hasB t n) T (j + 1)
        rw [hst.out] at hle
        generalize T[j] = t at hcell hsl hints hst hlj hle
        have H := Lib.hid (fun W (h : Below wr.heap.size wr W) => Has_any a' t c' n W hsl.len (hints.mono h))
        (try simp only at hst)
        (try simp only at hle)
        generalize hasB t n = hb at H hst hle
        have hjT : (j : Int) < T.length := by omega
        rw [← HM.out] at hle
        cases hb
        · have hs2 := Lib.hid (hst.out.trans (by simp) : _ = (T.take j).countP fun t => hasB t n)
          go_wp2_with (go_at_call 39; go_must ((with_reducible refine (H.out wr (Below.refl _ _)).mono ?_); rintro e w5 ⟨rfl, rfl⟩; dsimp only))
          go_roundw
          case rel => exact ⟨j + 1, m, by omega, by go_num, rfl, hm16, Lib.hid (HM.out.trans hs2.out.symm), hbw⟩
          case measure => simp [intOf]; omega
        · have hs2 := Lib.hid (hst.out.trans (by simp) : _ = ((T.take j).countP fun t => hasB t n) + 1)
          simp only [if_true] at hle
          go_wp2_with (go_at_call 39; go_must ((with_reducible refine (H.out wr (Below.refl _ _)).mono ?_); rintro e w5 ⟨rfl, rfl⟩; dsimp only))
          go_roundw
          case rel => exact ⟨j + 1, m + 1, by omega, by go_num, by go_num, by omega, Lib.hid (by rw [hs2.out, HM.out]), hbw⟩
          case measure => simp [intOf]; omega
      · obtain rfl : j = T.length := by omega
        have hm2 : m = T.countP fun t => hasB t n := by rw [HM.out, List.take_length]
        rw [← hm2] at HF
        have SE := Lib.hid (fun W => RSettled_any m T.length W)
        clear hm2
        go_wp2_with (go_at_call 83; go_must ((with_reducible refine (SE.out _).mono ?_); rintro e w5 ⟨rfl, rfl⟩; dsimp only))
        go_ret2
        have hr := HF.out
        subst hr
        exact ⟨rfl, (box_old hB3').trans (hbw.mono (box_old hB3').size)⟩
  · have h1 := nei_t h0
    replace HF := Lib.hid (HF.out.trans (if_neg h0))
    go_enter Try.func24, Try.ntmps24
    go_wp2
    go_region_held3 (fun V => Below (w.heap.size + 1) (w.alloc (.cells #[.slice a1 r.writers.length k1, .slice a2 r.kept.length k2, .slice a3 r.leaks.length k3, .slice a4 r.letters.length k4, .slice a5 r.heard.length k5] 28)) V ∧ V.cell? ⟨w.heap.size, 0, none⟩ = some (.slice a1 r.writers.length k1) ∧ V.cell? ⟨w.heap.size, 1, none⟩ = some (.slice a2 r.kept.length k2) ∧ V.cell? ⟨w.heap.size, 2, none⟩ = some (.slice a3 r.leaks.length k3) ∧ V.cell? ⟨w.heap.size, 3, none⟩ = some (.slice a4 r.letters.length k4) ∧ V.cell? ⟨w.heap.size, 4, none⟩ = some (.slice a5 r.heard.length k5) ∧ w.heap.size < V.heap.size) (exact room_keep (by assumption)) (first
      | (go_at_call 86; (with_reducible refine (C.out _ (box_old (And.left (by assumption)))).mono ?_); rintro e w2 ⟨rfl, hb⟩; have hB2 := room_next (And.left (by assumption)) hb; dsimp only)
      | (go_at_call 81; (with_reducible refine (S.out _ (box_old (And.left (by assumption)))).mono ?_); rintro e w3 ⟨v, rfl, hsv, hb3⟩; have hB3 := room_next (And.left (by assumption)) hb3; dsimp only))
    go_wp2
    go_ret2
    have hr := HF.out
    subst hr
    exact ⟨rfl, box_old hB3⟩
end Go.Proofs.Ytmhbjohpggghgaa
namespace Go.Proofs.Ytmhbjohpggghgaa
open Go Go.RowKit Go.Shelf

theorem who_zero {r : SeRoom} {who s : Int} (h : whoErr r who s = 0) : SeValid r ∧ 0 ≤ who ∧ who < r.writers.length ∧ 0 ≤ s ∧ s < r.kept.length := by
  unfold whoErr at h
  by_cases h1 : indexErr r who r.writers.length = 0
  · rw [if_pos h1] at h
    unfold indexErr at h h1
    by_cases h2 : seErr r = 0
    · rw [if_pos h2] at h h1
      have a : inB who 0 ((r.writers.length : Int) - 1) = true := by
        cases hb : inB who 0 ((r.writers.length : Int) - 1)
        · rw [hb] at h1; simp at h1
        · rfl
      have b : inB s 0 ((r.kept.length : Int) - 1) = true := by
        cases hb : inB s 0 ((r.kept.length : Int) - 1)
        · rw [hb] at h; simp at h
        · rfl
      have a := inB_iff.1 a
      have b := inB_iff.1 b
      exact ⟨seValid_of h2, by omega, by omega, by omega, by omega⟩
    · rw [if_neg h2] at h; exact absurd h h2
  · rw [if_neg h1] at h; exact absurd h h1
theorem known_no {r : SeRoom} {x : Int} (h : x ≠ 0) : knownErr r x = x := by unfold knownErr; rw [if_neg h]

set_option maxRecDepth 100000 in
set_option maxHeartbeats 2000000 in
theorem RKnows_any (a1 a2 a3 a4 a5 : Option Addr) (k1 k2 k3 k4 k5 : Nat) (r : SeRoom) (who s day : Int) (w : World) (hm : RoomC w a1 a2 a3 a4 a5 k1 k2 k3 k4 k5 r) :
    Calls Try.prog 21 #[(.agg #[.slice a1 r.writers.length k1, .slice a2 r.kept.length k2, .slice a3 r.leaks.length k3, .slice a4 r.letters.length k4, .slice a5 r.heard.length k5]), .int .i64 who, .int .i64 s, .int .i64 day] w fun e w' => e = .returned (.tuple #[.int .i64 (knowsOf r who s day).1, .int .i64 (knowsOf r who s day).2]) ∧ Below w.heap.size w w' := by
  have HF : Hid (knowsOf r who s day = if knowsErr r who s day = 0 then (settled ((seTruths r []).countP fun t => leI (dayOf r t who.toNat s.toNat) day) (seTruths r []).length, 0) else (0, knowsErr r who s day)) := rfl
  have HE : Hid (knowsErr r who s day = knownErr r (if whoErr r who s = 0 then (if inB day 0 9 then 0 else 7) else whoErr r who s)) := rfl
  generalize knowsOf r who s day = res at HF ⊢
  generalize knowsErr r who s day = te at HF HE
  have hB0 := Below.refl (w.heap.size + 1) (w.alloc (.cells #[.slice a1 r.writers.length k1, .slice a2 r.kept.length k2, .slice a3 r.leaks.length k3, .slice a4 r.letters.length k4, .slice a5 r.heard.length k5] 28))
  obtain ⟨x0, x1, x2, x3, x4, z0⟩ := box_room hB0
  have A := Lib.hid (RAsked_any a1 a2 a3 a4 a5 k1 k2 k3 k4 k5 r who s (w.alloc (.cells #[.slice a1 r.writers.length k1, .slice a2 r.kept.length k2, .slice a3 r.leaks.length k3, .slice a4 r.letters.length k4, .slice a5 r.heard.length k5] 28)) (hm.mono (box_old hB0)))
  have HW := Lib.hid (fun h : whoErr r who s = 0 => who_zero h)
  generalize whoErr r who s = e1 at A HE HW
  have I := fun W => In_any day 0 9 W
  generalize inB day 0 9 = bi at I HE
  have I := Lib.hid I
  have S := Lib.hid (fun (x : Int) (W : World) (h : Below w.heap.size w W) hx => RKnown_any a1 a2 a3 a4 a5 k1 k2 k3 k4 k5 r x W (hm.mono h) hx)
  have HNX : Hid (∀ W, Below (w.alloc (.cells #[.slice a1 r.writers.length k1, .slice a2 r.kept.length k2, .slice a3 r.leaks.length k3, .slice a4 r.letters.length k4, .slice a5 r.heard.length k5] 28)).heap.size (w.alloc (.cells #[.slice a1 r.writers.length k1, .slice a2 r.kept.length k2, .slice a3 r.leaks.length k3, .slice a4 r.letters.length k4, .slice a5 r.heard.length k5] 28)) W → Below (w.heap.size + 1) (w.alloc (.cells #[.slice a1 r.writers.length k1, .slice a2 r.kept.length k2, .slice a3 r.leaks.length k3, .slice a4 r.letters.length k4, .slice a5 r.heard.length k5] 28)) W) := Lib.hid (fun W h => room_next hB0 h)
  by_cases h0 : e1 = 0
  · obtain ⟨hva, hw0, hw1, hs0, hs1⟩ := HW.out h0
    subst h0
    clear HW
    cases bi
    · have hte : te = 7 := HE.out.trans (by rw [if_pos rfl]; exact known_no (by decide))
      replace HF := Lib.hid (show res = (0, 7) from HF.out.trans (by rw [if_neg (by rw [hte]; decide), hte]))
      clear hte HE
      have S7 := Lib.hid (fun W h => S.out 7 W h (fun e => by cases e))
      rw [known_no (show (7 : Int) ≠ 0 by decide)] at S7
      go_enter Try.func21, Try.ntmps21
      go_wp2_with (first
        | (go_at_call 81; (with_reducible refine (S7.out _ (box_old (HNX.out _ hb))).mono ?_); rintro e w3 ⟨v, rfl, hsv, hb3⟩; dsimp only)
        | (go_at_call 76; (with_reducible refine (I.out _).mono ?_); rintro e w3 ⟨rfl, rfl⟩; dsimp only)
        | (go_at_call 82; (with_reducible refine A.out.mono ?_); rintro e w2 ⟨rfl, hb⟩; obtain ⟨x0, x1, x2, x3, x4, z0⟩ := box_room (HNX.out _ hb); dsimp only))
      go_ret2
      have hr := HF.out
      subst hr
      exact ⟨rfl, (box_old (HNX.out _ hb)).trans (hb3.mono (box_old (HNX.out _ hb)).size)⟩
    · have hte : te = knownErr r 0 := HE.out.trans (by rw [if_pos rfl]; rfl)
      have S0 := fun W h => S.out 0 W h (fun _ => hva)
      rw [← hte] at S0
      have S0 := Lib.hid S0
      clear hte HE
      obtain ⟨u, rfl⟩ : ∃ u : Nat, who = u := ⟨who.toNat, by omega⟩
      obtain ⟨s, rfl⟩ : ∃ s' : Nat, s = s' := ⟨s.toNat, by omega⟩
      simp only [Int.toNat_natCast] at HF
      have hul : u < r.writers.length := by omega
      have vk := hva.nk
      have hsl3 : s ≤ 3 := by omega
      by_cases h0 : te = 0
      · have vl := hva.nl
        have hfew := truths_few hva []
        have hbd := Lib.hid (truths_bd (r := r) [])
        replace HF := Lib.hid (HF.out.trans (if_pos h0))
        have h1 := nei_f h0
        have HER := Lib.hid h0
        clear h0
        generalize hT : seTruths r [] = T at hfew hbd HF
        have HTT := Lib.hid hT
        clear hT
        go_enter Try.func21, Try.ntmps21
        go_upto_region 7 with (first
          | (go_at_call 81; (with_reducible refine (S0.out _ (box_old (HNX.out _ hb))).mono ?_); rintro e w3 ⟨v, rfl, hsv, hb3⟩; (have h5 := hsv.1 HER.out; rw [HTT.out] at h5; obtain ⟨a, c, rfl, hso, hrc⟩ := h5); dsimp only)
          | (go_at_call 76; (with_reducible refine (I.out _).mono ?_); rintro e w3 ⟨rfl, rfl⟩; dsimp only)
          | (go_at_call 82; (with_reducible refine A.out.mono ?_); rintro e w2 ⟨rfl, hb⟩; obtain ⟨x0, x1, x2, x3, x4, z0⟩ := box_room (HNX.out _ hb); dsimp only))
        have hB3 := room_next (HNX.out _ hb) hb3
        have hlT := hso.len
        clear x0 x1 x2 x3 x4 z0
        go_wp2
        go_loopw [12, 13] (fun y i wr => ∃ j m : Nat, j ≤ T.length ∧ i = .int .i64 j ∧ y = .int .i64 m ∧ m ≤ 16 ∧ Hid (m = (T.take j).countP fun t => leI (dayOf r t u s) day) ∧ Below w3.heap.size w3 wr) (fun _ i _ => T.length - (intOf i).toNat)
        case atStart => exact ⟨0, 0, Nat.zero_le _, rfl, rfl, by omega, Lib.hid (by simp), Below.refl _ _⟩
        case round =>
          obtain ⟨j, m, hj, rfl, rfl, hm16, HM, hbw⟩ := hrel
          by_cases hlt : j < T.length
          · obtain ⟨b, off, a', c', rfl, hbl, hcell, hsl, hints⟩ := (hrc.mono hbw) j hlt
            have hst := Lib.hid (countP_take (fun t => leI (dayOf r t u s) day) T j hlt)
            have htb := hbd.out T[j] (List.getElem_mem hlt)
            have hle := countP_take_le (fun t => leI (dayOf r t u s) day) T (j + 1)
            rw [hst.out] at hle
            generalize T[j] = t at hcell hsl hints hst htb hle
            have hBW := room_next hB3 hbw
            obtain ⟨x0, x1, x2, x3, x4, z0⟩ := box_room hBW
            have hbO := box_old hBW
            have D := Lib.hid (fun V (h : Below wr.heap.size wr V) => RDay_any a1 a2 a3 a4 a5 k1 k2 k3 k4 k5 r a' t c' u s V (hm.mono (hbO.trans (h.mono hbO.size))) hva hsl (hints.mono h) htb hul hsl3)
            (try simp only at hst)
            (try simp only at hle)
            generalize dayOf r t u s = d at D hst hle
            have hjT : (j : Int) < T.length := by omega
            rw [← HM.out] at hle
            have KE : Hid (∀ V, Below wr.heap.size wr V → (Below wr.heap.size wr V ∧ V.cell? ⟨w.heap.size, 0, none⟩ = some (.slice a1 r.writers.length k1) ∧ V.cell? ⟨w.heap.size, 1, none⟩ = some (.slice a2 r.kept.length k2) ∧ V.cell? ⟨w.heap.size, 2, none⟩ = some (.slice a3 r.leaks.length k3) ∧ V.cell? ⟨w.heap.size, 3, none⟩ = some (.slice a4 r.letters.length k4) ∧ V.cell? ⟨w.heap.size, 4, none⟩ = some (.slice a5 r.heard.length k5) ∧ V.cell? ⟨b, off + j, none⟩ = some (.slice a' t.length c') ∧ w.heap.size < V.heap.size ∧ b < V.heap.size)) := Lib.hid (fun V h => ⟨h, cell_below h x0, cell_below h x1, cell_below h x2, cell_below h x3, cell_below h x4, cell_below h hcell, Nat.lt_of_lt_of_le z0 h.size, Nat.lt_of_lt_of_le hbl h.size⟩)
            go_upto_region 11 with (fail)
            apply wp_mid _ (fun V => Below wr.heap.size wr V)
            · have hg0 : Below wr.heap.size wr wr.drew := below_drew' (Below.refl _ _)
              go_region_held3 (fun V => Below wr.heap.size wr V ∧ V.cell? ⟨w.heap.size, 0, none⟩ = some (.slice a1 r.writers.length k1) ∧ V.cell? ⟨w.heap.size, 1, none⟩ = some (.slice a2 r.kept.length k2) ∧ V.cell? ⟨w.heap.size, 2, none⟩ = some (.slice a3 r.leaks.length k3) ∧ V.cell? ⟨w.heap.size, 3, none⟩ = some (.slice a4 r.letters.length k4) ∧ V.cell? ⟨w.heap.size, 4, none⟩ = some (.slice a5 r.heard.length k5) ∧ V.cell? ⟨b, off + j, none⟩ = some (.slice a' t.length c') ∧ w.heap.size < V.heap.size ∧ b < V.heap.size) (first | exact KE.out _ hg0 | exact KE.out _ hg1) (first
                | (go_at_call 40; (with_reducible refine (D.out _ (And.left (by assumption))).mono ?_); rintro e w4 ⟨rfl, hgs⟩; have hg1 := hg0.trans (hgs.mono hg0.size); dsimp only))
              exact ⟨rfl, hg1⟩
            intro V hgV
            have hbV := hbw.trans (hgV.mono hbw.size)
            by_cases hd : d ≤ day
            · have hs2 := Lib.hid (hst.out.trans (by simp [leI, hd]) : _ = ((T.take j).countP fun t => leI (dayOf r t u s) day) + 1)
              have hle2 : m + 1 ≤ T.length := by simpa [leI, hd] using hle
              go_wp2
              go_roundw
              case rel => exact ⟨j + 1, m + 1, by omega, by go_num, by go_num, by omega, Lib.hid (by rw [hs2.out, HM.out]), hbV⟩
              case measure => simp [intOf]; omega
            · have hs2 := Lib.hid (hst.out.trans (by simp [leI, hd]) : _ = (T.take j).countP fun t => leI (dayOf r t u s) day)
              go_wp2
              go_roundw
              case rel => exact ⟨j + 1, m, by omega, by go_num, rfl, hm16, Lib.hid (HM.out.trans hs2.out.symm), hbV⟩
              case measure => simp [intOf]; omega
          · obtain rfl : j = T.length := by omega
            have hm2 : m = T.countP fun t => leI (dayOf r t u s) day := by rw [HM.out, List.take_length]
            rw [← hm2] at HF
            have SE := Lib.hid (fun W => RSettled_any m T.length W)
            clear hm2
            go_wp2_with (go_at_call 83; go_must ((with_reducible refine (SE.out _).mono ?_); rintro e w5 ⟨rfl, rfl⟩; dsimp only))
            go_ret2
            have hr := HF.out
            subst hr
            exact ⟨rfl, (box_old hB3).trans (hbw.mono (box_old hB3).size)⟩
      · have h1 := nei_t h0
        replace HF := Lib.hid (HF.out.trans (if_neg h0))
        go_enter Try.func21, Try.ntmps21
        go_wp2_with (first
          | (go_at_call 81; (with_reducible refine (S0.out _ (box_old (HNX.out _ hb))).mono ?_); rintro e w3 ⟨v, rfl, hsv, hb3⟩; dsimp only)
          | (go_at_call 76; (with_reducible refine (I.out _).mono ?_); rintro e w3 ⟨rfl, rfl⟩; dsimp only)
          | (go_at_call 82; (with_reducible refine A.out.mono ?_); rintro e w2 ⟨rfl, hb⟩; obtain ⟨x0, x1, x2, x3, x4, z0⟩ := box_room (HNX.out _ hb); dsimp only))
        go_ret2
        have hr := HF.out
        subst hr
        exact ⟨rfl, (box_old (HNX.out _ hb)).trans (hb3.mono (box_old (HNX.out _ hb)).size)⟩
  · have hte : te = e1 := HE.out.trans (by rw [if_neg h0]; exact known_no h0)
    have g1 := eqi_f h0
    have g2 := nei_t h0
    replace HF := Lib.hid (show res = (0, e1) from HF.out.trans (by rw [if_neg (by rw [hte]; exact h0), hte]))
    have S7 := Lib.hid (fun W h => S.out e1 W h (fun e => absurd e h0))
    rw [known_no h0] at S7
    clear hte HE h0
    go_enter Try.func21, Try.ntmps21
    go_wp2_with (first
      | (go_at_call 81; (with_reducible refine (S7.out _ (box_old (HNX.out _ hb))).mono ?_); rintro e w3 ⟨v, rfl, hsv, hb3⟩; dsimp only)
      | (go_at_call 82; (with_reducible refine A.out.mono ?_); rintro e w2 ⟨rfl, hb⟩; obtain ⟨x0, x1, x2, x3, x4, z0⟩ := box_room (HNX.out _ hb); dsimp only))
    go_ret2
    have hr := HF.out
    subst hr
    exact ⟨rfl, (box_old (HNX.out _ hb)).trans (hb3.mono (box_old (HNX.out _ hb)).size)⟩
end Go.Proofs.Ytmhbjohpggghgaa
namespace Go.Proofs.Ytmhbjohpggghgaa
open Go Go.RowKit Go.Shelf

theorem RFromG_any (a1 a2 a3 a4 a5 : Option Addr) (k1 k2 k3 k4 k5 : Nat) (r : SeRoom) (la ta : Option Addr) (letters : List SeLetter) (t : List Int) (lc tc s : Nat) (w : World) (hm : RoomC w a1 a2 a3 a4 a5 k1 k2 k3 k4 k5 r) (hv : SeValid r) (hlo : SlOk la letters.length lc) (hlc : LettersC w la letters) (hlb : ∀ x ∈ letters, 0 ≤ x.day ∧ x.day ≤ 10 ∧ 0 ≤ x.secrets ∧ x.secrets ≤ 8) (hto : SlOk ta t.length tc) (htc : IntsC w ta t) (htb : ∀ x ∈ t, 0 ≤ x ∧ x < r.leaks.length) (hs : s ≤ 3) :
    Calls Try.prog 104 #[(.agg #[.slice a1 r.writers.length k1, .slice a2 r.kept.length k2, .slice a3 r.leaks.length k3, .slice a4 r.letters.length k4, .slice a5 r.heard.length k5]), .slice la letters.length lc, .slice ta t.length tc, .int .i64 (s : Int)] w fun e w' => ∃ g, e = .returned (.slice (some ⟨g, 0, none⟩) r.writers.length r.writers.length) ∧ BlkI w' g 3 (ml r.writers.length (fromD r letters t s)) ∧ Below w.heap.size w w' :=
  (RFrom_any a1 a2 a3 a4 a5 k1 k2 k3 k4 k5 r la ta letters t lc tc s w hm hv hlo hlc hlb hto htc htb hs).mono fun e w' ⟨h1, h2⟩ => ⟨_, h1, h2.2.2, h2.1⟩
theorem all_take {α : Type} (p : α → Bool) (L : List α) (j : Nat) (h : j < L.length) (h1 : (L.take j).all p = true) (h2 : p L[j] = true) : (L.take (j + 1)).all p = true := by
  rw [List.take_succ_eq_append_getElem h, List.all_append, h1]; simp [h2]
theorem all_not {α : Type} (p : α → Bool) (L : List α) (j : Nat) (h : j < L.length) (h2 : p L[j] = false) : L.all p = false := by
  rw [List.all_eq_false]; exact ⟨_, List.getElem_mem h, by simp [h2]⟩
theorem rangeAll_succ (p : Nat → Bool) (n : Nat) : (List.range (n + 1)).all p = ((List.range n).all p && p n) := by
  rw [List.range_succ, List.all_append]; simp
theorem rangeAll_not (p : Nat → Bool) {n m : Nat} (h : n < m) (h2 : p n = false) : (List.range m).all p = false := by
  rw [List.all_eq_false]; exact ⟨n, List.mem_range.2 h, by simp [h2]⟩

set_option maxRecDepth 100000 in
set_option maxHeartbeats 2000000 in
theorem RKeeps_any (a1 a2 a3 a4 a5 : Option Addr) (k1 k2 k3 k4 k5 : Nat) (r : SeRoom) (la ra : Option Addr) (letters : List SeLetter) (T : List (List Int)) (lc rc s : Nat) (w : World) (hm : RoomC w a1 a2 a3 a4 a5 k1 k2 k3 k4 k5 r) (hv : SeValid r) (hlo : SlOk la letters.length lc) (hlc : LettersC w la letters) (hlb : ∀ x ∈ letters, 0 ≤ x.day ∧ x.day ≤ 10 ∧ 0 ≤ x.secrets ∧ x.secrets ≤ 8) (hro : SlOk ra T.length rc) (hrc : RowsC w ra T) (htb : ∀ t ∈ T, ∀ x ∈ t, 0 ≤ x ∧ x < r.leaks.length) (hs : s < r.kept.length) :
    Calls Try.prog 50 #[(.agg #[.slice a1 r.writers.length k1, .slice a2 r.kept.length k2, .slice a3 r.leaks.length k3, .slice a4 r.letters.length k4, .slice a5 r.heard.length k5]), .slice la letters.length lc, .slice ra T.length rc, .int .i64 (s : Int)] w fun e w' => e = .returned (.bool (keepsB r letters T s)) ∧ Below w.heap.size w w' := by
  have HF : Hid (keepsB r letters T s = T.all (keepsIn r letters s)) := rfl
  generalize keepsB r letters T s = res at HF ⊢
  have vw := hv.nw
  have vk := hv.nk
  have hkv := hv.kept s hs
  have hlT := hro.len
  have hp16 : (2 : Int) ^ r.writers.length ≤ 16 := by
    have : r.writers.length = 0 ∨ r.writers.length = 1 ∨ r.writers.length = 2 ∨ r.writers.length = 3 ∨ r.writers.length = 4 := by omega
    rcases this with e | e | e | e | e <;> rw [e] <;> decide
  have HKI : Hid (∀ t, keepsIn r letters s t = (List.range r.writers.length).all fun u => !(bitB r.kept[s] u && leI (fromD r letters t s u) 9)) := Lib.hid (fun t => by
    unfold keepsIn keptAt
    rw [List.getElem?_eq_getElem hs]
    rfl)
  have HK := Lib.hid (fun W (h : Below w.heap.size w W) => (hm.mono h).kept s hs)
  have hkc := hm.ok2.1
  generalize r.kept[s] = kp at hkv HKI HK
  have HB := fun (u : Nat) (hu : u ≤ 4) W => Bit_any kp u W (by omega) (by omega) (by omega) (by omega)
  simp only [Int.toNat_natCast] at HB
  have HB := Lib.hid HB
  have hsk : (s : Int) < r.kept.length := by omega
  have hsk2 : (s : Int) < k2 := by omega
  have hB0 := Below.refl (w.heap.size + 1) (w.alloc (.cells #[.slice a1 r.writers.length k1, .slice a2 r.kept.length k2, .slice a3 r.leaks.length k3, .slice a4 r.letters.length k4, .slice a5 r.heard.length k5] 28))
  go_enter Try.func50, Try.ntmps50
  go_wp2
  go_loopw [9] (fun i wr => ∃ j : Nat, j ≤ T.length ∧ i = .int .i64 j ∧ Hid ((T.take j).all (keepsIn r letters s) = true) ∧ Below (w.heap.size + 1) (w.alloc (.cells #[.slice a1 r.writers.length k1, .slice a2 r.kept.length k2, .slice a3 r.leaks.length k3, .slice a4 r.letters.length k4, .slice a5 r.heard.length k5] 28)) wr) (fun i _ => T.length - (intOf i).toNat)
  case atStart => exact ⟨0, Nat.zero_le _, rfl, Lib.hid (by simp), hB0⟩
  case round =>
    obtain ⟨j, hj, rfl, HA, hB⟩ := hrel
    obtain ⟨x0, x1, x2, x3, x4, z0⟩ := box_room hB
    have hbO := box_old hB
    by_cases hlt : j < T.length
    · obtain ⟨b, off, a', c', rfl, hbl, hcell, hsl, hints⟩ := (hrc.mono hbO) j hlt
      have htj := htb T[j] (List.getElem_mem hlt)
      have HAT := Lib.hid (fun h => all_take (keepsIn r letters s) T j hlt HA.out h)
      have HAN := Lib.hid (fun h => HF.out.trans (all_not (keepsIn r letters s) T j hlt h))
      have HKT := Lib.hid (HKI.out T[j])
      generalize T[j] = t at hcell hsl hints htj HAT HAN HKT
      have F := Lib.hid (fun V (h : Below wr.heap.size wr V) => RFromG_any a1 a2 a3 a4 a5 k1 k2 k3 k4 k5 r la a' letters t lc c' s V (hm.mono (hbO.trans (h.mono hbO.size))) hv hlo (hlc.mono (hbO.trans (h.mono hbO.size))) hlb hsl (hints.mono h) htj (by omega))
      generalize fromD r letters t s = d at F HKT
      generalize keepsIn r letters s t = kt at HAT HAN HKT
      have hjT : (j : Int) < T.length := by omega
      have KE : Hid (∀ V, Below wr.heap.size wr V → (Below wr.heap.size wr V ∧ V.cell? ⟨w.heap.size, 0, none⟩ = some (.slice a1 r.writers.length k1) ∧ V.cell? ⟨w.heap.size, 1, none⟩ = some (.slice a2 r.kept.length k2) ∧ V.cell? ⟨w.heap.size, 2, none⟩ = some (.slice a3 r.leaks.length k3) ∧ V.cell? ⟨w.heap.size, 3, none⟩ = some (.slice a4 r.letters.length k4) ∧ V.cell? ⟨w.heap.size, 4, none⟩ = some (.slice a5 r.heard.length k5) ∧ V.cell? ⟨b, off + j, none⟩ = some (.slice a' t.length c') ∧ w.heap.size < V.heap.size ∧ b < V.heap.size)) := Lib.hid (fun V h => ⟨h, cell_below h x0, cell_below h x1, cell_below h x2, cell_below h x3, cell_below h x4, cell_below h hcell, Nat.lt_of_lt_of_le z0 h.size, Nat.lt_of_lt_of_le hbl h.size⟩)
      go_upto_region 4 with (fail)
      go_cut [10] (fun f W => ∃ g, f = .slice (some ⟨g, 0, none⟩) r.writers.length r.writers.length ∧ BlkI W g 3 (ml r.writers.length d) ∧ Below wr.heap.size wr W)
      case first =>
        have hg0 : Below wr.heap.size wr wr.drew := below_drew' (Below.refl _ _)
        go_region_held3 (fun V => Below wr.heap.size wr V ∧ V.cell? ⟨w.heap.size, 0, none⟩ = some (.slice a1 r.writers.length k1) ∧ V.cell? ⟨w.heap.size, 1, none⟩ = some (.slice a2 r.kept.length k2) ∧ V.cell? ⟨w.heap.size, 2, none⟩ = some (.slice a3 r.leaks.length k3) ∧ V.cell? ⟨w.heap.size, 3, none⟩ = some (.slice a4 r.letters.length k4) ∧ V.cell? ⟨w.heap.size, 4, none⟩ = some (.slice a5 r.heard.length k5) ∧ V.cell? ⟨b, off + j, none⟩ = some (.slice a' t.length c') ∧ w.heap.size < V.heap.size ∧ b < V.heap.size) (first | exact KE.out _ hg0 | exact KE.out _ hg1) (first
          | (go_at_call 104; (with_reducible refine (F.out _ (And.left (by assumption))).mono ?_); rintro e w4 ⟨g, rfl, hgB, hgs⟩; have hg1 := hg0.trans (hgs.mono hg0.size); dsimp only))
        go_wp2
        go_meet
        case rel => exact ⟨g, rfl, hgB, hg1⟩
      case rest =>
        obtain ⟨g, rfl, hgB, hbV⟩ := hcut
        rename World => V
        clear x0 x1 x2 x3 x4 z0
        go_wp2
        go_loopw [11] (fun i vr => ∃ n : Nat, n ≤ r.writers.length ∧ i = .int .i64 n ∧ Hid (((List.range n).all fun u => !(bitB kp u && leI (d u) 9)) = true) ∧ Below V.heap.size V vr) (fun i _ => r.writers.length - (intOf i).toNat)
        case atStart => exact ⟨0, Nat.zero_le _, rfl, Lib.hid rfl, Below.refl _ _⟩
        case round =>
          obtain ⟨n, hn, rfl, HN, hbr⟩ := hrel
          have hbA := hbV.trans (hbr.mono hbV.size)
          have hBW := room_next hB hbA
          obtain ⟨x0, x1, x2, x3, x4, z0⟩ := box_room hBW
          by_cases hnl : n < r.writers.length
          · have hgW : BlkI wr g 3 (ml r.writers.length d) := hgB.same (hbr.block _ hgB.lt)
            have cg := hgW.cell n (by rw [ml_len]; exact hnl)
            rw [ml_get] at cg
            have zg := lt_of_cell cg
            have HS := Lib.hid (rangeAll_succ (fun u => !(bitB kp u && leI (d u) 9)) n)
            have HX := Lib.hid (fun h => rangeAll_not (fun u => !(bitB kp u && leI (d u) 9)) hnl h)
            obtain ⟨bk, ok, ha2, hbk, hk1⟩ := HK.out wr (box_old hBW)
            have B := Lib.hid (HB.out n (by omega))
            (try simp only at HS)
            (try simp only at HX)
            generalize bitB kp n = bt at B HS HX
            generalize d n = dn at cg HS HX
            rw [ha2] at x1
            have HA2 := Lib.hid ha2
            clear ha2
            have hnw : (n : Int) < r.writers.length := by omega
            cases bt
            · have hs2 := Lib.hid (show ((List.range (n + 1)).all fun u => !(bitB kp u && leI (d u) 9)) = true from HS.out.trans (by rw [HN.out]; simp))
              go_wp2_with (go_at_call 53; go_must ((with_reducible refine (B.out _).mono ?_); rintro e w5 ⟨rfl, rfl⟩; dsimp only))
              go_roundw
              case rel => exact ⟨n + 1, by omega, by go_num, hs2, hbr⟩
              case measure => simp [intOf]; omega
            · by_cases h9 : dn ≤ 9
              · have hr := Lib.hid (HAN.out (HKT.out.trans (HX.out (by simp [leI, h9]))))
                go_wp2_with (go_at_call 53; go_must ((with_reducible refine (B.out _).mono ?_); rintro e w5 ⟨rfl, rfl⟩; dsimp only))
                go_ret
                exact ⟨ret_bool hr.out.symm, box_old hBW⟩
              · have hs2 := Lib.hid (show ((List.range (n + 1)).all fun u => !(bitB kp u && leI (d u) 9)) = true from HS.out.trans (by rw [HN.out]; simp [leI, h9]))
                go_wp2_with (go_at_call 53; go_must ((with_reducible refine (B.out _).mono ?_); rintro e w5 ⟨rfl, rfl⟩; dsimp only))
                go_roundw
                case rel => exact ⟨n + 1, by omega, by go_num, hs2, hbr⟩
                case measure => simp [intOf]; omega
          · obtain rfl : n = r.writers.length := by omega
            have hat := Lib.hid (HAT.out (HKT.out.trans HN.out))
            go_wp2
            go_roundw
            case rel => exact ⟨j + 1, by omega, by go_num, hat, hBW⟩
            case measure => simp [intOf]; omega
    · obtain rfl : j = T.length := by omega
      have hr := Lib.hid (show res = true by rw [HF.out, ← HA.out, List.take_length])
      go_wp2
      go_ret
      exact ⟨ret_bool hr.out.symm, hbO⟩
end Go.Proofs.Ytmhbjohpggghgaa
