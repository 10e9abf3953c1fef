/- What is proved here: contracts of the reference of layer 12: Cut. Conditions: the room lies in memory. -/
/- What is proved here: contracts of the reference of layer 12: But. Conditions: the room lies in memory; few things were heard. -/
/- What is proved here: contracts of the reference of layer 12: Fits. Conditions: the room lies in memory and is valid; few truths. -/
/- What is proved here: contracts of the reference of layer 12: Plan. Conditions: the room lies in memory. -/
import Derived.Test.YtmhbjohpggghgaaSrE
import Derived.Test.YtmhbjohpggghgaaSeFlat
import Derived.BigQuiet
set_option linter.unusedVariables false
set_option linter.unusedSimpArgs false
namespace Go.Proofs.Ytmhbjohpggghgaa
open Go Go.RowKit Go.Shelf

theorem less_bd {T : List (List Int)} {but : List Int} {n : Nat} (h : ∀ t ∈ T, ∀ x ∈ t, 0 ≤ x ∧ x < (n : Int)) : ∀ t ∈ lessOf T but, ∀ x ∈ t, 0 ≤ x ∧ x < (n : Int) := fun t ht x hx => by
  unfold lessOf at ht
  obtain ⟨u, hu, rfl⟩ := List.mem_map.1 ht
  exact h u hu x (List.mem_filter.1 hx).1
theorem less_len (T : List (List Int)) (but : List Int) : (lessOf T but).length = T.length := List.length_map ..

set_option maxRecDepth 100000 in
set_option maxHeartbeats 4000000 in
theorem RCut_any (a1 a2 a3 a4 a5 : Option Addr) (k1 k2 k3 k4 k5 : Nat) (r : SeRoom) (s : Int) (w : World) (hm : RoomC w a1 a2 a3 a4 a5 k1 k2 k3 k4 k5 r) :
    Calls Try.prog 33 #[(.agg #[.slice a1 r.writers.length k1, .slice a2 r.kept.length k2, .slice a3 r.leaks.length k3, .slice a4 r.letters.length k4, .slice a5 r.heard.length k5]), .int .i64 s] w fun e w' => ∃ v, e = .returned (.tuple #[v, .int .i64 (cutOf r s).2]) ∧ IntsV w' v (cutOf r s).1 ∧ Below w.heap.size w w' := by
  have HF : Hid (cutOf r s = if cutErr r s = 0 then (match searchFrom (cutSo r s.toNat) r.leaks.length 0 (r.leaks.length + 1) with | some l => (l, 0) | none => ([], 9)) else ([], cutErr r s)) := Lib.hid (cutOf_hid r s)
  have l2 := hm.ok2.len
  generalize cutOf r s = res at HF ⊢
  have hB0 := Below.refl (w.heap.size + 1) (w.alloc (.cells #[.slice a1 r.writers.length k1, .slice a2 r.kept.length k2, .slice a3 r.leaks.length k3, .slice a4 r.letters.length k4, .slice a5 r.heard.length k5] 28))
  obtain ⟨x0, x1, x2, x3, x4, z0⟩ := box_room hB0
  have C := Lib.hid (fun (W : World) (h : Below w.heap.size w W) => RIndex_any a1 a2 a3 a4 a5 k1 k2 k3 k4 k5 r s r.kept.length W (hm.mono h) (by omega) (by omega))
  have HV := Lib.hid (fun h : indexErr r s r.kept.length = 0 => index_zero h)
  have S := Lib.hid (fun (W : World) (h : Below w.heap.size w W) => RKnown_any a1 a2 a3 a4 a5 k1 k2 k3 k4 k5 r (indexErr r s r.kept.length) W (hm.mono h) HV.out)
  have HVV := Lib.hid (fun h : cutErr r s = 0 => index_valid (below := r.kept.length) h)
  have HTE : Hid (cutErr r s = knownErr r (indexErr r s r.kept.length)) := rfl
  rw [← HTE.out] at S
  generalize indexErr r s r.kept.length = x at C S
  clear HTE HV
  generalize cutErr r s = te at S HF HVV
  have hBd := below_drew' hB0
  by_cases h0 : te = 0
  · obtain ⟨hva, hs0, hs1⟩ := HVV.out h0
    obtain ⟨s, rfl⟩ : ∃ s' : Nat, s = s' := ⟨s.toNat, by omega⟩
    have hsk : s < r.kept.length := by omega
    have vl := hva.nl
    have hfew := truths_few hva []
    have hshort := truths_short (r := r) []
    have hbd := truths_bd (r := r) []
    replace HF := Lib.hid (HF.out.trans (if_pos h0))
    simp only [Int.toNat_natCast] at HF
    have h1 := nei_f h0
    have HER := Lib.hid h0
    clear h0 HVV
    obtain ⟨so, hso⟩ : ∃ so, so = cutSo r s := ⟨_, rfl⟩
    rw [← hso] at HF
    have HSO : Hid (∀ l, so l = keepsB r r.letters (lessOf (seTruths r []) l) s) := Lib.hid (fun l => by rw [hso]; rfl)
    clear hso
    generalize hT : seTruths r [] = T at hbd HSO hfew hshort
    have HTT := Lib.hid hT
    clear hT
    have hlb := letters_bd hva
    replace hshort : ∀ t ∈ T, t.length ≤ 4 := fun t ht => Nat.le_trans (hshort t ht) vl
    go_enter Try.func33, Try.ntmps33
    go_wp2
    go_region_held3 (fun V => Below (w.heap.size + 1) (w.alloc (.cells #[.slice a1 r.writers.length k1, .slice a2 r.kept.length k2, .slice a3 r.leaks.length k3, .slice a4 r.letters.length k4, .slice a5 r.heard.length k5] 28)) V ∧ V.cell? ⟨w.heap.size, 0, none⟩ = some (.slice a1 r.writers.length k1) ∧ V.cell? ⟨w.heap.size, 1, none⟩ = some (.slice a2 r.kept.length k2) ∧ V.cell? ⟨w.heap.size, 2, none⟩ = some (.slice a3 r.leaks.length k3) ∧ V.cell? ⟨w.heap.size, 3, none⟩ = some (.slice a4 r.letters.length k4) ∧ V.cell? ⟨w.heap.size, 4, none⟩ = some (.slice a5 r.heard.length k5) ∧ w.heap.size < V.heap.size) (exact room_keep (by assumption)) (first
      | (go_at_call 86; (with_reducible refine (C.out _ (box_old (And.left (by assumption)))).mono ?_); rintro e w2 ⟨rfl, hb⟩; have hB2 := room_next (And.left (by assumption)) hb; dsimp only)
      | (go_at_call 81; (with_reducible refine (S.out _ (box_old (And.left (by assumption)))).mono ?_); rintro e w3 ⟨v, rfl, hsv, hb3⟩; have hB3 := room_next (And.left (by assumption)) hb3; (have h5 := hsv.1 HER.out; rw [HTT.out] at h5; obtain ⟨a, c, rfl, hso, hrc⟩ := h5); dsimp only))
    have hB3' := hB3
    have hlT := hso.len
    clear x0 x1 x2 x3 x4 z0
    generalize hR : searchFrom so r.leaks.length 0 (r.leaks.length + 1) = R at HF
    have HR0 := Lib.hid hR.symm
    clear hR
    go_wp2
    go_loopw [8] (fun i wr => ∃ k : Nat, k ≤ r.leaks.length + 1 ∧ i = .int .i64 k ∧ Hid (R = searchFrom so r.leaks.length k (r.leaks.length + 1 - k)) ∧ Below w3.heap.size w3 wr) (fun i _ => r.leaks.length + 1 - (intOf i).toNat)
    case atStart => exact ⟨0, Nat.zero_le _, rfl, HR0, Below.refl _ _⟩
    case round =>
      obtain ⟨k, hk, rfl, HR, hbw⟩ := hrel
      have hB := room_next hB3' hbw
      obtain ⟨x0, x1, x2, x3, x4, z0⟩ := box_room hB
      by_cases hlt : k ≤ r.leaks.length
      · have Ch := Choices_any r.leaks.length k wr (by omega) (by omega) (by omega) (by omega)
        rw [choices_def] at Ch
        replace Ch := Lib.hid Ch
        have HS1 := Lib.hid (fun (h : (choicesTo r.leaks.length k).find? so = none) => (HR.out.trans (by rw [show r.leaks.length + 1 - k = (r.leaks.length + 1 - (k + 1)) + 1 from by omega]; exact search_none h) : R = searchFrom so r.leaks.length (k + 1) (r.leaks.length + 1 - (k + 1))))
        have HS2 := Lib.hid (fun (l : List Int) (h : (choicesTo r.leaks.length k).find? so = some l) => (HR.out.trans (by rw [show r.leaks.length + 1 - k = (r.leaks.length + 1 - (k + 1)) + 1 from by omega]; exact search_some h) : R = some l))
        clear HR HR0
        generalize choicesTo (r.leaks.length : Int) k = L at Ch HS1 HS2
        go_wp2_with (go_at_call 91; go_must ((with_reducible refine Ch.out.mono ?_); rintro e w4 ⟨v, rfl, ⟨al, cl, rfl, hsl, hrl⟩, hb4⟩; have hbw4 := hbw.trans (hb4.mono hbw.size); have hB4 := room_next hB3' hbw4; have hll := hsl.len; dsimp only))
        clear x0 x1 x2 x3 x4 z0
        go_loopw [10] (fun i wr => ∃ j : Nat, j ≤ L.length ∧ i = .int .i64 j ∧ Hid (∀ x (_ : x < j) (h : x < L.length), so L[x] = false) ∧ Below w4.heap.size w4 wr) (fun i _ => L.length - (intOf i).toNat)
        case atStart => exact ⟨0, Nat.zero_le _, rfl, Lib.hid (fun j h => absurd h (Nat.not_lt_zero j)), Below.refl _ _⟩
        case round =>
          obtain ⟨wb, hwb⟩ : ∃ wb : World, wb = wr := ⟨_, rfl⟩
          subst hwb
          obtain ⟨j, hj, rfl, HP, hbw5⟩ := hrel
          have hB5 := room_next hB4 hbw5
          have hbO := box_old hB5
          have hbw35 := hbw4.trans (hbw5.mono hbw4.size)
          obtain ⟨x0, x1, x2, x3, x4, z0⟩ := box_room hB5
          by_cases hjl : j < L.length
          · obtain ⟨b, off, a', c', rfl, hb0, hcell, hsi, hints⟩ := hrl j hjl
            have HN := Lib.hid (fun (h : so L[j] = false) => none_succ HP.out hjl h)
            have HH := Lib.hid (fun (h : so L[j] = true) => HS2.out _ (find_hit hjl HP.out h))
            have hcw := cell_below hbw5 hcell
            have hii := hints.mono hbw5
            generalize L[j] = l at hcell hcw hsi hints hii HN HH
            have LE := Lib.hid (fun (W : World) (h : Below wb.heap.size wb W) => RLess_any a a' T l c c' W hso (hrc.mono (hbw35.trans (h.mono hbw35.size))) hfew hshort hsi (hii.mono h))
            have hsoe := HSO.out l
            have hbl := less_bd (but := l) hbd
            have hln := less_len T l
            have KP := fun (W : World) (ar : Option Addr) (cr : Nat) (h : Below wb.heap.size wb W) hro hrc => RKeeps_any a1 a2 a3 a4 a5 k1 k2 k3 k4 k5 r a4 ar r.letters (lessOf T l) k4 cr s W (hm.mono (hbO.trans (h.mono hbO.size))) hva hm.ok4 (hm.mono (hbO.trans (h.mono hbO.size))).letters hlb hro hrc hbl hsk
            rw [← hsoe] at KP
            clear hsoe
            generalize lessOf T l = T2 at LE KP hbl hln
            replace KP := Lib.hid KP
            have HLN := Lib.hid hln
            clear hln hbl
            generalize so l = bs at KP HN HH
            have hBd := below_drew' (Below.refl wb.heap.size wb)
            cases bs
            all_goals
              go_wp2
              go_region_held3 (fun V => Below wb.heap.size wb V ∧ V.cell? ⟨w.heap.size, 0, none⟩ = some (.slice a1 r.writers.length k1) ∧ V.cell? ⟨w.heap.size, 1, none⟩ = some (.slice a2 r.kept.length k2) ∧ V.cell? ⟨w.heap.size, 2, none⟩ = some (.slice a3 r.leaks.length k3) ∧ V.cell? ⟨w.heap.size, 3, none⟩ = some (.slice a4 r.letters.length k4) ∧ V.cell? ⟨w.heap.size, 4, none⟩ = some (.slice a5 r.heard.length k5) ∧ V.cell? ⟨b, off + j, none⟩ = some (.slice a' l.length c') ∧ w.heap.size < V.heap.size ∧ b < V.heap.size) (exact heldR (by assumption) x0 x1 x2 x3 x4 hcw) (first
                | (go_at_call 52; (with_reducible refine (LE.out _ (And.left (by assumption))).mono ?_); rintro e w6 ⟨v, rfl, ⟨aT, cT, rfl, hsT, hrT⟩, hb6⟩; have hB6 := held_nextR (by assumption) hb6; dsimp only)
                | (go_at_call 50; (with_reducible refine (KP.out _ _ _ (And.left (by assumption)) hsT hrT).mono ?_); rintro e w7 ⟨rfl, hb7⟩; have hB7 := held_nextR (by assumption) hb7; dsimp only))
              have hB8 := room_next hB5 hB7
              have hcx := cell_below hB7 hcw
              have hbx := lt_of_cell hcx
              clear x0 x1 x2 x3 x4
              go_wp2
            · go_roundw
              case rel => exact ⟨j + 1, by omega, by go_num, Lib.hid (HN.out (by trivial)), hbw5.trans (hB7.mono hbw5.size)⟩
              case measure => simp [intOf]; omega
            · go_ret2
              have hr := HF.out
              rw [HH.out (by trivial)] at hr
              subst hr
              exact ⟨_, rfl, ⟨_, _, rfl, hsi, hii.mono hB7⟩, box_old hB8⟩
          · obtain rfl : j = L.length := by omega
            go_wp2
            go_roundw
            case rel => exact ⟨k + 1, by omega, by go_num, Lib.hid (HS1.out (find_none (fun i h => HP.out i h h))), hbw35⟩
            case measure => simp [intOf]; omega
      · obtain rfl : k = r.leaks.length + 1 := by omega
        have hr := HF.out
        have hr2 := HR.out
        simp only [Nat.sub_self, searchFrom] at hr2
        rw [hr2] at hr
        have HRR := Lib.hid hr
        clear hr hr2 HF HR
        go_wp2
        go_ret2
        have hr := HRR.out
        subst hr
        exact ⟨_, rfl, ⟨none, 0, rfl, ⟨Nat.le_refl _, by omega, fun _ => rfl⟩, IntsC.nil _ _⟩, box_old hB⟩
  · have h1 := nei_t h0
    replace HF := Lib.hid (HF.out.trans (if_neg h0))
    go_enter Try.func33, Try.ntmps33
    go_wp2
    go_region_held3 (fun V => Below (w.heap.size + 1) (w.alloc (.cells #[.slice a1 r.writers.length k1, .slice a2 r.kept.length k2, .slice a3 r.leaks.length k3, .slice a4 r.letters.length k4, .slice a5 r.heard.length k5] 28)) V ∧ V.cell? ⟨w.heap.size, 0, none⟩ = some (.slice a1 r.writers.length k1) ∧ V.cell? ⟨w.heap.size, 1, none⟩ = some (.slice a2 r.kept.length k2) ∧ V.cell? ⟨w.heap.size, 2, none⟩ = some (.slice a3 r.leaks.length k3) ∧ V.cell? ⟨w.heap.size, 3, none⟩ = some (.slice a4 r.letters.length k4) ∧ V.cell? ⟨w.heap.size, 4, none⟩ = some (.slice a5 r.heard.length k5) ∧ w.heap.size < V.heap.size) (exact room_keep (by assumption)) (first
      | (go_at_call 86; (with_reducible refine (C.out _ (box_old (And.left (by assumption)))).mono ?_); rintro e w2 ⟨rfl, hb⟩; have hB2 := room_next (And.left (by assumption)) hb; dsimp only)
      | (go_at_call 81; (with_reducible refine (S.out _ (box_old (And.left (by assumption)))).mono ?_); rintro e w3 ⟨v, rfl, hsv, hb3⟩; have hB3 := room_next (And.left (by assumption)) hb3; dsimp only))
    go_wp2
    go_ret2
    have hr := HF.out
    subst hr
    exact ⟨_, rfl, ⟨none, 0, rfl, ⟨by simp, by omega, fun _ => rfl⟩, IntsC.nil _ _⟩, box_old hB3⟩
end Go.Proofs.Ytmhbjohpggghgaa
namespace Go.Proofs.Ytmhbjohpggghgaa
open Go Go.RowKit Go.Shelf

theorem results_cell1 {fn : Func} {p : Tmp} {ty : TypeId} (h : fn.results = #[.cell p ty]) (tmps : Array Value) (P : Program) (w : World) :
    (results fn tmps).run P w = ((asAddr (tmps.getD p undef)).run P w).andThen fun a w₁ => ((loadVar ty a).run P w₁) := by
  simp only [results, h]
  simp [Sem.run_bind, Result.andThen]
def butTo (r : SeRoom) (l : List Int) (j : Nat) : List SeHeard := (List.range j).filterMap fun (i : Nat) => if hasB l (i : Int) then none else r.heard[i]?
theorem butTo_succ (r : SeRoom) (l : List Int) (j : Nat) (h : j < r.heard.length) : butTo r l (j + 1) = butTo r l j ++ if hasB l (j : Int) then [] else [r.heard[j]] := by
  unfold butTo
  rw [List.range_succ, List.filterMap_append]
  congr 1
  rw [List.filterMap_cons, List.filterMap_nil, List.getElem?_eq_getElem h]
  cases hasB l (j : Int) <;> rfl
theorem butTo_len (r : SeRoom) (l : List Int) (j : Nat) : (butTo r l j).length ≤ j := by
  unfold butTo
  refine Nat.le_trans (List.length_filterMap_le _ _) ?_
  rw [List.length_range]; exact Nat.le_refl j

set_option maxRecDepth 100000 in
set_option maxHeartbeats 2000000 in
theorem RBut_any (a1 a2 a3 a4 a5 : Option Addr) (k1 k2 k3 k4 k5 : Nat) (r : SeRoom) (ab : Option Addr) (l : List Int) (cb : Nat) (w : World) (hm : RoomC w a1 a2 a3 a4 a5 k1 k2 k3 k4 k5 r) (hn : r.heard.length ≤ 3) (hsb : SlOk ab l.length cb) (hib : IntsC w ab l) :
    Calls Try.prog 44 #[(.agg #[.slice a1 r.writers.length k1, .slice a2 r.kept.length k2, .slice a3 r.leaks.length k3, .slice a4 r.letters.length k4, .slice a5 r.heard.length k5]), .slice ab l.length cb] w fun e w' => ∃ b5 d5, e = .returned (.agg #[.slice a1 r.writers.length k1, .slice a2 r.kept.length k2, .slice a3 r.leaks.length k3, .slice a4 r.letters.length k4, .slice b5 (butRoom r l).heard.length d5]) ∧ RoomC w' a1 a2 a3 a4 b5 k1 k2 k3 k4 d5 (butRoom r l) ∧ Below w.heap.size w w' := by
  have l5 := hm.ok5.len
  obtain ⟨Y, hY⟩ : ∃ Y : World, Y = (w.alloc (.cells #[.slice a1 r.writers.length k1, .slice a2 r.kept.length k2, .slice a3 r.leaks.length k3, .slice a4 r.letters.length k4, .slice a5 r.heard.length k5] 28)).alloc (.cells #[.slice none 0 0, .slice none 0 0, .slice none 0 0, .slice none 0 0, .slice none 0 0] 28) := ⟨_, rfl⟩
  have hYs : Y.heap.size = w.heap.size + 2 := by rw [hY]; simp
  have hB0 : Below (w.heap.size + 1) (w.alloc (.cells #[.slice a1 r.writers.length k1, .slice a2 r.kept.length k2, .slice a3 r.leaks.length k3, .slice a4 r.letters.length k4, .slice a5 r.heard.length k5] 28)) Y := by rw [hY]; exact (Below.refl _ _).alloc (by simp) _
  have hX0 : Y.heap[w.heap.size]? = some (.cells #[.slice a1 r.writers.length k1, .slice a2 r.kept.length k2, .slice a3 r.leaks.length k3, .slice a4 r.letters.length k4, .slice a5 r.heard.length k5] 28 (0, 0)) := by rw [hY]; exact (heap_alloc_old _ _ (by simp)).trans (alloc_at _ _ rfl)
  have hX1 : Y.heap[w.heap.size + 1]? = some (.cells #[.slice none 0 0, .slice none 0 0, .slice none 0 0, .slice none 0 0, .slice none 0 0] 28 (0, 0)) := by rw [hY]; exact alloc_at _ _ (by simp)
  have hbY := box_old hB0
  have HA := Lib.hid (fun V (h : Below Y.heap.size Y V) n => Has_any ab l cb n V hsb.len (hib.mono (hbY.trans (h.mono hbY.size))))
  go_enter Try.func44, Try.ntmps44
  go_upto_region 1 with (fail)
  rw [← hY]
  clear hY
  go_wp2
  go_loopw [5, 6] (fun o i wr => ∃ j : Nat, j ≤ r.heard.length ∧ i = .int .i64 j ∧ wr.ownsRow Y.heap.size 74 4 o (butTo r l j).length (flatC heardCells (butTo r l j)) ∧ Below Y.heap.size Y wr) (fun _ i _ => r.heard.length - (intOf i).toNat)
  case atStart => exact ⟨0, Nat.zero_le _, rfl, World.ownsRow_nil _ _ _ _, Below.refl _ _⟩
  case round =>
    obtain ⟨j, hj, rfl, hown, hbw⟩ := hrel
    have hR := (hbw.block _ (lt_of_block hX0)).trans hX0
    have x4 := blk_cell 4 hR rfl
    simp only [List.getElem_toArray, List.getElem_cons_zero, List.getElem_cons_succ] at x4
    have hz := hbw.size
    have z0 : w.heap.size < wr.heap.size := by omega
    have hbO := hbY.trans (hbw.mono hbY.size)
    by_cases hlt : j < r.heard.length
    · obtain ⟨b, off, ha5, hb, h0, h1, h2, h3⟩ := (hm.mono hbO).heard j hlt
      have hst := Lib.hid (butTo_succ r l j hlt)
      have hbl := butTo_len r l j
      generalize r.heard[j] = x at h0 h1 h2 h3 hst
      generalize butTo r l j = L at hown hst hbl
      have A := HA.out wr hbw j
      (try simp only at hst)
      generalize hasB l (j : Int) = hb2 at A hst
      replace A := Lib.hid A
      obtain ⟨xw, xs, xd, xk⟩ := x
      simp only at h0 h1 h2 h3
      rw [ha5] at x4
      have HH := Lib.hid ha5
      clear ha5
      have hjn : (j : Int) < r.heard.length := by omega
      cases hb2
      · go_wp2_with (first
          | (at_builtin; go_must (refine wpList_app (.tmp 18) (.tmp 24) E_heard rfl rfl rfl rfl Y.heap.size L.length 1 (flatC heardCells L) (heardCells ⟨xw, xs, xd, xk⟩) (hown.alloc _) (SrcAt.heard1 _ _ _ _ _ _) (by omega) (by decide) (by simp; omega) ?_; intro v2 w6 ho2 hg2 _; (have hb7 := app_next hbw (Nat.le_refl _) (Nat.le_refl _) hown hg2); clear hg2; simp only [Act.put, List.setIfInBounds_toArray, List.set_cons_succ, List.set_cons_zero]))
          | (go_at_call 39; (with_reducible refine A.out.mono ?_); rintro e w5 ⟨rfl, hw5⟩; obtain rfl := hw5.symm; dsimp only))
        go_roundw
        case rel => exact ⟨j + 1, by omega, by go_num, by rw [hst.out]; simpa [flatC_snoc] using ho2, hb7⟩
        case measure => simp [intOf]; omega
      · go_wp2_with (go_at_call 39; (with_reducible refine A.out.mono ?_); rintro e w5 ⟨rfl, hw5⟩; obtain rfl := hw5.symm; dsimp only)
        go_roundw
        case rel => exact ⟨j + 1, by omega, by go_num, by rw [hst.out]; simpa using hown, hbw⟩
        case measure => simp [intOf]; omega
    · obtain rfl : j = r.heard.length := by omega
      have hH : butTo r l r.heard.length = (butRoom r l).heard := rfl
      rw [hH] at hown
      clear hH
      have hR1 := (hbw.block _ (lt_of_block hX1)).trans hX1
      have x0 := blk_cell 0 hR rfl
      have x1 := blk_cell 1 hR rfl
      have x2 := blk_cell 2 hR rfl
      have x3 := blk_cell 3 hR rfl
      have y0 := blk_cell 0 hR1 rfl
      have y1 := blk_cell 1 hR1 rfl
      have y2 := blk_cell 2 hR1 rfl
      have y3 := blk_cell 3 hR1 rfl
      have y4 := blk_cell 4 hR1 rfl
      simp only [List.getElem_toArray, List.getElem_cons_zero, List.getElem_cons_succ] at x0 x1 x2 x3 y0 y1 y2 y3 y4
      have f4 := blk_free 4 hR
      have g0 := blk_free 0 hR1
      have g1 := blk_free 1 hR1
      have g2 := blk_free 2 hR1
      have g3 := blk_free 3 hR1
      have g4 := blk_free 4 hR1
      have z1 := lt_of_block hR1
      obtain ⟨-, b5, d5, rfl, -, -⟩ := heard_own hown
      have hne0 : (Value.slice b5 (butRoom r l).heard.length d5).ownBlock ≠ some w.heap.size := fun e => by have := (hown.lt _ e).1; omega
      have hne1 : (Value.slice b5 (butRoom r l).heard.length d5).ownBlock ≠ some (w.heap.size + 1) := fun e => by have := (hown.lt _ e).1; omega
      go_wp2
      (try simp only [Exit.inBlock, Exit.then])
      refine bodyPost_ret (v := .agg #[.slice a1 r.writers.length k1, .slice a2 r.kept.length k2, .slice a3 r.leaks.length k3, .slice a4 r.letters.length k4, .slice b5 (butRoom r l).heard.length d5]) ?_ rfl ⟨b5, d5, rfl, ?_, ?_⟩
      · rw [results_cell1 rfl]
        go_simp
      · have hbF : Below w.heap.size w ((((((wr.setCell ⟨w.heap.size, 4, none⟩ (.slice b5 (butRoom r l).heard.length d5)).setCell ⟨w.heap.size + 1, 0, none⟩ (.slice a1 r.writers.length k1)).setCell ⟨w.heap.size + 1, 1, none⟩ (.slice a2 r.kept.length k2)).setCell ⟨w.heap.size + 1, 2, none⟩ (.slice a3 r.leaks.length k3)).setCell ⟨w.heap.size + 1, 3, none⟩ (.slice a4 r.letters.length k4)).setCell ⟨w.heap.size + 1, 4, none⟩ (.slice b5 (butRoom r l).heard.length d5)) := (((((hbO.setCell (by simp) _).setCell (by simp) _).setCell (by simp) _).setCell (by simp) _).setCell (by simp) _).setCell (by simp) _
        have hM := hm.mono hbF
        have hF := ownsRow_setCell_other (ownsRow_setCell_other (ownsRow_setCell_other (ownsRow_setCell_other (ownsRow_setCell_other (ownsRow_setCell_other hown (a := ⟨w.heap.size, 4, none⟩) hne0 (.slice b5 (butRoom r l).heard.length d5)) (a := ⟨w.heap.size + 1, 0, none⟩) hne1 (.slice a1 r.writers.length k1)) (a := ⟨w.heap.size + 1, 1, none⟩) hne1 (.slice a2 r.kept.length k2)) (a := ⟨w.heap.size + 1, 2, none⟩) hne1 (.slice a3 r.leaks.length k3)) (a := ⟨w.heap.size + 1, 3, none⟩) hne1 (.slice a4 r.letters.length k4)) (a := ⟨w.heap.size + 1, 4, none⟩) hne1 (.slice b5 (butRoom r l).heard.length d5)
        obtain ⟨-, b6, d6, e6, hs6, hh6⟩ := heard_own hF
        cases e6
        exact ⟨hM.ok1, hM.ok2, hM.ok3, hM.ok4, hs6, hM.writers, hM.kept, hM.leaks, hM.letters, hh6, hM.wsize⟩
      · exact (((((hbO.setCell (by simp) _).setCell (by simp) _).setCell (by simp) _).setCell (by simp) _).setCell (by simp) _).setCell (by simp) _
end Go.Proofs.Ytmhbjohpggghgaa
namespace Go.Proofs.Ytmhbjohpggghgaa
open Go Go.RowKit Go.Shelf

theorem fitsAt_def (r : SeRoom) (T : List (List Int)) (p : List Int) (i : Nat) (hi : i < p.length) (hl : i < r.letters.length) :
    fitsAt r T p i = ((decide (r.letters[i].writer = -1) || decide (p[i] = r.letters[i].writer)) && (decide (p[i] = -1) || (seWho r p[i] && canB r T r.letters[i] p[i] && (List.range i).all fun k => !(decide (p[k]?.getD 0 = p[i]) && decide ((letterAt r k).day = r.letters[i].day))))) := by
  unfold fitsAt letterAt
  rw [List.getElem?_eq_getElem hi, List.getElem?_eq_getElem hl]
  rfl

set_option maxRecDepth 100000 in
set_option maxHeartbeats 4000000 in
theorem RFits_any (a1 a2 a3 a4 a5 : Option Addr) (k1 k2 k3 k4 k5 : Nat) (r : SeRoom) (ra pa : Option Addr) (T : List (List Int)) (p : List Int) (rc pc : Nat) (w : World) (hm : RoomC w a1 a2 a3 a4 a5 k1 k2 k3 k4 k5 r) (hv : SeValid r) (hro : SlOk ra T.length rc) (hrc : RowsC w ra T) (htb : ∀ t ∈ T, ∀ x ∈ t, 0 ≤ x ∧ x < r.leaks.length) (hpo : SlOk pa p.length pc) (hpi : IntsC w pa p) :
    Calls Try.prog 47 #[(.agg #[.slice a1 r.writers.length k1, .slice a2 r.kept.length k2, .slice a3 r.leaks.length k3, .slice a4 r.letters.length k4, .slice a5 r.heard.length k5]), .slice ra T.length rc, .slice pa p.length pc] w fun e w' => e = .returned (.bool (fitsB r T p)) ∧ Below w.heap.size w w' := by
  have HF : Hid (fitsB r T p = (decide (p.length = r.letters.length) && (List.range p.length).all fun i => fitsAt r T p i)) := rfl
  generalize fitsB r T p = res at HF ⊢
  have l4 := hm.ok4.len
  have l1 := hm.ok1.len
  have lp := hpo.len
  have hB0 := Below.refl (w.heap.size + 1) (w.alloc (.cells #[.slice a1 r.writers.length k1, .slice a2 r.kept.length k2, .slice a3 r.leaks.length k3, .slice a4 r.letters.length k4, .slice a5 r.heard.length k5] 28))
  obtain ⟨x0, x1, x2, x3, x4, z0⟩ := box_room hB0
  by_cases hpl : p.length = r.letters.length
  · have hp1 := nei_f (show (p.length : Int) = r.letters.length by omega)
    replace HF := Lib.hid (HF.out.trans (by rw [decide_eq_true hpl, Bool.true_and]))
    have HPL := Lib.hid hpl
    have hlb := letters_bd hv
    clear hpl
    go_enter Try.func47, Try.ntmps47
    go_wp2
    clear x0 x1 x2 x3 x4 z0
    go_loopw [7] (fun i wr => ∃ j : Nat, j ≤ p.length ∧ i = .int .i64 j ∧ Hid (((List.range j).all fun i => fitsAt r T p i) = true) ∧ Below (w.heap.size + 1) (w.alloc (.cells #[.slice a1 r.writers.length k1, .slice a2 r.kept.length k2, .slice a3 r.leaks.length k3, .slice a4 r.letters.length k4, .slice a5 r.heard.length k5] 28)) wr) (fun i _ => p.length - (intOf i).toNat)
    case atStart => exact ⟨0, Nat.zero_le _, rfl, Lib.hid rfl, hB0⟩
    case round =>
      obtain ⟨j, hj, rfl, HJ, hB⟩ := hrel
      have hbO := box_old hB
      obtain ⟨x0, x1, x2, x3, x4, z0⟩ := box_room hB
      by_cases hlt : j < p.length
      · have hlt4 : j < r.letters.length := by have := HPL.out; omega
        have hDEF := fitsAt_def r T p j hlt hlt4
        have HS := Lib.hid (rangeAll_succ (fun i => fitsAt r T p i) j)
        have HX := Lib.hid (fun h => rangeAll_not (fun i => fitsAt r T p i) hlt h)
        (try simp only at HS HX)
        generalize fitsAt r T p j = fj at hDEF HS HX
        obtain ⟨b4, o4, ha4, hb4, y0, y1, y2⟩ := (hm.mono hbO).letters j hlt4
        obtain ⟨bp, op, rfl, hbp, yp⟩ := (hpi.mono hbO) j hlt
        have hlx := hlb r.letters[j] (List.getElem_mem hlt4)
        have CA := fun V (h : Below wr.heap.size wr V) => RCan_any a1 a2 a3 a4 a5 k1 k2 k3 k4 k5 r ra T rc r.letters[j] p[j] V (hm.mono (hbO.trans (h.mono hbO.size))) hv hlx hro (hrc.mono (hbO.trans (h.mono hbO.size))) htb
        have WR := Lib.hid (fun V (h : Below wr.heap.size wr V) => RWriter_any a1 a2 a3 a4 a5 k1 k2 k3 k4 k5 r p[j] V l1)
        have HLK := Lib.hid (fun k (hk : k < r.letters.length) V (h : Below wr.heap.size wr V) => (hm.mono (hbO.trans (h.mono hbO.size))).letters k hk)
        have HPK := Lib.hid (fun k (hk : k < p.length) V (h : Below wr.heap.size wr V) => (hpi.mono (hbO.trans (h.mono hbO.size))) k hk)
        have hGP : ∀ k, k < p.length → p[k]?.getD 0 = p[k]?.getD 0 := fun _ _ => rfl
        generalize hq : p[j] = q at hDEF CA WR yp
        generalize hxx : r.letters[j] = xx at hDEF CA hlx y0 y1 y2
        have HQ := Lib.hid hq
        have HXX := Lib.hid hxx
        clear hq hxx
        obtain ⟨day, sec, wri⟩ := xx
        simp only at hDEF CA hlx y0 y1 y2
        generalize canB r T ⟨day, sec, wri⟩ q = cb at hDEF CA
        generalize seWho r q = wb at hDEF WR
        replace CA := Lib.hid CA
        have HDEF := Lib.hid hDEF
        clear hDEF
        rw [ha4] at x3
        have HM2 := Lib.hid hm
        clear hm
        subst ha4
        have hmi : (j : Int) < r.letters.length := by omega
        have hpi2 : (j : Int) < p.length := by omega
        have KW : Hid (∀ V, Below wr.heap.size wr V → (Below wr.heap.size wr V ∧ V.cell? ⟨w.heap.size, 0, none⟩ = some (.slice a1 r.writers.length k1) ∧ V.cell? ⟨w.heap.size, 1, none⟩ = some (.slice a2 r.kept.length k2) ∧ V.cell? ⟨w.heap.size, 2, none⟩ = some (.slice a3 r.leaks.length k3) ∧ V.cell? ⟨w.heap.size, 3, none⟩ = some (.slice (some ⟨b4, o4, none⟩) r.letters.length k4) ∧ V.cell? ⟨w.heap.size, 4, none⟩ = some (.slice a5 r.heard.length k5) ∧ V.cell? ⟨b4, o4 + j * 3, none⟩ = some (.int .i64 day) ∧ V.cell? ⟨b4, o4 + j * 3 + 1, none⟩ = some (.int .i64 sec) ∧ V.cell? ⟨b4, o4 + j * 3 + 2, none⟩ = some (.int .i64 wri) ∧ V.cell? ⟨bp, op + j, none⟩ = some (.int .i64 q) ∧ w.heap.size < V.heap.size ∧ b4 < V.heap.size ∧ bp < V.heap.size)) := Lib.hid (fun V h => ⟨h, cell_below h x0, cell_below h x1, cell_below h x2, cell_below h x3, cell_below h x4, cell_below h y0, cell_below h y1, cell_below h y2, cell_below h yp, Nat.lt_of_lt_of_le z0 h.size, Nat.lt_of_lt_of_le hb4 h.size, Nat.lt_of_lt_of_le hbp h.size⟩)
        go_upto_region 7 with (fail)
        go_cut [8, 37] (fun v b W => v = .int .i64 wri ∧ b = .bool (!(decide (wri = -1) || decide (q = wri))) ∧ W = wr)
        case first =>
          by_cases hw1 : wri = -1
          · have c1 := nei_f hw1
            have hda := Lib.hid (show Value.bool false = .bool (!(decide (wri = -1) || decide (q = wri))) by rw [decide_eq_true hw1]; rfl)
            clear hw1
            go_wp2
            go_meet
            case rel => exact ⟨rfl, hda.out, rfl⟩
          · have c1 := nei_t hw1
            by_cases hw2 : q = wri
            · have c2 := nei_f hw2
              have hda := Lib.hid (show Value.bool false = .bool (!(decide (wri = -1) || decide (q = wri))) by rw [decide_eq_true hw2, Bool.or_true]; rfl)
              clear hw1 hw2
              go_wp2
              go_meet
              case rel => exact ⟨rfl, hda.out, rfl⟩
            · have c2 := nei_t hw2
              have hda := Lib.hid (show Value.bool true = .bool (!(decide (wri = -1) || decide (q = wri))) by rw [decide_eq_false hw1, decide_eq_false hw2]; rfl)
              clear hw1 hw2
              go_wp2
              go_meet
              case rel => exact ⟨rfl, hda.out, rfl⟩
        case rest =>
          obtain ⟨rfl, rfl, hVW⟩ := hcut
          obtain rfl := hVW.symm
          generalize (decide (wri = -1) || decide (q = wri)) = da at HDEF ⊢
          cases da
          · have hr := Lib.hid (HF.out.trans (HX.out HDEF.out))
            go_wp2
            go_ret
            exact ⟨ret_bool hr.out.symm, hbO⟩
          replace HDEF := Lib.hid (HDEF.out.trans (by rw [Bool.true_and]))
          by_cases hq1 : q = -1
          · have c3 := eqi_t hq1
            have hs2 := Lib.hid (HS.out.trans (by rw [HJ.out, HDEF.out, decide_eq_true hq1, Bool.true_or, Bool.and_self]))
            go_wp2
            go_roundw
            case rel => exact ⟨j + 1, by omega, by go_num, hs2, hB⟩
            case measure => simp [intOf]; omega
          · have c3 := eqi_f hq1
            replace HDEF := Lib.hid (HDEF.out.trans (by rw [decide_eq_false hq1, Bool.false_or]))
            go_upto_region 10 with (fail)
            have hd := below_drew' (Below.refl wr.heap.size wr)
            cases wb
            · have hr := Lib.hid (HF.out.trans (HX.out HDEF.out))
              apply wp_mid _ (fun V => Below wr.heap.size wr V)
              · refine wp_region_held_drew (S := (fun V => Below wr.heap.size wr V ∧ V.cell? ⟨w.heap.size, 0, none⟩ = some (.slice a1 r.writers.length k1) ∧ V.cell? ⟨w.heap.size, 1, none⟩ = some (.slice a2 r.kept.length k2) ∧ V.cell? ⟨w.heap.size, 2, none⟩ = some (.slice a3 r.leaks.length k3) ∧ V.cell? ⟨w.heap.size, 3, none⟩ = some (.slice (some ⟨b4, o4, none⟩) r.letters.length k4) ∧ V.cell? ⟨w.heap.size, 4, none⟩ = some (.slice a5 r.heard.length k5) ∧ V.cell? ⟨b4, o4 + j * 3, none⟩ = some (.int .i64 day) ∧ V.cell? ⟨b4, o4 + j * 3 + 1, none⟩ = some (.int .i64 sec) ∧ V.cell? ⟨b4, o4 + j * 3 + 2, none⟩ = some (.int .i64 wri) ∧ V.cell? ⟨bp, op + j, none⟩ = some (.int .i64 q) ∧ w.heap.size < V.heap.size ∧ b4 < V.heap.size ∧ bp < V.heap.size)) (by kernel_rfl) (KW.out _ hd) (fun hHeld => ?_)
                (refine wpAnyH_take (i := 0) (v := ?_) rfl (by kernel_rfl) (by kernel_rfl) (by kernel_rfl) (fun _ _ _ h => h) (Or.inl ⟨by kernel_rfl, ?_⟩) (by assumption) ?_; rotate_left 1; (focus (intro w hSw; (try dsimp only at hSw); go_simp; first | done | with_reducible rfl)); simp only [Act.put, List.getElem_toArray, List.getElem_cons_succ, List.getElem_cons_zero, List.setIfInBounds_toArray, List.set_cons_succ, List.set_cons_zero])
                (refine wpAnyH_take (i := 1) (v := ?_) rfl (by kernel_rfl) (by kernel_rfl) (by kernel_rfl) (fun _ _ _ h => h) (Or.inl ⟨by kernel_rfl, ?_⟩) (by assumption) ?_; rotate_left 1; (focus (intro w hSw; (try dsimp only at hSw); go_simp; first | done | with_reducible rfl)); simp only [Act.put, List.getElem_toArray, List.getElem_cons_succ, List.getElem_cons_zero, List.setIfInBounds_toArray, List.set_cons_succ, List.set_cons_zero])
                (refine wpAnyH_take (i := 2) (v := ?_) rfl (by kernel_rfl) (by kernel_rfl) (by kernel_rfl) (fun _ _ _ h => h) (Or.inl ⟨by kernel_rfl, ?_⟩) (by assumption) ?_; rotate_left 1; (focus (intro w hSw; (try dsimp only at hSw); go_simp; first | done | with_reducible rfl)); simp only [Act.put, List.getElem_toArray, List.getElem_cons_succ, List.getElem_cons_zero, List.setIfInBounds_toArray, List.set_cons_succ, List.set_cons_zero])
                (refine wpAnyH_take (i := 3) (v := ?_) rfl (by kernel_rfl) (by kernel_rfl) (by kernel_rfl) (fun _ _ _ h => h) (Or.inl ⟨by kernel_rfl, ?_⟩) (by assumption) ?_; rotate_left 1; (focus (intro w hSw; (try dsimp only at hSw); go_simp; first | done | with_reducible rfl)); simp only [Act.put, List.getElem_toArray, List.getElem_cons_succ, List.getElem_cons_zero, List.setIfInBounds_toArray, List.set_cons_succ, List.set_cons_zero])
                (refine wpAnyH_take (i := 4) (v := ?_) rfl (by kernel_rfl) (by kernel_rfl) (by kernel_rfl) (fun _ _ _ h => h) (Or.inl ⟨by kernel_rfl, ?_⟩) (by assumption) ?_; rotate_left 1; (focus (intro w hSw; (try dsimp only at hSw); go_simp; first | done | with_reducible rfl)); simp only [Act.put, List.getElem_toArray, List.getElem_cons_succ, List.getElem_cons_zero, List.setIfInBounds_toArray, List.set_cons_succ, List.set_cons_zero])
                (refine wpAnyH_ready (rs := [5]) (by kernel_rfl) (by simp) ?_; refine AllReadyH.cons rfl (fun K hK => ?_) AllReadyH.nil; go_simp)
                (with_reducible refine (WR.out _ hd).mono ?_)
                rintro e w4 ⟨rfl, hgs⟩
                dsimp only
                have hg1 := hd.trans (hgs.mono hd.size)
                refine hK.out _ _ (KW.out _ hg1) (fun hHeld => ?_)
                (try simp only [Act.put, List.getElem_toArray, List.getElem_cons_succ, List.getElem_cons_zero, List.setIfInBounds_toArray, List.set_cons_succ, List.set_cons_zero])
                clear hK
                (refine wpAnyH_take (i := 6) (v := ?_) rfl (by kernel_rfl) (by kernel_rfl) (by kernel_rfl) (fun _ _ _ h => h) (Or.inl ⟨by kernel_rfl, ?_⟩) (by assumption) ?_; rotate_left 1; (focus (intro w hSw; (try dsimp only at hSw); go_simp; first | done | with_reducible rfl)); simp only [Act.put, List.getElem_toArray, List.getElem_cons_succ, List.getElem_cons_zero, List.setIfInBounds_toArray, List.set_cons_succ, List.set_cons_zero])
                (refine wpAnyH_take (i := 7) (v := ?_) rfl (by kernel_rfl) (by kernel_rfl) (by kernel_rfl) (fun _ _ _ h => h) (Or.inl ⟨by kernel_rfl, ?_⟩) (by assumption) ?_; rotate_left 1; (focus (intro w hSw; (try dsimp only at hSw); go_simp; first | done | with_reducible rfl)); simp only [Act.put, List.getElem_toArray, List.getElem_cons_succ, List.getElem_cons_zero, List.setIfInBounds_toArray, List.set_cons_succ, List.set_cons_zero])
                (refine wpAnyH_take (i := 8) (v := undef) rfl (by kernel_rfl) (by kernel_rfl) (by kernel_rfl) (fun _ _ _ h => h) (Or.inr ⟨by kernel_rfl, rfl⟩) (by assumption) ?_; simp only [Act.put, List.getElem_toArray, List.getElem_cons_succ, List.getElem_cons_zero, List.setIfInBounds_toArray, List.set_cons_succ, List.set_cons_zero])
                (refine wpAnyH_take (i := 9) (v := undef) rfl (by kernel_rfl) (by kernel_rfl) (by kernel_rfl) (fun _ _ _ h => h) (Or.inr ⟨by kernel_rfl, rfl⟩) (by assumption) ?_; simp only [Act.put, List.getElem_toArray, List.getElem_cons_succ, List.getElem_cons_zero, List.setIfInBounds_toArray, List.set_cons_succ, List.set_cons_zero])
                (refine wpAnyH_take (i := 10) (v := undef) rfl (by kernel_rfl) (by kernel_rfl) (by kernel_rfl) (fun _ _ _ h => h) (Or.inr ⟨by kernel_rfl, rfl⟩) (by assumption) ?_; simp only [Act.put, List.getElem_toArray, List.getElem_cons_succ, List.getElem_cons_zero, List.setIfInBounds_toArray, List.set_cons_succ, List.set_cons_zero])
                (refine wpAnyH_take (i := 11) (v := undef) rfl (by kernel_rfl) (by kernel_rfl) (by kernel_rfl) (fun _ _ _ h => h) (Or.inr ⟨by kernel_rfl, rfl⟩) (by assumption) ?_; simp only [Act.put, List.getElem_toArray, List.getElem_cons_succ, List.getElem_cons_zero, List.setIfInBounds_toArray, List.set_cons_succ, List.set_cons_zero])
                (refine wpAnyH_take (i := 12) (v := undef) rfl (by kernel_rfl) (by kernel_rfl) (by kernel_rfl) (fun _ _ _ h => h) (Or.inr ⟨by kernel_rfl, rfl⟩) (by assumption) ?_; simp only [Act.put, List.getElem_toArray, List.getElem_cons_succ, List.getElem_cons_zero, List.setIfInBounds_toArray, List.set_cons_succ, List.set_cons_zero])
                (refine wpAnyH_take (i := 13) (v := undef) rfl (by kernel_rfl) (by kernel_rfl) (by kernel_rfl) (fun _ _ _ h => h) (Or.inr ⟨by kernel_rfl, rfl⟩) (by assumption) ?_; simp only [Act.put, List.getElem_toArray, List.getElem_cons_succ, List.getElem_cons_zero, List.setIfInBounds_toArray, List.set_cons_succ, List.set_cons_zero])
                (refine wpAnyH_take (i := 14) (v := undef) rfl (by kernel_rfl) (by kernel_rfl) (by kernel_rfl) (fun _ _ _ h => h) (Or.inr ⟨by kernel_rfl, rfl⟩) (by assumption) ?_; simp only [Act.put, List.getElem_toArray, List.getElem_cons_succ, List.getElem_cons_zero, List.setIfInBounds_toArray, List.set_cons_succ, List.set_cons_zero])
                (refine wpAnyH_take (i := 15) (v := undef) rfl (by kernel_rfl) (by kernel_rfl) (by kernel_rfl) (fun _ _ _ h => h) (Or.inr ⟨by kernel_rfl, rfl⟩) (by assumption) ?_; simp only [Act.put, List.getElem_toArray, List.getElem_cons_succ, List.getElem_cons_zero, List.setIfInBounds_toArray, List.set_cons_succ, List.set_cons_zero])
                (refine wpAnyH_take (i := 16) (v := undef) rfl (by kernel_rfl) (by kernel_rfl) (by kernel_rfl) (fun _ _ _ h => h) (Or.inr ⟨by kernel_rfl, rfl⟩) (by assumption) ?_; simp only [Act.put, List.getElem_toArray, List.getElem_cons_succ, List.getElem_cons_zero, List.setIfInBounds_toArray, List.set_cons_succ, List.set_cons_zero])
                (refine wpAnyH_take (i := 17) (v := undef) rfl (by kernel_rfl) (by kernel_rfl) (by kernel_rfl) (fun _ _ _ h => h) (Or.inr ⟨by kernel_rfl, rfl⟩) (by assumption) ?_; simp only [Act.put, List.getElem_toArray, List.getElem_cons_succ, List.getElem_cons_zero, List.setIfInBounds_toArray, List.set_cons_succ, List.set_cons_zero])
                (refine wpAnyH_take (i := 18) (v := undef) rfl (by kernel_rfl) (by kernel_rfl) (by kernel_rfl) (fun _ _ _ h => h) (Or.inr ⟨by kernel_rfl, rfl⟩) (by assumption) ?_; simp only [Act.put, List.getElem_toArray, List.getElem_cons_succ, List.getElem_cons_zero, List.setIfInBounds_toArray, List.set_cons_succ, List.set_cons_zero])
                (refine wpAnyH_take (i := 19) (v := undef) rfl (by kernel_rfl) (by kernel_rfl) (by kernel_rfl) (fun _ _ _ h => h) (Or.inr ⟨by kernel_rfl, rfl⟩) (by assumption) ?_; simp only [Act.put, List.getElem_toArray, List.getElem_cons_succ, List.getElem_cons_zero, List.setIfInBounds_toArray, List.set_cons_succ, List.set_cons_zero])
                (refine wpAnyH_take (i := 20) (v := undef) rfl (by kernel_rfl) (by kernel_rfl) (by kernel_rfl) (fun _ _ _ h => h) (Or.inr ⟨by kernel_rfl, rfl⟩) (by assumption) ?_; simp only [Act.put, List.getElem_toArray, List.getElem_cons_succ, List.getElem_cons_zero, List.setIfInBounds_toArray, List.set_cons_succ, List.set_cons_zero])
                (refine wpAnyH_take (i := 21) (v := ?_) rfl (by kernel_rfl) (by kernel_rfl) (by kernel_rfl) (fun _ _ _ h => h) (Or.inl ⟨by kernel_rfl, ?_⟩) (by assumption) ?_; rotate_left 1; (focus (intro w hSw; (try dsimp only at hSw); go_simp; first | done | with_reducible rfl)); simp only [Act.put, List.getElem_toArray, List.getElem_cons_succ, List.getElem_cons_zero, List.setIfInBounds_toArray, List.set_cons_succ, List.set_cons_zero])
                exact wpAnyH_done (by kernel_rfl) ⟨rfl, hg1⟩ _
              intro V hV
              go_wp2
              go_ret
              exact ⟨ret_bool hr.out.symm, hbO.trans (hV.mono hbO.size)⟩
            · cases cb
              · have hr := Lib.hid (HF.out.trans (HX.out HDEF.out))
                apply wp_mid _ (fun V => Below wr.heap.size wr V)
                · go_region_held3 (fun V => Below wr.heap.size wr V ∧ V.cell? ⟨w.heap.size, 0, none⟩ = some (.slice a1 r.writers.length k1) ∧ V.cell? ⟨w.heap.size, 1, none⟩ = some (.slice a2 r.kept.length k2) ∧ V.cell? ⟨w.heap.size, 2, none⟩ = some (.slice a3 r.leaks.length k3) ∧ V.cell? ⟨w.heap.size, 3, none⟩ = some (.slice (some ⟨b4, o4, none⟩) r.letters.length k4) ∧ V.cell? ⟨w.heap.size, 4, none⟩ = some (.slice a5 r.heard.length k5) ∧ V.cell? ⟨b4, o4 + j * 3, none⟩ = some (.int .i64 day) ∧ V.cell? ⟨b4, o4 + j * 3 + 1, none⟩ = some (.int .i64 sec) ∧ V.cell? ⟨b4, o4 + j * 3 + 2, none⟩ = some (.int .i64 wri) ∧ V.cell? ⟨bp, op + j, none⟩ = some (.int .i64 q) ∧ w.heap.size < V.heap.size ∧ b4 < V.heap.size ∧ bp < V.heap.size) (exact KW.out _ (by assumption)) (first
                    | (go_at_call 75; (with_reducible refine (WR.out _ (And.left (by assumption))).mono ?_); rintro e w4 ⟨rfl, hgs⟩; have hg1 := held_nextR (by assumption) hgs; dsimp only)
                    | (go_at_call 94; (with_reducible refine (CA.out _ (And.left (by assumption))).mono ?_); rintro e w5 ⟨rfl, hgs2⟩; have hg2 := held_nextR (by assumption) hgs2; dsimp only))
                  exact ⟨rfl, hg2⟩
                intro V hV
                go_wp2
                go_ret
                exact ⟨ret_bool hr.out.symm, hbO.trans (hV.mono hbO.size)⟩
              · apply wp_mid _ (fun V => Below wr.heap.size wr V)
                · go_region_held3 (fun V => Below wr.heap.size wr V ∧ V.cell? ⟨w.heap.size, 0, none⟩ = some (.slice a1 r.writers.length k1) ∧ V.cell? ⟨w.heap.size, 1, none⟩ = some (.slice a2 r.kept.length k2) ∧ V.cell? ⟨w.heap.size, 2, none⟩ = some (.slice a3 r.leaks.length k3) ∧ V.cell? ⟨w.heap.size, 3, none⟩ = some (.slice (some ⟨b4, o4, none⟩) r.letters.length k4) ∧ V.cell? ⟨w.heap.size, 4, none⟩ = some (.slice a5 r.heard.length k5) ∧ V.cell? ⟨b4, o4 + j * 3, none⟩ = some (.int .i64 day) ∧ V.cell? ⟨b4, o4 + j * 3 + 1, none⟩ = some (.int .i64 sec) ∧ V.cell? ⟨b4, o4 + j * 3 + 2, none⟩ = some (.int .i64 wri) ∧ V.cell? ⟨bp, op + j, none⟩ = some (.int .i64 q) ∧ w.heap.size < V.heap.size ∧ b4 < V.heap.size ∧ bp < V.heap.size) (exact KW.out _ (by assumption)) (first
                    | (go_at_call 75; (with_reducible refine (WR.out _ (And.left (by assumption))).mono ?_); rintro e w4 ⟨rfl, hgs⟩; have hg1 := held_nextR (by assumption) hgs; dsimp only)
                    | (go_at_call 94; (with_reducible refine (CA.out _ (And.left (by assumption))).mono ?_); rintro e w5 ⟨rfl, hgs2⟩; have hg2 := held_nextR (by assumption) hgs2; dsimp only))
                  exact ⟨rfl, hg2⟩
                intro V hV
                have HDEF2 : Hid (fj = ((List.range j).all fun k => !(decide (p[k]?.getD 0 = q) && decide ((letterAt r k).day = day)))) := Lib.hid (HDEF.out.trans (by rw [Bool.true_and, Bool.true_and]))
                clear x0 x1 x2 x3 x4 z0 y0 y1 y2 yp hb4 hbp CA WR
                go_wp2
                go_loopw [9] (fun i vr => ∃ k : Nat, k ≤ j ∧ i = .int .i64 k ∧ Hid (((List.range k).all fun k => !(decide (p[k]?.getD 0 = q) && decide ((letterAt r k).day = day))) = true) ∧ Below V.heap.size V vr) (fun i _ => j - (intOf i).toNat)
                case atStart => exact ⟨0, Nat.zero_le _, rfl, Lib.hid rfl, Below.refl _ _⟩
                case round =>
                  obtain ⟨k, hk, rfl, HN, hbr⟩ := hrel
                  have hbA := hV.trans (hbr.mono hV.size)
                  by_cases hkj : k < j
                  · have hk4 : k < r.letters.length := by omega
                    have hkp : k < p.length := by omega
                    obtain ⟨-, x0, x1, x2, x3, x4, y0, y1, y2, yp, z0, hb4, hbp⟩ := KW.out wr hbA
                    obtain ⟨b5, o5, e5, -, u0, -, -⟩ := HLK.out k hk4 wr hbA
                    cases e5
                    obtain ⟨b6, o6, e6, -, u1⟩ := HPK.out k hkp wr hbA
                    cases e6
                    have HS2 := Lib.hid (rangeAll_succ (fun k => !(decide (p[k]?.getD 0 = q) && decide ((letterAt r k).day = day))) k)
                    have HX2 := Lib.hid (fun h => rangeAll_not (fun k => !(decide (p[k]?.getD 0 = q) && decide ((letterAt r k).day = day))) hkj h)
                    have hpk : p[k]?.getD 0 = p[k] := by rw [List.getElem?_eq_getElem hkp]; rfl
                    have hlk : (letterAt r k).day = r.letters[k].day := by unfold letterAt; rw [List.getElem?_eq_getElem hk4]; rfl
                    (try simp only [hpk, hlk] at HS2 HX2)
                    clear hpk hlk
                    generalize p[k] = pk at u1 HS2 HX2
                    generalize r.letters[k].day = dk at u0 HS2 HX2
                    have hkl : (k : Int) < r.letters.length := by omega
                    have hkpl : (k : Int) < p.length := by omega
                    have hkji : (k : Int) < j := by omega
                    by_cases e1 : pk = q
                    · have g1 := eqi_t e1
                      by_cases e2 : dk = day
                      · have g2 := eqi_t e2
                        have hr := Lib.hid (HF.out.trans (HX.out (HDEF2.out.trans (HX2.out (by rw [decide_eq_true e1, decide_eq_true e2]; rfl)))))
                        clear e1 e2
                        go_wp2
                        go_quiet (fail)
                        go_wp2
                        go_ret
                        exact ⟨ret_bool hr.out.symm, hbO.trans ((hbA.trans (below_draws _ _ _)).mono hbO.size)⟩
                      · have g2 := eqi_f e2
                        have hs2 := Lib.hid (show ((List.range (k + 1)).all fun k => !(decide (p[k]?.getD 0 = q) && decide ((letterAt r k).day = day))) = true from HS2.out.trans (by rw [HN.out, decide_eq_false e2]; simp))
                        clear e1 e2
                        go_wp2
                        go_quiet (fail)
                        go_wp2
                        go_roundw
                        case rel => exact ⟨k + 1, by omega, by go_num, hs2, hbr.trans (below_draws _ _ _)⟩
                        case measure => simp [intOf]; omega
                    · have g1 := eqi_f e1
                      have hs2 := Lib.hid (show ((List.range (k + 1)).all fun k => !(decide (p[k]?.getD 0 = q) && decide ((letterAt r k).day = day))) = true from HS2.out.trans (by rw [HN.out, decide_eq_false e1]; simp))
                      clear e1
                      go_wp2
                      go_quiet (fail)
                      go_wp2
                      go_roundw
                      case rel => exact ⟨k + 1, by omega, by go_num, hs2, hbr.trans (below_draws _ _ _)⟩
                      case measure => simp [intOf]; omega
                  · obtain rfl : k = j := by omega
                    have hs2 := Lib.hid (show ((List.range (k + 1)).all fun i => fitsAt r T p i) = true from HS.out.trans (by rw [HJ.out, HDEF2.out, HN.out]; rfl))
                    go_wp2
                    go_roundw
                    case rel => exact ⟨k + 1, by omega, by go_num, hs2, room_next hB hbA⟩
                    case measure => simp [intOf]; omega
      · obtain rfl : j = p.length := by omega
        have hr := Lib.hid (HF.out.trans HJ.out)
        go_wp2
        go_ret
        exact ⟨ret_bool hr.out.symm, hbO⟩
  · have hp1 := nei_t (show (p.length : Int) ≠ r.letters.length by omega)
    have hr := Lib.hid (HF.out.trans (by rw [decide_eq_false hpl, Bool.false_and]))
    clear hpl
    go_enter Try.func47, Try.ntmps47
    go_wp2
    go_ret
    exact ⟨ret_bool hr.out.symm, box_old hB0⟩
end Go.Proofs.Ytmhbjohpggghgaa
namespace Go.Proofs.Ytmhbjohpggghgaa
open Go Go.RowKit Go.Shelf

/-- How the best plan so far is told: by its number, and how many letters wait. -/
def BestN (all : List (List Int)) (b : Option (List Int)) (best waiting : Int) : Prop :=
  match b with
  | none => best = -1 ∧ waiting = 0
  | some q => ∃ n : Nat, ∃ h : n < all.length, best = n ∧ all[n] = q ∧ waiting = (waitingOf q : Int)
theorem fold_take {α β : Type} (f : β → α → β) (b : β) (L : List α) (j : Nat) (h : j < L.length) : (L.take (j + 1)).foldl f b = f ((L.take j).foldl f b) L[j] := by
  rw [List.take_succ_eq_append_getElem h, List.foldl_append]; rfl

set_option maxRecDepth 100000 in
set_option maxHeartbeats 4000000 in
theorem RPlan_any (a1 a2 a3 a4 a5 : Option Addr) (k1 k2 k3 k4 k5 : Nat) (r : SeRoom) (w : World) (hm : RoomC w a1 a2 a3 a4 a5 k1 k2 k3 k4 k5 r) :
    Calls Try.prog 31 #[(.agg #[.slice a1 r.writers.length k1, .slice a2 r.kept.length k2, .slice a3 r.leaks.length k3, .slice a4 r.letters.length k4, .slice a5 r.heard.length k5])] w fun e w' => ∃ v, e = .returned (.tuple #[v, .int .i64 (planOf r).2.1, .int .i64 (planOf r).2.2]) ∧ IntsV w' v (planOf r).1 ∧ Below w.heap.size w w' := by
  have HN1 := Lib.hid (fun h : planErr r ≠ 0 => plan_no h)
  have HN2 := Lib.hid (fun (h : planErr r = 0) (h2 : bestPlan r (seTruths r []) = none) => plan_none h h2)
  have HN3 := Lib.hid (fun (h : planErr r = 0) (q : List Int) (h2 : bestPlan r (seTruths r []) = some q) => plan_some h h2)
  have HV := Lib.hid (fun h : planErr r = 0 => plan_valid h)
  have HE : Hid (planErr r = knownErr r (seErr r)) := rfl
  have HX : Hid (seErr r = (seCheck r).2.2) := rfl
  generalize planOf r = res at HN1 HN2 HN3 ⊢
  have hB0 := Below.refl (w.heap.size + 1) (w.alloc (.cells #[.slice a1 r.writers.length k1, .slice a2 r.kept.length k2, .slice a3 r.leaks.length k3, .slice a4 r.letters.length k4, .slice a5 r.heard.length k5] 28))
  obtain ⟨x0, x1, x2, x3, x4, z0⟩ := box_room hB0
  have C := Lib.hid (RCheck_any a1 a2 a3 a4 a5 k1 k2 k3 k4 k5 r (w.alloc (.cells #[.slice a1 r.writers.length k1, .slice a2 r.kept.length k2, .slice a3 r.leaks.length k3, .slice a4 r.letters.length k4, .slice a5 r.heard.length k5] 28)) (hm.mono (box_old hB0)))
  have S := fun (W : World) (h : Below w.heap.size w W) => RKnown_any a1 a2 a3 a4 a5 k1 k2 k3 k4 k5 r (seErr r) W (hm.mono h) seValid_of
  rw [← HE.out] at S
  replace S := Lib.hid S
  clear HE
  generalize seErr r = x at S HX
  generalize seCheck r = y at C HX
  obtain ⟨p1, p2, p3⟩ := y
  simp only at C HX
  obtain rfl := HX.out
  clear HX
  generalize planErr r = te at S HN1 HN2 HN3 HV
  by_cases h0 : te = 0
  · have hva := HV.out h0
    have h1 := nei_f h0
    have HER := Lib.hid h0
    replace HN2 := Lib.hid (HN2.out h0)
    replace HN3 := Lib.hid (HN3.out h0)
    clear h0 HN1 HV
    have hbd := truths_bd (r := r) []
    obtain ⟨T, hT⟩ : ∃ T, T = seTruths r [] := ⟨_, rfl⟩
    rw [← hT] at hbd HN2 HN3
    have HTT := Lib.hid hT.symm
    clear hT
    have P := fun (W : World) (h : Below w.heap.size w W) => RPlans_any a1 a2 a3 a4 a5 k1 k2 k3 k4 k5 r W (hm.mono h) hva
    have HBP : Hid (bestPlan r T = (sePlans r).foldl (bestStep r T) none) := rfl
    have hfew : (sePlans r).length ≤ 625 := plans_few hva _ hva.nt
    have hlen : ∀ q ∈ sePlans r, q.length ≤ 4 := fun q hq => by rw [plansTo_len r _ q hq]; exact hva.nt
    generalize sePlans r = all at P HBP hfew hlen
    replace P := Lib.hid P
    generalize bestPlan r T = bp at HN2 HN3 HBP
    go_enter Try.func31, Try.ntmps31
    go_wp2_with (first
      | (go_at_call 99; go_must ((with_reducible refine (P.out _ (box_old hB3)).mono ?_); rintro e w4 ⟨v, rfl, ⟨al, cl, rfl, hsl, hrl⟩, hb4⟩; have hB4 := room_next hB3 hb4; dsimp only))
      | (go_at_call 81; go_must ((with_reducible refine (S.out _ (box_old hB2)).mono ?_); rintro e w3 ⟨v, rfl, hsv, hb3⟩; have hB3 := room_next hB2 hb3; (have h5 := hsv.1 HER.out; rw [HTT.out] at h5; obtain ⟨a, c, rfl, hso, hrc⟩ := h5); replace x0 := (box_room hB3).1; replace x1 := (box_room hB3).2.1; replace x2 := (box_room hB3).2.2.1; replace x3 := (box_room hB3).2.2.2.1; replace x4 := (box_room hB3).2.2.2.2.1; replace z0 := (box_room hB3).2.2.2.2.2; dsimp only))
      | (go_at_call 17; go_must ((with_reducible refine C.out.mono ?_); rintro e w2 ⟨rfl, hb⟩; have hB2 := room_next hB0 hb; replace x0 := (box_room hB2).1; replace x1 := (box_room hB2).2.1; replace x2 := (box_room hB2).2.2.1; replace x3 := (box_room hB2).2.2.2.1; replace x4 := (box_room hB2).2.2.2.2.1; replace z0 := (box_room hB2).2.2.2.2.2; dsimp only)))
    clear x0 x1 x2 x3 x4 z0
    have hlT := hso.len
    have hll := hsl.len
    have hrc4 := hrc.mono hb4
    have FT := Lib.hid (fun (W : World) (pa : Option Addr) (p : List Int) (pc : Nat) (h : Below w4.heap.size w4 W) hpo hpi => RFits_any a1 a2 a3 a4 a5 k1 k2 k3 k4 k5 r a pa T p c pc W (hm.mono ((box_old hB4).trans (h.mono (box_old hB4).size))) hva hso (hrc4.mono h) hbd hpo hpi)
    go_loopw [10, 11, 12] (fun b n i wr => ∃ (j : Nat) (bi ni : Int), j ≤ all.length ∧ i = .int .i64 j ∧ b = .int .i64 bi ∧ n = .int .i64 ni ∧ -1 ≤ bi ∧ bi < all.length ∧ 0 ≤ ni ∧ ni ≤ 4 ∧ Hid (BestN all ((all.take j).foldl (bestStep r T) none) bi ni) ∧ Below w4.heap.size w4 wr) (fun _ _ i _ => all.length - (intOf i).toNat)
    case atStart => exact ⟨0, -1, 0, Nat.zero_le _, rfl, rfl, rfl, by omega, by omega, by omega, by omega, Lib.hid ⟨rfl, rfl⟩, Below.refl _ _⟩
    case round =>
      obtain ⟨j, bi, ni, hj, rfl, rfl, rfl, hb1, hb2, hn1, hn2, HBN, hbw⟩ := hrel
      have hB := room_next hB4 hbw
      have hbO := box_old hB
      obtain ⟨x0, x1, x2, x3, x4, z0⟩ := box_room hB
      by_cases hlt : j < all.length
      · obtain ⟨b, off, a', c', rfl, hbl, hcell, hsi, hints⟩ := (hrl.mono hbw) j hlt
        have hst := Lib.hid (fold_take (bestStep r T) none all j hlt)
        have hl4 := hlen all[j] (List.getElem_mem hlt)
        have hwl := waiting_le all[j]
        have HAT : Hid (∃ h : j < all.length, all[j] = all[j]) := Lib.hid ⟨hlt, rfl⟩
        generalize hq : all[j] = q at hcell hsi hints hst hl4 hwl
        have HQ : Hid (∃ h : j < all.length, all[j] = q) := Lib.hid ⟨hlt, hq⟩
        clear hq HAT
        have WA := Lib.hid (fun (W : World) (h : Below wr.heap.size wr W) => RWaiting_any a' q c' W hsi (hints.mono h))
        have FI := fun (W : World) (h : Below wr.heap.size wr W) => FT.out W a' q c' (hbw.trans (h.mono hbw.size)) hsi (hints.mono h)
        have hfe : Hid (∀ b, bestStep r T b q = match b with | none => if fitsB r T q then some q else none | some p => if decide (waitingOf q < waitingOf p) && fitsB r T q then some q else some p) := Lib.hid (fun b => by cases b <;> rfl)
        generalize fitsB r T q = fb at FI hfe
        generalize hwq : waitingOf q = n at WA hfe hwl
        have HWQ := Lib.hid hwq
        clear hwq
        replace FI := Lib.hid FI
        generalize (all.take j).foldl (bestStep r T) none = bo at HBN hst
        have KW : Hid (∀ V, Below wr.heap.size wr V → (fun V => Below wr.heap.size wr V ∧ V.cell? ⟨w.heap.size, 0, none⟩ = some (.slice a1 r.writers.length k1) ∧ V.cell? ⟨w.heap.size, 1, none⟩ = some (.slice a2 r.kept.length k2) ∧ V.cell? ⟨w.heap.size, 2, none⟩ = some (.slice a3 r.leaks.length k3) ∧ V.cell? ⟨w.heap.size, 3, none⟩ = some (.slice a4 r.letters.length k4) ∧ V.cell? ⟨w.heap.size, 4, none⟩ = some (.slice a5 r.heard.length k5) ∧ V.cell? ⟨b, off + j, none⟩ = some (.slice a' q.length c') ∧ w.heap.size < V.heap.size ∧ b < V.heap.size) V) := Lib.hid (fun V h => heldR h x0 x1 x2 x3 x4 hcell)
        have hd := below_drew' (Below.refl wr.heap.size wr)
        have hbz := lt_of_cell hcell
        have hjl : (j : Int) < all.length := by omega
        have yes : Hid (bo = none ∨ (∃ p, bo = some p ∧ n < waitingOf p) → fb = true → bestStep r T bo q = some q) := Lib.hid (fun h hf => by
          rw [hfe.out]
          rcases h with rfl | ⟨p, rfl, h⟩
          · simp only [hf, if_true]
          · simp only [hf, decide_eq_true h, Bool.and_self, if_true])
        have no : Hid (fb = false → bestStep r T bo q = bo) := Lib.hid (fun hf => by
          rw [hfe.out]
          cases bo <;> simp [hf])
        have nol : Hid (∀ p, bo = some p → ¬ n < waitingOf p → bestStep r T bo q = bo) := Lib.hid (fun p e h => by
          rw [hfe.out, e]
          simp [h])
        clear hfe
        have way : Hid ((bi < 0 ∧ bo = none) ∨ (¬ bi < 0 ∧ ∃ p, bo = some p ∧ ni = (waitingOf p : Int))) := Lib.hid (by
          have h := HBN.out
          cases bo with
          | none => exact .inl ⟨by rw [h.1]; omega, rfl⟩
          | some p => obtain ⟨m, hm, e, -, e2⟩ := h; exact .inr ⟨by omega, p, rfl, e2⟩)
        go_upto_region 11 with (go_at_call 48; go_must ((with_reducible refine (WA.out _ (Below.refl _ _)).mono ?_); rintro e w5 ⟨rfl, hw5⟩; obtain rfl := hw5.symm; dsimp only))
        go_cut [57, 13] (fun b v W => b = .bool (fb && decide (bi < 0 ∨ (n : Int) < ni)) ∧ v = .int .i64 n ∧ Below wr.heap.size wr W)
        case first =>
          by_cases hb0 : bi < 0
          · obtain rfl : bi = -1 := by omega
            apply wp_mid _ (fun V => Below wr.heap.size wr V)
            · refine wp_region_held_drew (S := (fun V => Below wr.heap.size wr V ∧ V.cell? ⟨w.heap.size, 0, none⟩ = some (.slice a1 r.writers.length k1) ∧ V.cell? ⟨w.heap.size, 1, none⟩ = some (.slice a2 r.kept.length k2) ∧ V.cell? ⟨w.heap.size, 2, none⟩ = some (.slice a3 r.leaks.length k3) ∧ V.cell? ⟨w.heap.size, 3, none⟩ = some (.slice a4 r.letters.length k4) ∧ V.cell? ⟨w.heap.size, 4, none⟩ = some (.slice a5 r.heard.length k5) ∧ V.cell? ⟨b, off + j, none⟩ = some (.slice a' q.length c') ∧ w.heap.size < V.heap.size ∧ b < V.heap.size)) (by kernel_rfl) (KW.out _ hd) (fun hHeld => ?_)
              (refine wpAnyH_take (i := 0) (v := ?_) rfl (by kernel_rfl) (by kernel_rfl) (by kernel_rfl) (fun _ _ _ h => h) (Or.inl ⟨by kernel_rfl, ?_⟩) (by assumption) ?_; rotate_left 1; (focus (intro w hSw; (try dsimp only at hSw); go_simp; first | done | with_reducible rfl)); simp only [Act.put, List.getElem_toArray, List.getElem_cons_succ, List.getElem_cons_zero, List.setIfInBounds_toArray, List.set_cons_succ, List.set_cons_zero])
              (refine wpAnyH_take (i := 1) (v := ?_) rfl (by kernel_rfl) (by kernel_rfl) (by kernel_rfl) (fun _ _ _ h => h) (Or.inl ⟨by kernel_rfl, ?_⟩) (by assumption) ?_; rotate_left 1; (focus (intro w hSw; (try dsimp only at hSw); go_simp; first | done | with_reducible rfl)); simp only [Act.put, List.getElem_toArray, List.getElem_cons_succ, List.getElem_cons_zero, List.setIfInBounds_toArray, List.set_cons_succ, List.set_cons_zero])
              (refine wpAnyH_take (i := 2) (v := ?_) rfl (by kernel_rfl) (by kernel_rfl) (by kernel_rfl) (fun _ _ _ h => h) (Or.inl ⟨by kernel_rfl, ?_⟩) (by assumption) ?_; rotate_left 1; (focus (intro w hSw; (try dsimp only at hSw); go_simp; first | done | with_reducible rfl)); simp only [Act.put, List.getElem_toArray, List.getElem_cons_succ, List.getElem_cons_zero, List.setIfInBounds_toArray, List.set_cons_succ, List.set_cons_zero])
              (refine wpAnyH_take (i := 3) (v := undef) rfl (by kernel_rfl) (by kernel_rfl) (by kernel_rfl) (fun _ _ _ h => h) (Or.inr ⟨by kernel_rfl, rfl⟩) (by assumption) ?_; simp only [Act.put, List.getElem_toArray, List.getElem_cons_succ, List.getElem_cons_zero, List.setIfInBounds_toArray, List.set_cons_succ, List.set_cons_zero])
              (refine wpAnyH_take (i := 4) (v := undef) rfl (by kernel_rfl) (by kernel_rfl) (by kernel_rfl) (fun _ _ _ h => h) (Or.inr ⟨by kernel_rfl, rfl⟩) (by assumption) ?_; simp only [Act.put, List.getElem_toArray, List.getElem_cons_succ, List.getElem_cons_zero, List.setIfInBounds_toArray, List.set_cons_succ, List.set_cons_zero])
              (refine wpAnyH_take (i := 5) (v := undef) rfl (by kernel_rfl) (by kernel_rfl) (by kernel_rfl) (fun _ _ _ h => h) (Or.inr ⟨by kernel_rfl, rfl⟩) (by assumption) ?_; simp only [Act.put, List.getElem_toArray, List.getElem_cons_succ, List.getElem_cons_zero, List.setIfInBounds_toArray, List.set_cons_succ, List.set_cons_zero])
              (refine wpAnyH_take (i := 6) (v := ?_) rfl (by kernel_rfl) (by kernel_rfl) (by kernel_rfl) (fun _ _ _ h => h) (Or.inl ⟨by kernel_rfl, ?_⟩) (by assumption) ?_; rotate_left 1; (focus (intro w hSw; (try dsimp only at hSw); go_simp; first | done | with_reducible rfl)); simp only [Act.put, List.getElem_toArray, List.getElem_cons_succ, List.getElem_cons_zero, List.setIfInBounds_toArray, List.set_cons_succ, List.set_cons_zero])
              (refine wpAnyH_take (i := 7) (v := ?_) rfl (by kernel_rfl) (by kernel_rfl) (by kernel_rfl) (fun _ _ _ h => h) (Or.inl ⟨by kernel_rfl, ?_⟩) (by assumption) ?_; rotate_left 1; (focus (intro w hSw; (try dsimp only at hSw); go_simp; first | done | with_reducible rfl)); simp only [Act.put, List.getElem_toArray, List.getElem_cons_succ, List.getElem_cons_zero, List.setIfInBounds_toArray, List.set_cons_succ, List.set_cons_zero])
              (refine wpAnyH_take (i := 8) (v := ?_) rfl (by kernel_rfl) (by kernel_rfl) (by kernel_rfl) (fun _ _ _ h => h) (Or.inl ⟨by kernel_rfl, ?_⟩) (by assumption) ?_; rotate_left 1; (focus (intro w hSw; (try dsimp only at hSw); go_simp; first | done | with_reducible rfl)); simp only [Act.put, List.getElem_toArray, List.getElem_cons_succ, List.getElem_cons_zero, List.setIfInBounds_toArray, List.set_cons_succ, List.set_cons_zero])
              (refine wpAnyH_take (i := 9) (v := ?_) rfl (by kernel_rfl) (by kernel_rfl) (by kernel_rfl) (fun _ _ _ h => h) (Or.inl ⟨by kernel_rfl, ?_⟩) (by assumption) ?_; rotate_left 1; (focus (intro w hSw; (try dsimp only at hSw); go_simp; first | done | with_reducible rfl)); simp only [Act.put, List.getElem_toArray, List.getElem_cons_succ, List.getElem_cons_zero, List.setIfInBounds_toArray, List.set_cons_succ, List.set_cons_zero])
              (refine wpAnyH_take (i := 10) (v := ?_) rfl (by kernel_rfl) (by kernel_rfl) (by kernel_rfl) (fun _ _ _ h => h) (Or.inl ⟨by kernel_rfl, ?_⟩) (by assumption) ?_; rotate_left 1; (focus (intro w hSw; (try dsimp only at hSw); go_simp; first | done | with_reducible rfl)); simp only [Act.put, List.getElem_toArray, List.getElem_cons_succ, List.getElem_cons_zero, List.setIfInBounds_toArray, List.set_cons_succ, List.set_cons_zero])
              (refine wpAnyH_take (i := 11) (v := ?_) rfl (by kernel_rfl) (by kernel_rfl) (by kernel_rfl) (fun _ _ _ h => h) (Or.inl ⟨by kernel_rfl, ?_⟩) (by assumption) ?_; rotate_left 1; (focus (intro w hSw; (try dsimp only at hSw); go_simp; first | done | with_reducible rfl)); simp only [Act.put, List.getElem_toArray, List.getElem_cons_succ, List.getElem_cons_zero, List.setIfInBounds_toArray, List.set_cons_succ, List.set_cons_zero])
              (refine wpAnyH_take (i := 12) (v := ?_) rfl (by kernel_rfl) (by kernel_rfl) (by kernel_rfl) (fun _ _ _ h => h) (Or.inl ⟨by kernel_rfl, ?_⟩) (by assumption) ?_; rotate_left 1; (focus (intro w hSw; (try dsimp only at hSw); go_simp; first | done | with_reducible rfl)); simp only [Act.put, List.getElem_toArray, List.getElem_cons_succ, List.getElem_cons_zero, List.setIfInBounds_toArray, List.set_cons_succ, List.set_cons_zero])
              (refine wpAnyH_take (i := 13) (v := ?_) rfl (by kernel_rfl) (by kernel_rfl) (by kernel_rfl) (fun _ _ _ h => h) (Or.inl ⟨by kernel_rfl, ?_⟩) (by assumption) ?_; rotate_left 1; (focus (intro w hSw; (try dsimp only at hSw); go_simp; first | done | with_reducible rfl)); simp only [Act.put, List.getElem_toArray, List.getElem_cons_succ, List.getElem_cons_zero, List.setIfInBounds_toArray, List.set_cons_succ, List.set_cons_zero])
              (refine wpAnyH_ready (rs := [14]) (by kernel_rfl) (by simp) ?_; refine AllReadyH.cons rfl (fun K hK => ?_) AllReadyH.nil; go_simp)
              (with_reducible refine (FI.out _ hd).mono ?_)
              rintro e w5 ⟨rfl, hgs⟩
              dsimp only
              have hg1 := hd.trans (hgs.mono hd.size)
              refine hK.out _ _ (KW.out _ hg1) (fun hHeld => ?_)
              (try simp only [Act.put, List.getElem_toArray, List.getElem_cons_succ, List.getElem_cons_zero, List.setIfInBounds_toArray, List.set_cons_succ, List.set_cons_zero])
              clear hK
              (refine wpAnyH_take (i := 15) (v := ?_) rfl (by kernel_rfl) (by kernel_rfl) (by kernel_rfl) (fun _ _ _ h => h) (Or.inl ⟨by kernel_rfl, ?_⟩) (by assumption) ?_; rotate_left 1; (focus (intro w hSw; (try dsimp only at hSw); go_simp; first | done | with_reducible rfl)); simp only [Act.put, List.getElem_toArray, List.getElem_cons_succ, List.getElem_cons_zero, List.setIfInBounds_toArray, List.set_cons_succ, List.set_cons_zero])
              exact wpAnyH_done (by kernel_rfl) ⟨rfl, hg1⟩ _
            intro V hV
            go_wp2
            go_meet
            case rel => exact ⟨by simp, rfl, hV⟩
          · by_cases hw0 : (n : Int) < ni
            · apply wp_mid _ (fun V => Below wr.heap.size wr V)
              · go_region_held3 (fun V => Below wr.heap.size wr V ∧ V.cell? ⟨w.heap.size, 0, none⟩ = some (.slice a1 r.writers.length k1) ∧ V.cell? ⟨w.heap.size, 1, none⟩ = some (.slice a2 r.kept.length k2) ∧ V.cell? ⟨w.heap.size, 2, none⟩ = some (.slice a3 r.leaks.length k3) ∧ V.cell? ⟨w.heap.size, 3, none⟩ = some (.slice a4 r.letters.length k4) ∧ V.cell? ⟨w.heap.size, 4, none⟩ = some (.slice a5 r.heard.length k5) ∧ V.cell? ⟨b, off + j, none⟩ = some (.slice a' q.length c') ∧ w.heap.size < V.heap.size ∧ b < V.heap.size) (exact KW.out _ (by assumption)) (first
                  | (go_at_call 47; (with_reducible refine (FI.out _ (And.left (by assumption))).mono ?_); rintro e w5 ⟨rfl, hgs⟩; have hg1 := held_nextR (by assumption) hgs; dsimp only))
                exact ⟨rfl, hg1⟩
              intro V hV
              go_wp2
              go_meet
              case rel => exact ⟨by simp [hw0], rfl, hV⟩
            · go_quiet (fail)
              go_wp2
              go_meet
              case rel => exact ⟨by simp [hb0, hw0], rfl, below_draws _ _ _⟩
        case rest =>
          obtain ⟨rfl, rfl, hV⟩ := hcut
          rename World => V
          have hbV := hbw.trans (hV.mono hbw.size)
          by_cases hc : (fb && decide (bi < 0 ∨ (n : Int) < ni)) = true
          · have hs2 : bestStep r T bo q = some q := by
              have hc := hc
              rw [Bool.and_eq_true, decide_eq_true_eq] at hc
              refine yes.out ?_ hc.1
              rcases way.out with ⟨-, e⟩ | ⟨h2, p, e, e2⟩
              · exact .inl e
              · exact .inr ⟨p, e, by omega⟩
            have hN := Lib.hid (show BestN all ((all.take (j + 1)).foldl (bestStep r T) none) j n by
              rw [hst.out, hs2]
              obtain ⟨h3, h4⟩ := HQ.out
              exact ⟨j, h3, rfl, h4, by rw [HWQ.out]⟩)
            rw [hc]
            clear hs2 hc x0 x1 x2 x3 x4
            go_wp2
            go_roundw
            case rel => exact ⟨j + 1, j, n, by omega, by go_num, rfl, rfl, by omega, by omega, by omega, by omega, hN, hbV⟩
            case measure => simp [intOf]; omega
          · have hs2 : bestStep r T bo q = bo := by
              cases hf : fb
              · exact no.out hf
              · rw [hf, Bool.true_and, decide_eq_true_eq] at hc
                rcases way.out with ⟨h2, -⟩ | ⟨h2, p, e, e2⟩
                · exact absurd (.inl h2) hc
                · exact nol.out p e (fun h => hc (.inr (by omega)))
            have hN := Lib.hid (show BestN all ((all.take (j + 1)).foldl (bestStep r T) none) bi ni by
              rw [hst.out, hs2]
              exact HBN.out)
            have hc2 : (fb && decide (bi < 0 ∨ (n : Int) < ni)) = false := by simpa using hc
            rw [hc2]
            clear hs2 hc hc2 x0 x1 x2 x3 x4
            go_wp2
            go_roundw
            case rel => exact ⟨j + 1, bi, ni, by omega, by go_num, rfl, rfl, hb1, hb2, hn1, hn2, hN, hbV⟩
            case measure => simp [intOf]; omega
      · obtain rfl : j = all.length := by omega
        have hBN := HBN.out
        rw [List.take_length, ← HBP.out] at hBN
        cases bp with
        | none =>
          obtain ⟨rfl, rfl⟩ := hBN
          have hr := Lib.hid (HN2.out rfl)
          go_wp2
          go_ret3
          have hr := hr.out
          subst hr
          exact ⟨_, rfl, ⟨none, 0, rfl, ⟨by simp, by omega, fun _ => rfl⟩, IntsC.nil _ _⟩, hbO⟩
        | some q =>
          obtain ⟨m, hm, rfl, hq, rfl⟩ := hBN
          have hr := Lib.hid (HN3.out q rfl)
          obtain ⟨b, off, a', c', rfl, hbl, hcell, hsi, hints⟩ := (hrl.mono hbw) m hm
          rw [hq] at hcell hsi hints
          have hml : (m : Int) < all.length := by omega
          have hbz := lt_of_cell hcell
          have HQ := Lib.hid hq
          clear hq
          go_wp2
          go_ret3
          have hr := hr.out
          subst hr
          exact ⟨_, rfl, ⟨_, _, rfl, hsi, hints⟩, hbO⟩
  · have h1 := nei_t h0
    have hr := Lib.hid (HN1.out h0)
    go_enter Try.func31, Try.ntmps31
    go_wp2_with (first
      | (go_at_call 81; go_must ((with_reducible refine (S.out _ (box_old hB2)).mono ?_); rintro e w3 ⟨v, rfl, hsv, hb3⟩; have hB3 := room_next hB2 hb3; dsimp only))
      | (go_at_call 17; go_must ((with_reducible refine C.out.mono ?_); rintro e w2 ⟨rfl, hb⟩; have hB2 := room_next hB0 hb; replace x0 := (box_room hB2).1; replace x1 := (box_room hB2).2.1; replace x2 := (box_room hB2).2.2.1; replace x3 := (box_room hB2).2.2.2.1; replace x4 := (box_room hB2).2.2.2.2.1; replace z0 := (box_room hB2).2.2.2.2.2; dsimp only)))
    go_ret3
    have hr := hr.out
    subst hr
    exact ⟨_, rfl, ⟨none, 0, rfl, ⟨by simp, by omega, fun _ => rfl⟩, IntsC.nil _ _⟩, box_old hB3⟩
end Go.Proofs.Ytmhbjohpggghgaa
