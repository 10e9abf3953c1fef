/- What is proved here: contracts of the reference of layer 12: Can. Conditions: the room lies in memory and is valid. -/
/- What is proved here: contracts of the reference of layer 12: May. Conditions: the room lies in memory. -/
/- What is proved here: contracts of the reference of layer 12: Less. Conditions: slices lie in memory; few truths. -/
/- What is proved here: contracts of the reference of layer 12: Waiting. Condition: the slice lies in memory. -/
import Derived.Test.YtmhbjohpggghgaaSrC
set_option linter.unusedVariables false
set_option linter.unusedSimpArgs false
namespace Go.Proofs.Ytmhbjohpggghgaa
open Go Go.RowKit Go.Shelf

theorem one_letter (W : World) (day sec who : Int) (t : TypeId) : LettersC (W.alloc (.cells #[.int .i64 day, .int .i64 sec, .int .i64 who] t)) (some ⟨W.heap.size, 0, none⟩) [⟨day, sec, who⟩] := fun i hi => by
  have e : i = 0 := by simp at hi; omega
  subst e
  have h := alloc_at W (.cells #[.int .i64 day, .int .i64 sec, .int .i64 who] t) rfl
  exact ⟨_, 0, rfl, by simp, blk_cell 0 h rfl, blk_cell 1 h rfl, blk_cell 2 h rfl⟩
set_option maxRecDepth 100000 in
set_option maxHeartbeats 2000000 in
theorem RCan_any (a1 a2 a3 a4 a5 : Option Addr) (k1 k2 k3 k4 k5 : Nat) (r : SeRoom) (ra : Option Addr) (T : List (List Int)) (rc : Nat) (x : SeLetter) (who : Int) (w : World) (hm : RoomC w a1 a2 a3 a4 a5 k1 k2 k3 k4 k5 r) (hv : SeValid r) (hlb : 0 ≤ x.day ∧ x.day ≤ 10 ∧ 0 ≤ x.secrets ∧ x.secrets ≤ 8) (hro : SlOk ra T.length rc) (hrc : RowsC w ra T) (htb : ∀ t ∈ T, ∀ x ∈ t, 0 ≤ x ∧ x < r.leaks.length) :
    Calls Try.prog 94 #[(.agg #[.slice a1 r.writers.length k1, .slice a2 r.kept.length k2, .slice a3 r.leaks.length k3, .slice a4 r.letters.length k4, .slice a5 r.heard.length k5]), .slice ra T.length rc, .agg #[.int .i64 x.day, .int .i64 x.secrets, .int .i64 x.writer], .int .i64 who] w fun e w' => e = .returned (.bool (canB r T x who)) ∧ Below w.heap.size w w' := by
  have HF : Hid (canB r T x who = (List.range r.kept.length).all fun s => !(bitB x.secrets s) || keepsB r [{ x with writer := who }] T s) := rfl
  generalize canB r T x who = res at HF ⊢
  obtain ⟨day, sec, wri⟩ := x
  simp only at hlb HF ⊢
  have vk := hv.nk
  have lk := hm.ok2.len
  have HB := fun (s : Nat) (hs : s ≤ 4) W => Bit_any sec s W (by omega) (by omega) (by omega) (by omega)
  simp only [Int.toNat_natCast] at HB
  have HB := Lib.hid HB
  have KP := fun (s : Nat) (hs : s < r.kept.length) (g : Nat) (V : World) (h : Below w.heap.size w V) (hl : LettersC V (some ⟨g, 0, none⟩) [⟨day, sec, who⟩]) => RKeeps_any a1 a2 a3 a4 a5 k1 k2 k3 k4 k5 r (some ⟨g, 0, none⟩) ra [⟨day, sec, who⟩] T 1 rc s V (hm.mono h) hv ⟨by simp, by omega, by simp⟩ hl (fun x hx => by simp at hx; subst hx; exact hlb) hro (hrc.mono h) htb hs
  simp only [List.length_singleton] at KP
  obtain ⟨X, hX⟩ : ∃ X : World, X = (w.alloc (.cells #[.slice a1 r.writers.length k1, .slice a2 r.kept.length k2, .slice a3 r.leaks.length k3, .slice a4 r.letters.length k4, .slice a5 r.heard.length k5] 28)).alloc (.cells #[.int .i64 day, .int .i64 sec, .int .i64 who] 68) := ⟨_, rfl⟩
  have hXb : Below w.heap.size w X := by rw [hX]; exact ((Below.refl _ _).alloc (Nat.le_refl _) _).alloc (by simp) _
  have h0 : X.heap[w.heap.size]? = some (.cells #[.slice a1 r.writers.length k1, .slice a2 r.kept.length k2, .slice a3 r.leaks.length k3, .slice a4 r.letters.length k4, .slice a5 r.heard.length k5] 28 (0, 0)) := by rw [hX]; exact (heap_alloc_old _ _ (by simp)).trans (alloc_at _ _ rfl)
  have h1 : X.heap[w.heap.size + 1]? = some (.cells #[.int .i64 day, .int .i64 sec, .int .i64 who] 68 (0, 0)) := by rw [hX]; exact alloc_at _ _ (by simp)
  have HCELL : Hid (∀ V : World, Below X.heap.size X V → Below w.heap.size w V ∧ V.cell? ⟨w.heap.size, 0, none⟩ = some (.slice a1 r.writers.length k1) ∧ V.cell? ⟨w.heap.size, 1, none⟩ = some (.slice a2 r.kept.length k2) ∧ V.cell? ⟨w.heap.size, 2, none⟩ = some (.slice a3 r.leaks.length k3) ∧ V.cell? ⟨w.heap.size, 3, none⟩ = some (.slice a4 r.letters.length k4) ∧ V.cell? ⟨w.heap.size, 4, none⟩ = some (.slice a5 r.heard.length k5) ∧ V.cell? ⟨w.heap.size + 1, 0, none⟩ = some (.int .i64 day) ∧ V.cell? ⟨w.heap.size + 1, 1, none⟩ = some (.int .i64 sec) ∧ V.cell? ⟨w.heap.size + 1, 2, none⟩ = some (.int .i64 who) ∧ w.heap.size < V.heap.size ∧ w.heap.size + 1 < V.heap.size) := Lib.hid (fun V h => by
    have h0 := (h.block _ (lt_of_block h0)).trans h0
    have h1 := (h.block _ (lt_of_block h1)).trans h1
    exact ⟨hXb.trans (h.mono hXb.size), blk_cell 0 h0 rfl, blk_cell 1 h0 rfl, blk_cell 2 h0 rfl, blk_cell 3 h0 rfl, blk_cell 4 h0 rfl, blk_cell 0 h1 rfl, blk_cell 1 h1 rfl, blk_cell 2 h1 rfl, lt_of_block h0, lt_of_block h1⟩)
  clear h0 h1
  have KP := Lib.hid KP
  go_enter Try.func94, Try.ntmps94
  go_upto_region 2 with (fail)
  rw [← hX]
  clear hX
  go_wp2
  go_loopw [9] (fun i wr => ∃ n : Nat, n ≤ r.kept.length ∧ i = .int .i64 n ∧ Hid (((List.range n).all fun s => !(bitB sec s) || keepsB r [⟨day, sec, who⟩] T s) = true) ∧ Below X.heap.size X wr) (fun i _ => r.kept.length - (intOf i).toNat)
  case atStart => exact ⟨0, Nat.zero_le _, rfl, Lib.hid rfl, Below.refl _ _⟩
  case round =>
    obtain ⟨n, hn, rfl, HN, hB⟩ := hrel
    obtain ⟨hb0, x0, x1, x2, x3, x4, y0, y1, y2, z0, z1⟩ := HCELL.out wr hB
    by_cases hlt : n < r.kept.length
    · have HS := Lib.hid (rangeAll_succ (fun s => !(bitB sec s) || keepsB r [⟨day, sec, who⟩] T s) n)
      have HX := Lib.hid (fun h => rangeAll_not (fun s => !(bitB sec s) || keepsB r [⟨day, sec, who⟩] T s) hlt h)
      have B := Lib.hid (HB.out n (by omega))
      have K := KP.out n hlt wr.heap.size (wr.alloc (.cells #[.int .i64 day, .int .i64 sec, .int .i64 who] 68)) (hb0.alloc hb0.size _) (one_letter _ _ _ _ _)
      (try simp only at HS)
      (try simp only at HX)
      generalize bitB sec n = bt at B HS HX
      generalize keepsB r [⟨day, sec, who⟩] T n = kb at K HS HX
      have K := Lib.hid K
      have hnk : (n : Int) < r.kept.length := by omega
      cases bt
      · have hs2 := Lib.hid (show ((List.range (n + 1)).all fun s => !(bitB sec s) || keepsB r [⟨day, sec, who⟩] T s) = true from HS.out.trans (by rw [HN.out]; simp))
        go_wp2_with (go_at_call 53; go_must ((with_reducible refine (B.out _).mono ?_); rintro e w5 ⟨rfl, rfl⟩; dsimp only))
        go_roundw
        case rel => exact ⟨n + 1, by omega, by go_num, hs2, hB⟩
        case measure => simp [intOf]; omega
      · cases kb
        · have hr := Lib.hid (HF.out.trans (HX.out (by simp)))
          go_wp2_with (first
            | (go_at_call 50; (with_reducible refine K.out.mono ?_); rintro e w5 ⟨rfl, hb5⟩; dsimp only)
            | (go_at_call 53; (with_reducible refine (B.out _).mono ?_); rintro e w5 ⟨rfl, rfl⟩; dsimp only))
          go_ret
          exact ⟨ret_bool hr.out.symm, hb0.trans (((Below.refl _ _).alloc (Nat.le_refl _) _ |>.trans (hb5.mono (by simp))).mono hb0.size)⟩
        · have hs2 := Lib.hid (show ((List.range (n + 1)).all fun s => !(bitB sec s) || keepsB r [⟨day, sec, who⟩] T s) = true from HS.out.trans (by rw [HN.out]; simp))
          go_wp2_with (first
            | (go_at_call 50; (with_reducible refine K.out.mono ?_); rintro e w5 ⟨rfl, hb5⟩; dsimp only)
            | (go_at_call 53; (with_reducible refine (B.out _).mono ?_); rintro e w5 ⟨rfl, rfl⟩; dsimp only))
          go_roundw
          case rel => exact ⟨n + 1, by omega, by go_num, hs2, hB.trans (((Below.refl _ _).alloc (Nat.le_refl _) _ |>.trans (hb5.mono (by simp))).mono hB.size)⟩
          case measure => simp [intOf]; omega
    · obtain rfl : n = r.kept.length := by omega
      have hr := Lib.hid (HF.out.trans HN.out)
      go_wp2
      go_ret
      exact ⟨ret_bool hr.out.symm, hb0⟩
end Go.Proofs.Ytmhbjohpggghgaa
namespace Go.Proofs.Ytmhbjohpggghgaa
open Go Go.RowKit Go.Shelf

set_option maxRecDepth 100000 in
set_option maxHeartbeats 2000000 in
theorem RMay_any (a1 a2 a3 a4 a5 : Option Addr) (k1 k2 k3 k4 k5 : Nat) (r : SeRoom) (n : Int) (w : World) (hm : RoomC w a1 a2 a3 a4 a5 k1 k2 k3 k4 k5 r) :
    Calls Try.prog 29 #[(.agg #[.slice a1 r.writers.length k1, .slice a2 r.kept.length k2, .slice a3 r.leaks.length k3, .slice a4 r.letters.length k4, .slice a5 r.heard.length k5]), .int .i64 n] w fun e w' => ∃ v, e = .returned (.tuple #[v, .int .i64 (mayOf r n).2]) ∧ IntsV w' v (mayOf r n).1 ∧ Below w.heap.size w w' := by
  have HF : Hid (mayOf r n = if mayErr r n = 0 then (mayList r (seTruths r []) (letterAt r n.toNat), 0) else ([], mayErr r n)) := rfl
  have l4 := hm.ok4.len
  generalize mayOf r n = res at HF ⊢
  have hB0 := Below.refl (w.heap.size + 1) (w.alloc (.cells #[.slice a1 r.writers.length k1, .slice a2 r.kept.length k2, .slice a3 r.leaks.length k3, .slice a4 r.letters.length k4, .slice a5 r.heard.length k5] 28))
  obtain ⟨x0, x1, x2, x3, x4, z0⟩ := box_room hB0
  have C := Lib.hid (fun (W : World) (h : Below w.heap.size w W) => RIndex_any a1 a2 a3 a4 a5 k1 k2 k3 k4 k5 r n r.letters.length W (hm.mono h) (by omega) (by omega))
  have HV := Lib.hid (fun h : indexErr r n r.letters.length = 0 => index_zero h)
  have S := Lib.hid (fun (W : World) (h : Below w.heap.size w W) => RKnown_any a1 a2 a3 a4 a5 k1 k2 k3 k4 k5 r (indexErr r n r.letters.length) W (hm.mono h) HV.out)
  have HVV := Lib.hid (fun h : mayErr r n = 0 => index_valid (below := r.letters.length) h)
  have HTE : Hid (mayErr r n = knownErr r (indexErr r n r.letters.length)) := rfl
  rw [← HTE.out] at S
  generalize indexErr r n r.letters.length = x at C S
  clear HTE HV
  generalize mayErr r n = te at S HF HVV
  have hBd := below_drew' hB0
  by_cases h0 : te = 0
  · obtain ⟨hva, hn0, hn1⟩ := HVV.out h0
    obtain ⟨m, rfl⟩ : ∃ m : Nat, n = m := ⟨n.toNat, by omega⟩
    have vl := hva.nl
    have vw := hva.nw
    have hml : m < r.letters.length := by omega
    have hbd := truths_bd (r := r) []
    replace HF := Lib.hid (HF.out.trans (if_pos h0))
    simp only [Int.toNat_natCast] at HF
    have hx := letters_bd hva r.letters[m] (List.getElem_mem hml)
    have hle : letterAt r m = r.letters[m] := by unfold letterAt; rw [List.getElem?_eq_getElem hml]; rfl
    rw [hle] at HF
    have HLT := Lib.hid (fun (W : World) (h : Below w.heap.size w W) => (hm.mono h).letters m hml)
    generalize r.letters[m] = xx at HF hx HLT
    obtain ⟨day, sec, wri⟩ := xx
    simp only at hx HLT
    clear hle
    have h1 := nei_f h0
    have HER := Lib.hid h0
    clear h0 HVV
    generalize hT : seTruths r [] = T at hbd HF
    have HTT := Lib.hid hT
    clear hT
    obtain ⟨p, hp⟩ : ∃ p : Nat → Bool, p = fun (u : Nat) => canB r T ⟨day, sec, wri⟩ (u : Int) := ⟨_, rfl⟩
    have HML : Hid (mayList r T ⟨day, sec, wri⟩ = ((List.range r.writers.length).filter p).map fun (c : Nat) => (c : Int)) := Lib.hid (by rw [hp]; rfl)
    have HP := Lib.hid hp
    clear hp
    go_enter Try.func29, Try.ntmps29
    go_wp2
    go_region_held3 (fun V => Below (w.heap.size + 1) (w.alloc (.cells #[.slice a1 r.writers.length k1, .slice a2 r.kept.length k2, .slice a3 r.leaks.length k3, .slice a4 r.letters.length k4, .slice a5 r.heard.length k5] 28)) V ∧ V.cell? ⟨w.heap.size, 0, none⟩ = some (.slice a1 r.writers.length k1) ∧ V.cell? ⟨w.heap.size, 1, none⟩ = some (.slice a2 r.kept.length k2) ∧ V.cell? ⟨w.heap.size, 2, none⟩ = some (.slice a3 r.leaks.length k3) ∧ V.cell? ⟨w.heap.size, 3, none⟩ = some (.slice a4 r.letters.length k4) ∧ V.cell? ⟨w.heap.size, 4, none⟩ = some (.slice a5 r.heard.length k5) ∧ w.heap.size < V.heap.size) (exact room_keep (by assumption)) (first
      | (go_at_call 86; (with_reducible refine (C.out _ (box_old (And.left (by assumption)))).mono ?_); rintro e w2 ⟨rfl, hb⟩; have hB2 := room_next (And.left (by assumption)) hb; dsimp only)
      | (go_at_call 81; (with_reducible refine (S.out _ (box_old (And.left (by assumption)))).mono ?_); rintro e w3 ⟨v, rfl, hsv, hb3⟩; have hB3 := room_next (And.left (by assumption)) hb3; (have h5 := hsv.1 HER.out; rw [HTT.out] at h5; obtain ⟨a, c, rfl, hso, hrc⟩ := h5); dsimp only))
    have hB3' := hB3
    have hlT := hso.len
    clear x0 x1 x2 x3 x4 z0
    go_wp2
    go_loopw [8, 9] (fun o i wr => ∃ c : Nat, c ≤ r.writers.length ∧ i = .int .i64 c ∧ wr.ownsRow w3.heap.size 3 1 o (((List.range c).filter p).map (fun (c : Nat) => (c : Int))).length ((((List.range c).filter p).map (fun (c : Nat) => (c : Int))).map (Value.int .i64)) ∧ Below w3.heap.size w3 wr) (fun _ i _ => r.writers.length - (intOf i).toNat)
    case atStart => exact ⟨0, Nat.zero_le _, rfl, World.ownsRow_nil _ _ _ _, Below.refl _ _⟩
    case round =>
      obtain ⟨cc, hc, rfl, hown, hbw⟩ := hrel
      have hBW := room_next hB3' hbw
      have hbO := box_old hBW
      obtain ⟨x0, x1, x2, x3, x4, z0⟩ := box_room hBW
      by_cases hlt : cc < r.writers.length
      · have hst := Lib.hid (keep_succ p cc)
        have hkl := keep_len p cc
        generalize hL : ((List.range cc).filter p).map (fun (c : Nat) => (c : Int)) = L at hown hst hkl
        clear hL
        obtain ⟨b4, o4, ha4, hb4, y0, y1, y2⟩ := HLT.out wr hbO
        have CA := Lib.hid (fun V (h : Below wr.heap.size wr V) => RCan_any a1 a2 a3 a4 a5 k1 k2 k3 k4 k5 r a T c ⟨day, sec, wri⟩ (cc : Int) V (hm.mono (hbO.trans (h.mono hbO.size))) hva hx hso ((hrc.mono hbw).mono h) hbd)
        have hpc : canB r T ⟨day, sec, wri⟩ (cc : Int) = p cc := by rw [HP.out]
        rw [hpc] at CA
        clear hpc
        (try simp only at y0 y1 y2)
        generalize p cc = bp at hst CA
        rw [ha4] at x3
        have KE : Hid (∀ V, Below wr.heap.size wr V → (Below wr.heap.size wr V ∧ V.cell? ⟨w.heap.size, 0, none⟩ = some (.slice a1 r.writers.length k1) ∧ V.cell? ⟨w.heap.size, 1, none⟩ = some (.slice a2 r.kept.length k2) ∧ V.cell? ⟨w.heap.size, 2, none⟩ = some (.slice a3 r.leaks.length k3) ∧ V.cell? ⟨w.heap.size, 3, none⟩ = some (.slice (some ⟨b4, o4, none⟩) r.letters.length k4) ∧ V.cell? ⟨w.heap.size, 4, none⟩ = some (.slice a5 r.heard.length k5) ∧ V.cell? ⟨b4, o4 + m * 3, none⟩ = some (.int .i64 day) ∧ V.cell? ⟨b4, o4 + m * 3 + 1, none⟩ = some (.int .i64 sec) ∧ V.cell? ⟨b4, o4 + m * 3 + 2, none⟩ = some (.int .i64 wri) ∧ w.heap.size < V.heap.size ∧ b4 < V.heap.size)) := Lib.hid (fun V h => ⟨h, cell_below h x0, cell_below h x1, cell_below h x2, cell_below h x3, cell_below h x4, cell_below h y0, cell_below h y1, cell_below h y2, Nat.lt_of_lt_of_le z0 h.size, Nat.lt_of_lt_of_le hb4 h.size⟩)
        have HM2 := Lib.hid hm
        clear hm HLT C S
        subst ha4
        have hmi : (m : Int) < r.letters.length := by omega
        have hci : (cc : Int) < r.writers.length := by omega
        go_upto_region 8 with (fail)
        apply wp_mid _ (fun V => Below wr.heap.size wr V)
        · have hg0 : Below wr.heap.size wr wr.drew := below_drew' (Below.refl _ _)
          go_region_held3 (fun V => Below wr.heap.size wr V ∧ V.cell? ⟨w.heap.size, 0, none⟩ = some (.slice a1 r.writers.length k1) ∧ V.cell? ⟨w.heap.size, 1, none⟩ = some (.slice a2 r.kept.length k2) ∧ V.cell? ⟨w.heap.size, 2, none⟩ = some (.slice a3 r.leaks.length k3) ∧ V.cell? ⟨w.heap.size, 3, none⟩ = some (.slice (some ⟨b4, o4, none⟩) r.letters.length k4) ∧ V.cell? ⟨w.heap.size, 4, none⟩ = some (.slice a5 r.heard.length k5) ∧ V.cell? ⟨b4, o4 + m * 3, none⟩ = some (.int .i64 day) ∧ V.cell? ⟨b4, o4 + m * 3 + 1, none⟩ = some (.int .i64 sec) ∧ V.cell? ⟨b4, o4 + m * 3 + 2, none⟩ = some (.int .i64 wri) ∧ w.heap.size < V.heap.size ∧ b4 < V.heap.size) (first | exact KE.out _ hg0 | exact KE.out _ hg1) (first
            | (go_at_call 94; (with_reducible refine (CA.out _ (And.left (by assumption))).mono ?_); rintro e w4 ⟨rfl, hgs⟩; have hg1 := hg0.trans (hgs.mono hg0.size); dsimp only))
          exact ⟨rfl, hg1⟩
        intro V hgV
        have hbV := hbw.trans (hgV.mono hbw.size)
        have hownV := own_below hown hgV
        have hzV := hbV.size
        cases bp
        · go_wp2
          go_roundw
          case rel => exact ⟨cc + 1, by omega, by go_num, by rw [hst.out]; simpa using hownV, hbV⟩
          case measure => simp [intOf]; omega
        · go_wp2_with (at_builtin; go_must (refine wpList_app (.tmp 40) (.tmp 42) E_int rfl rfl rfl rfl w3.heap.size L.length 1 (L.map (Value.int .i64)) [.int .i64 (cc : Int)] (hownV.alloc _) (SrcAt.one _ _ _ rfl) (by omega) (by decide) (by simp; omega) ?_; intro v2 w6 ho2 hg2 _; (have hb6 := app_next hbV (Nat.le_refl _) (Nat.le_refl _) hownV hg2); clear hg2; simp only [Act.put, List.setIfInBounds_toArray, List.set_cons_succ, List.set_cons_zero]))
          go_roundw
          case rel => exact ⟨cc + 1, by omega, by go_num, by rw [hst.out]; simpa using ho2, hb6⟩
          case measure => simp [intOf]; omega
      · obtain rfl : cc = r.writers.length := by omega
        rw [HML.out] at HF
        go_wp2
        go_ret2
        have hr := HF.out
        subst hr
        exact ⟨_, rfl, ints_ownV hown, hbO⟩
  · have h1 := nei_t h0
    replace HF := Lib.hid (HF.out.trans (if_neg h0))
    go_enter Try.func29, Try.ntmps29
    go_wp2
    go_region_held3 (fun V => Below (w.heap.size + 1) (w.alloc (.cells #[.slice a1 r.writers.length k1, .slice a2 r.kept.length k2, .slice a3 r.leaks.length k3, .slice a4 r.letters.length k4, .slice a5 r.heard.length k5] 28)) V ∧ V.cell? ⟨w.heap.size, 0, none⟩ = some (.slice a1 r.writers.length k1) ∧ V.cell? ⟨w.heap.size, 1, none⟩ = some (.slice a2 r.kept.length k2) ∧ V.cell? ⟨w.heap.size, 2, none⟩ = some (.slice a3 r.leaks.length k3) ∧ V.cell? ⟨w.heap.size, 3, none⟩ = some (.slice a4 r.letters.length k4) ∧ V.cell? ⟨w.heap.size, 4, none⟩ = some (.slice a5 r.heard.length k5) ∧ w.heap.size < V.heap.size) (exact room_keep (by assumption)) (first
      | (go_at_call 86; (with_reducible refine (C.out _ (box_old (And.left (by assumption)))).mono ?_); rintro e w2 ⟨rfl, hb⟩; have hB2 := room_next (And.left (by assumption)) hb; dsimp only)
      | (go_at_call 81; (with_reducible refine (S.out _ (box_old (And.left (by assumption)))).mono ?_); rintro e w3 ⟨v, rfl, hsv, hb3⟩; have hB3 := room_next (And.left (by assumption)) hb3; dsimp only))
    go_wp2
    go_ret2
    have hr := HF.out
    subst hr
    exact ⟨_, rfl, ⟨none, 0, rfl, ⟨by simp, by omega, fun _ => rfl⟩, IntsC.nil _ _⟩, box_old hB3⟩
end Go.Proofs.Ytmhbjohpggghgaa
namespace Go.Proofs.Ytmhbjohpggghgaa
open Go Go.RowKit Go.Shelf

theorem map_take {α β : Type} (f : α → β) (L : List α) (j : Nat) (h : j < L.length) : (L.take (j + 1)).map f = (L.take j).map f ++ [f L[j]] := by
  rw [List.take_succ_eq_append_getElem h, List.map_append]; rfl
/-- A fresh row lies apart. -/
theorem new_apart {W w : World} {base B : Nat} {e : TypeId} {v : Value} {n : Nat} {vs : List Value} {a : Option Addr} {t : List Int} (h : IntsC w a t) (hB : ∀ ad, a = some ad → B ≤ ad.block) (hW : W.heap.size ≤ B) (hown : W.ownsRow base e 1 v n vs) : 0 < t.length → ∀ ad, a = some ad → ad.block < w.heap.size ∧ some ad.block ≠ v.ownBlock := fun hn ad e => by
  obtain ⟨b, off, e2, hlt, _⟩ := h 0 hn
  have h3 := hB ad e
  rw [e2] at e
  cases e
  refine ⟨hlt, fun e' => ?_⟩
  have h4 := (hown.lt b e'.symm).2
  simp only at h3
  omega
set_option maxRecDepth 100000 in
set_option maxHeartbeats 2000000 in
theorem RLess_any (ra ab : Option Addr) (T : List (List Int)) (but : List Int) (rc cb : Nat) (w : World) (hro : SlOk ra T.length rc) (hrc : RowsC w ra T) (hfew : T.length ≤ 16) (hsh : ∀ t ∈ T, t.length ≤ 4) (hsb : SlOk ab but.length cb) (hib : IntsC w ab but) :
    Calls Try.prog 52 #[.slice ra T.length rc, .slice ab but.length cb] w fun e w' => ∃ v, e = .returned v ∧ RowsV w' v (lessOf T but) ∧ Below w.heap.size w w' := by
  have HL : Hid (lessOf T but = T.map fun t => t.filter fun x => !hasB but x) := rfl
  generalize lessOf T but = res at HL ⊢
  obtain ⟨f, hf⟩ : ∃ f : List Int → List Int, f = fun t => t.filter fun x => !hasB but x := ⟨_, rfl⟩
  rw [← hf] at HL
  have HFF := Lib.hid hf
  clear hf
  have HA := Lib.hid (fun V (h : Below w.heap.size w V) n => Has_any ab but cb n V hsb.len (hib.mono h))
  go_enter Try.func52, Try.ntmps52
  go_wp2
  go_loopw [5, 6] (fun v i wr => ∃ j : Nat, j ≤ T.length ∧ i = .int .i64 j ∧ OwnR wr w.heap.size 23 v ((T.take j).map f) ∧ Below w.heap.size w wr) (fun _ i _ => T.length - (intOf i).toNat)
  case atStart => exact ⟨0, Nat.zero_le _, rfl, by simpa using OwnR.nil _ _ _, Below.refl _ _⟩
  case round =>
    obtain ⟨j, hj, rfl, hown, hbw⟩ := hrel
    obtain ⟨wa, hwa⟩ : ∃ wa : World, wa = wr := ⟨_, rfl⟩
    subst hwa
    by_cases hlt : j < T.length
    · obtain ⟨b, off, a', c', rfl, hbl, hcell, hsl, hints⟩ := (hrc.mono hbw) j hlt
      have htk := Lib.hid (map_take f T j hlt)
      have hl4 := hsh T[j] (List.getElem_mem hlt)
      have hcN : ((T.take j).map f).length ≤ 16 := by rw [List.length_map, List.length_take]; omega
      generalize T[j] = t at hcell hsl hints htk hl4
      generalize (T.take j).map f = N at *
      have hFT : Hid (f t = t.filter fun x => !hasB but x) := Lib.hid (by rw [HFF.out])
      generalize f t = ft at htk hFT
      have hjT : (j : Int) < T.length := by omega
      go_wp2
      go_loopw [7, 8] (fun o i wr => ∃ n : Nat, n ≤ t.length ∧ i = .int .i64 n ∧ wr.ownsRow wa.heap.size 3 1 o ((t.take n).filter fun x => !hasB but x).length (((t.take n).filter fun x => !hasB but x).map (Value.int .i64)) ∧ Below wa.heap.size wa wr) (fun _ i _ => t.length - (intOf i).toNat)
      case atStart => exact ⟨0, Nat.zero_le _, rfl, by simpa using World.ownsRow_nil _ _ _ _, Below.refl _ _⟩
      case round =>
        obtain ⟨n, hn, rfl, hio, hb2⟩ := hrel
        have hbV := hbw.trans (hb2.mono hbw.size)
        have hz2 := hb2.size
        have hz3 := hbV.size
        have hc2 := cell_below hb2 hcell
        have hzb : b < wr.heap.size := Nat.lt_of_lt_of_le hbl hb2.size
        have hi2 := hints.mono hb2
        by_cases hnl : n < t.length
        · obtain ⟨b6, o6, ha6, hb6, hx1⟩ := hi2 n hnl
          have hst := Lib.hid (filter_take (fun x => !hasB but x) t n hnl)
          have hlL : ((t.take n).filter fun x => !hasB but x).length ≤ 4 := Nat.le_trans (List.length_filter_le _ _) (by rw [List.length_take]; omega)
          generalize t[n] = x at hx1 hst
          generalize ((t.take n).filter fun x => !hasB but x) = l at hio hst hlL
          have A := HA.out wr hbV x
          (try simp only at hst)
          generalize hasB but x = hb at A hst
          have A := Lib.hid A
          rw [ha6] at hc2
          have HH := Lib.hid ha6
          clear ha6
          have hnt : (n : Int) < t.length := by omega
          cases hb
          · go_wp2_with (first
              | (at_builtin; go_must (refine wpList_app (.tmp 34) (.tmp 42) E_int rfl rfl rfl rfl wa.heap.size l.length 1 (l.map (Value.int .i64)) [.int .i64 x] (hio.alloc _) (SrcAt.one _ _ _ rfl) (by omega) (by decide) (by simp; omega) ?_; intro v2 w6 ho2 hg2 _; (have hb7 := app_next hb2 (Nat.le_refl _) (Nat.le_refl _) hio hg2); clear hg2; simp only [Act.put, List.setIfInBounds_toArray, List.set_cons_succ, List.set_cons_zero]))
              | (go_at_call 39; (with_reducible refine A.out.mono ?_); rintro e w5 ⟨rfl, hw5⟩; obtain rfl := hw5.symm; dsimp only))
            go_roundw
            case rel => exact ⟨n + 1, by omega, by go_num, by rw [hst.out]; simpa using ho2, hb7⟩
            case measure => simp [intOf]; omega
          · go_wp2_with (go_at_call 39; (with_reducible refine A.out.mono ?_); rintro e w5 ⟨rfl, hw5⟩; obtain rfl := hw5.symm; dsimp only)
            go_roundw
            case rel => exact ⟨n + 1, by omega, by go_num, by rw [hst.out]; simpa using hio, hb2⟩
            case measure => simp [intOf]; omega
        · obtain rfl : n = t.length := by omega
          rw [List.take_length, ← hFT.out] at hio
          obtain ⟨a5, c5, rfl, hs5, hi5, hB5⟩ := ints_ownN hio
          obtain ⟨vs, hvs1, hvs2⟩ := hown
          go_wp2_with (at_builtin; go_must (refine wpList_app (.tmp 44) (.tmp 46) E_ints rfl rfl rfl rfl w.heap.size N.length 1 vs [.slice a5 ft.length c5] ((own_below hvs1 hb2).alloc _) (SrcAt.one _ _ _ rfl) (by omega) (by decide) (by simp; omega) ?_; intro v3 w3 ho3 hg3 hv3; (have hp := OwnR.push (w := wa) (w1 := wr) (t := ft) hvs1 hvs2 hb2 hi5 hs5 (new_apart hi5 hB5 (Nat.le_refl _) hvs1) (by simpa using ho3) hg3 hv3); (have hb3 := app_next hbV (Nat.le_refl _) (Nat.le_refl _) (own_below hvs1 hb2) hg3); clear ho3 hg3 hv3; simp only [Act.put, List.setIfInBounds_toArray, List.set_cons_succ, List.set_cons_zero]))
          go_roundw
          case rel => exact ⟨j + 1, by omega, by go_num, by rw [htk.out]; exact hp, hb3⟩
          case measure => simp [intOf]; omega
    · obtain rfl : j = T.length := by omega
      rw [List.take_length, ← HL.out] at hown
      go_wp2
      go_ret
      exact ⟨_, rfl, hown.rows, hbw⟩
end Go.Proofs.Ytmhbjohpggghgaa
namespace Go.Proofs.Ytmhbjohpggghgaa
open Go Go.RowKit Go.Shelf

set_option maxHeartbeats 1000000 in
theorem RWaiting_any (a : Option Addr) (p : List Int) (c : Nat) (w : World) (hs : SlOk a p.length c) (hi : IntsC w a p) :
    Calls Try.prog 48 #[.slice a p.length c] w fun e w' => e = .returned (.int .i64 (waitingOf p : Int)) ∧ w' = w := by
  have hl := hs.len
  have HW : Hid (waitingOf p = p.countP fun w => decide (w = -1)) := rfl
  generalize waitingOf p = res at HW ⊢
  have HLE := Lib.hid (fun j => countP_take_le (fun w => decide (w = (-1 : Int))) p j)
  go_enter Try.func48, Try.ntmps48
  go_wp2
  go_loop [3, 4] (fun m i => ∃ j n : Nat, j ≤ p.length ∧ i = .int .i64 j ∧ m = .int .i64 n ∧ Hid (n = (p.take j).countP fun w => decide (w = -1))) (fun _ i => p.length - (intOf i).toNat)
  case atStart => exact ⟨0, 0, Nat.zero_le _, rfl, rfl, Lib.hid (by simp)⟩
  case round =>
    obtain ⟨j, n, hj, rfl, rfl, HN⟩ := hrel
    by_cases hlt : j < p.length
    · obtain ⟨b, off, rfl, hb, hx⟩ := hi j hlt
      have hst := Lib.hid (countP_take (fun w => decide (w = (-1 : Int))) p j hlt)
      have hle := HLE.out (j + 1)
      rw [hst.out] at hle
      generalize p[j] = x at hx hst hle
      have hji : (j : Int) < p.length := by omega
      rw [← HN.out] at hle
      by_cases h1 : x = -1
      · have g1 := eqi_t h1
        have hs2 := Lib.hid (hst.out.trans (by simp [h1]) : _ = ((p.take j).countP fun w => decide (w = -1)) + 1)
        have hle2 : n + 1 ≤ p.length := by simpa [h1] using hle
        clear h1 hle
        go_wp2
        go_round
        case rel => exact ⟨j + 1, n + 1, by omega, by go_num, by go_num, Lib.hid (by rw [hs2.out, HN.out])⟩
        case measure => simp [intOf]; omega
      · have g1 := eqi_f h1
        have hs2 := Lib.hid (hst.out.trans (by simp [h1]) : _ = (p.take j).countP fun w => decide (w = -1))
        clear h1 hle
        go_wp2
        go_round
        case rel => exact ⟨j + 1, n, by omega, by go_num, rfl, Lib.hid (HN.out.trans hs2.out.symm)⟩
        case measure => simp [intOf]; omega
    · obtain rfl : j = p.length := by omega
      have hr := Lib.hid (show n = res by rw [HN.out, List.take_length, HW.out])
      go_wp2
      go_ret
      exact ⟨ret_int (by rw [hr.out]), rfl⟩
end Go.Proofs.Ytmhbjohpggghgaa
