/- What is proved here: the walk of SecretKept: it returns true, and turns nothing that was there. Conditions: the room lies in memory. -/
import Derived.Test.YtmhbjohpggghgaaSwB
import Derived.Test.YtmhbjohpggghgaaSeBytes
import Derived.Test.YtmhbjohpggghgaaSw3
set_option linter.unusedVariables false
set_option linter.unusedSimpArgs false
namespace Go.Proofs.Ytmhbjohpggghgaa
open Go Go.RowKit
/-- The writer of a letter in another plan, by turns. -/
def otherAt (r : SeRoom) (lb : List Int) (i : Nat) : Int := if (letterAt r i).writer = -1 ∧ 0 < lb.length then (lb[i % lb.length]?.getD 0) % ((r.writers.length : Int) + 1) - 1 else (letterAt r i).writer
def otherTo (r : SeRoom) (lb : List Int) : Nat → List Int
  | 0 => []
  | k + 1 => otherTo r lb k ++ [otherAt r lb k]
theorem otherTo_len (r : SeRoom) (lb : List Int) : ∀ k, (otherTo r lb k).length = k
  | 0 => rfl
  | k + 1 => by rw [otherTo, List.length_append, otherTo_len r lb k]; rfl
theorem other_own {r : SeRoom} {lb : List Int} {i : Nat} (hi : i < r.letters.length) (h : r.letters[i].writer ≠ -1 ∨ lb.length = 0) : otherAt r lb i = r.letters[i].writer := by
  unfold otherAt letterAt
  rw [List.getElem?_eq_getElem hi, Option.getD_some, if_neg (by omega)]
theorem other_new {r : SeRoom} {lb : List Int} {i : Nat} (hi : i < r.letters.length) (h : r.letters[i].writer = -1) (hl : i % lb.length < lb.length) : otherAt r lb i = lb[i % lb.length] % ((r.writers.length : Int) + 1) - 1 := by
  unfold otherAt letterAt
  rw [List.getElem?_eq_getElem hi, Option.getD_some, if_pos (by omega), List.getElem?_eq_getElem hl, Option.getD_some]
theorem letters_setw (l : List SeLetter) (i : Nat) (h : i < l.length) (v : Int) : (flatC letterCells l).set (i * 3 + 2) (.int .i64 v) = flatC letterCells (l.modify i fun x => { x with writer := v }) := by
  induction l generalizing i with
  | nil => simp at h
  | cons y l ih =>
    show (.int .i64 y.day :: .int .i64 y.secrets :: .int .i64 y.writer :: flatC letterCells l : List Value).set (i * 3 + 2) _ = _
    cases i with
    | zero => rfl
    | succ i =>
      have := ih i (by simpa using h)
      rw [show (i + 1) * 3 + 2 = i * 3 + 2 + 3 from by omega]
      simp only [List.set_cons_succ, this]
      rfl
theorem writtenTo_zero (r : SeRoom) (p : List Int) : writtenTo r p 0 = r.letters := by
  apply List.ext_getElem
  · simp [writtenTo]
  · intro i h1 h2; simp [writtenTo]
theorem writtenTo_succ (r : SeRoom) (p : List Int) (k : Nat) : writtenTo r p (k + 1) = (writtenTo r p k).modify k fun x => { x with writer := p[k]?.getD 0 } := by
  apply List.ext_getElem
  · simp [writtenTo]
  · intro i h1 h2
    have hi : i < r.letters.length := by simpa [writtenTo] using h1
    rw [List.getElem_modify]
    by_cases e : k = i
    · subst e; simp [writtenTo]
    · rw [if_neg e]
      by_cases hk : i < k
      · simp [writtenTo, hk, show i < k + 1 by omega]
      · simp [writtenTo, hk, show ¬ i < k + 1 by omega]
theorem written_bd {r : SeRoom} (hv : SeValid r) (p : List Int) (k : Nat) : ∀ x ∈ writtenTo r p k, 0 ≤ x.day ∧ x.day ≤ 10 ∧ 0 ≤ x.secrets ∧ x.secrets ≤ 8 := fun x hx => by
  obtain ⟨i, hi, rfl⟩ := List.getElem_of_mem hx
  have hi2 : i < r.letters.length := by rw [writtenTo_len] at hi; exact hi
  have hb := letters_bd hv _ (List.getElem_mem hi2)
  have e := writtenTo_at r p k i hi2
  rw [e]
  split <;> exact hb
theorem rows_one {W : World} {a : Option Addr} {l : List Int} {c : Nat} (e : TypeId) (h : SlOk a l.length c) (hi : IntsC W a l) : RowsC (W.alloc (.cells #[.slice a l.length c] e)) (some ⟨W.heap.size, 0, none⟩) [l] := fun i hlt => by
  have : i = 0 := by simp at hlt; omega
  subst this
  exact ⟨W.heap.size, 0, a, c, rfl, by simp, blk_cell 0 (alloc_at _ _ rfl) rfl, h, hi.mono (al_on _ _)⟩
theorem wrap64_small (n : Int) (h1 : -1000 ≤ n) (h2 : n ≤ 1000) : wrap64 n = n := by unfold wrap64; omega
theorem Before_is (a b : Option Addr) (l m : List Int) (c d : Nat) (q : Bool) (w : World) (hq : planBefore l m = q) (hl : l.length ≤ 9223372036854775807) (hm : m.length ≤ 9223372036854775807) (hi : IntsC w a l) (hj : IntsC w b m) :
    Calls Try.prog 49 #[.slice a l.length c, .slice b m.length d] w fun e w' => e = .returned (.bool q) ∧ Below w.heap.size w w' := by
  have C := RBefore_any a b l m c d w hl hm hi hj
  rw [hq] at C
  exact C.mono fun e w' ⟨h1, n, h2⟩ => ⟨h1, by rw [h2]; exact below_draws _ _ n⟩
theorem Waiting_is (a : Option Addr) (p : List Int) (c : Nat) (n : Int) (w : World) (hn : (waitingOf p : Int) = n) (hs : SlOk a p.length c) (hi : IntsC w a p) : Calls Try.prog 48 #[.slice a p.length c] w fun e w' => e = .returned (.int .i64 n) ∧ w = w' := by
  have C := RWaiting_any a p c w hs hi
  rw [hn] at C
  exact C.mono fun e w' h => ⟨h.1, h.2.symm⟩
set_option maxRecDepth 100000 in
set_option maxHeartbeats 16000000 in
theorem SecretKept_walk (a1 a2 a3 a4 a5 : Option Addr) (k1 k2 k3 k4 k5 : Nat) (r : SeRoom) (ab : Option Addr) (lb : List Int) (cb x0 : Nat) (g0 : x0 ≤ 255) (w : World) (hm : RoomC w a1 a2 a3 a4 a5 k1 k2 k3 k4 k5 r) (ob : SlOk ab lb.length cb) (ib : BytesC w ab lb) (bb : ∀ x ∈ lb, 0 ≤ x ∧ x ≤ 255) : Calls Try.prog 10 #[(.agg #[.slice a1 r.writers.length k1, .slice a2 r.kept.length k2, .slice a3 r.leaks.length k3, .slice a4 r.letters.length k4, .slice a5 r.heard.length k5]), .agg #[.slice ab lb.length cb, .int .u8 (x0 : Int)]] w fun e w' => e = .returned (.bool true) ∧ Below w.heap.size w w' := by
  obtain ⟨X, hX⟩ : ∃ X : World, X = ((w.alloc (.cells #[.slice a1 r.writers.length k1, .slice a2 r.kept.length k2, .slice a3 r.leaks.length k3, .slice a4 r.letters.length k4, .slice a5 r.heard.length k5] 28)).alloc (.cells #[.slice ab lb.length cb, .int .u8 (x0 : Int)] 64)) := ⟨_, rfl⟩
  have hwX : Below w.heap.size w X := by rw [hX]; exact (by (repeat' (first | assumption | exact Below.refl _ _ | refine below_drew' ?_ | refine Below.setCell ?_ (by first | omega | (simp <;> omega)) _ | refine Below.alloc ?_ (by first | omega | (simp <;> omega)) _)))
  have g1 : X.heap[w.heap.size]? = some (.cells #[.slice a1 r.writers.length k1, .slice a2 r.kept.length k2, .slice a3 r.leaks.length k3, .slice a4 r.letters.length k4, .slice a5 r.heard.length k5] 28 (0, 0)) := by rw [hX]; (repeat' (first | exact alloc_at _ _ (by simp) | refine (heap_alloc_old _ _ (by first | omega | (simp <;> omega))).trans ?_))
  have g2 : X.heap[w.heap.size + 1]? = some (.cells #[.slice ab lb.length cb, .int .u8 (x0 : Int)] 64 (0, 0)) := by rw [hX]; (repeat' (first | exact alloc_at _ _ (by simp) | refine (heap_alloc_old _ _ (by first | omega | (simp <;> omega))).trans ?_))
  replace g1 := fun (V : World) (h : Below X.heap.size X V) => (h.block _ (lt_of_block g1)).trans g1
  replace g2 := fun (V : World) (h : Below X.heap.size X V) => (h.block _ (lt_of_block g2)).trans g2
  have HC : Hid (∀ V, Below X.heap.size X V → (V.cell? ⟨w.heap.size, 0, none⟩ = some (.slice a1 r.writers.length k1) ∧ V.cell? ⟨w.heap.size, 1, none⟩ = some (.slice a2 r.kept.length k2) ∧ V.cell? ⟨w.heap.size, 2, none⟩ = some (.slice a3 r.leaks.length k3) ∧ V.cell? ⟨w.heap.size, 3, none⟩ = some (.slice a4 r.letters.length k4) ∧ V.cell? ⟨w.heap.size, 4, none⟩ = some (.slice a5 r.heard.length k5) ∧ V.cell? ⟨w.heap.size + 1, 0, none⟩ = some (.slice ab lb.length cb) ∧ V.cell? ⟨w.heap.size + 1, 1, none⟩ = some (.int .u8 (x0 : Int)) ∧ w.heap.size < V.heap.size ∧ w.heap.size + 1 < V.heap.size)) := Lib.hid (fun V h => ⟨blk_cell 0 (g1 V h) rfl, blk_cell 1 (g1 V h) rfl, blk_cell 2 (g1 V h) rfl, blk_cell 3 (g1 V h) rfl, blk_cell 4 (g1 V h) rfl, blk_cell 0 (g2 V h) rfl, blk_cell 1 (g2 V h) rfl, lt_of_block (g1 V h), lt_of_block (g2 V h)⟩)
  have M := Lib.hid (fun (V : World) (h : Below X.heap.size X V) => (hm.mono hwX).mono h)
  clear g1 g2
  have hQ := Below.refl X.heap.size X
  have hx := HC.out _ hQ
  by_cases hs : someB r = true
  · have hv := seValid_of (someB_iff.1 hs).1
    have hTpos := (someB_iff.1 hs).2
    have hbd := truths_bd (r := r) []
    have hfew := truths_few hv []
    have TR := fun (W : World) (h : RoomC W a1 a2 a3 a4 a5 k1 k2 k3 k4 k5 r) => RTruths_any a1 a2 a3 a4 a5 k1 k2 k3 k4 k5 r none [] 0 W h hv ⟨by simp, by omega, fun _ => rfl⟩ (IntsC.nil _ _)
    rw [List.length_nil] at TR
    have FT := fun (aT pa : Option Addr) (cT pc : Nat) (p : List Int) (W : World) (h : RoomC W a1 a2 a3 a4 a5 k1 k2 k3 k4 k5 r) (h1 : SlOk aT (seTruths r []).length cT) (h2 : RowsC W aT (seTruths r [])) (h3 : SlOk pa p.length pc) (h4 : IntsC W pa p) => RFits_any a1 a2 a3 a4 a5 k1 k2 k3 k4 k5 r aT pa (seTruths r []) p cT pc W h hv h1 h2 hbd h3 h4
    have PL := plan_is hs
    have KP : ∀ (ar al : Option Addr) (cr lc s : Nat) (p t : List Int) (hf : fitsB r (seTruths r []) p = true) (W : World) (h : RoomC W a1 a2 a3 a4 a5 k1 k2 k3 k4 k5 r) (h1 : SlOk al r.letters.length lc) (h2 : LettersC W al (writtenTo r p r.letters.length)) (h3 : SlOk ar 1 cr) (h4 : RowsC W ar [t]) (ht : t ∈ seTruths r []) (hsl : s < r.kept.length), Calls Try.prog 50 #[(.agg #[.slice a1 r.writers.length k1, .slice a2 r.kept.length k2, .slice a3 r.leaks.length k3, .slice a4 r.letters.length k4, .slice a5 r.heard.length k5]), .slice al r.letters.length lc, .slice ar 1 cr, .int .i64 (s : Int)] W fun e w' => e = .returned (.bool true) ∧ Below W.heap.size W w' := fun ar al cr lc s p t hf W h h1 h2 h3 h4 ht hsl => by
      have e := writtenTo_len r p r.letters.length
      have C := RKeeps_any a1 a2 a3 a4 a5 k1 k2 k3 k4 k5 r al ar (writtenTo r p r.letters.length) [t] lc cr s W h hv (by rw [e]; exact h1) h2 (written_bd hv p _) h3 h4 (fun t' ht' => by have e : t' = t := (by simpa using ht'); rw [e]; exact hbd t ht) hsl
      rw [kept_written hf ht hsl, e] at C
      exact C
    have OL := Lib.hid (otherTo_len r lb)
    have O1 := Lib.hid (fun (i : Nat) (hi : i < r.letters.length) => other_own (r := r) (lb := lb) hi)
    have O2 := Lib.hid (fun (i : Nat) (hi : i < r.letters.length) => other_new (r := r) (lb := lb) hi)
    have l1 := hm.ok1.len
    have l2 := hm.ok2.len
    have l4 := hm.ok4.len
    have lbl := ob.len
    have n1 := hv.nw
    have n4 := hv.nt
    have hws := hm.ok1
    clear hv hbd
    generalize seTruths r [] = T at TR FT PL KP hfew hTpos
    generalize fitsB r T = F at FT PL KP
    replace TR := Lib.hid TR
    replace FT := Lib.hid FT
    replace KP := Lib.hid KP
    replace hs := Lib.hid hs
    replace bb := Lib.hid bb
    rcases PL with ⟨p, e1, hf, hpl, hbest⟩ | ⟨e1, hno⟩
    · replace e1 := Lib.hid e1
      have hpk := Lib.hid hpl
      have hpl4 : p.length ≤ 4 := by omega
      clear hpl
      replace hbest := Lib.hid (hbest (otherTo r lb r.letters.length))
      go_enter Try.func10, Try.ntmps10
      go_upto_region 1 with (fail)
      rw [← hX]
      clear hX
      go_wp2_with (first
        | (go_at_call 46; (with_reducible refine (TR.out _ (M.out _ hQ)).mono ?_); rintro e w4 ⟨v, rfl, ⟨aT, cT, rfl, oT, rT⟩, hb⟩; replace i1 := i1.mono hb; replace hQ := q_on hQ hb; replace hx := HC.out _ hQ; dsimp only)
        | (go_at_call 43; (with_reducible refine (Some_is _ _ _ _ _ _ _ _ _ _ r true hs.out _ (M.out _ hQ)).mono ?_); rintro e w3 ⟨rfl, hb⟩; replace i1 := i1.mono hb; replace hQ := q_on hQ hb; replace hx := HC.out _ hQ; dsimp only)
        | (go_at_call 30; (with_reducible refine (A_Plan _ _ _ _ _ _ _ _ _ _ r p (waitingOf p : Int) 0 e1.out _ (M.out _ hQ)).mono ?_); rintro e w2 ⟨b1, c1, rfl, o1, i1, hb⟩; replace hQ := q_on hQ hb; replace hx := HC.out _ hQ; dsimp only))
      go_loopw [9, 10, 11] (fun o i v wq => ∃ k : Nat, k ≤ r.letters.length ∧ i = .int .i64 k ∧ wq.ownsRow w4.heap.size 3 1 o (otherTo r lb k).length ((otherTo r lb k).map (Value.int .i64)) ∧ Below w4.heap.size w4 wq) (fun _ i _ _ => r.letters.length - (intOf i).toNat)
      case atStart => exact ⟨0, Nat.zero_le _, rfl, World.ownsRow_nil _ _ _ _, Below.refl _ _⟩
      case round =>
        obtain ⟨k, hk, rfl, hown, hB⟩ := hrel
        have hBz := hB.size
        have hQ5 := q_on hQ hB
        have hx := HC.out _ hQ5
        by_cases hlt : k < r.letters.length
        · have hlk := OL.out k
          have hstep : Hid (otherTo r lb (k + 1) = otherTo r lb k ++ [otherAt r lb k]) := Lib.hid rfl
          have h1 := O1.out k hlt
          have h2 := O2.out k hlt
          obtain ⟨bt, ot, rfl, hbt, c1, c2, c3⟩ := hm.letters k hlt
          have hwr := hwX.trans (hQ5.mono hwX.size)
          have c3' := cell_below hwr c3
          have hbt2 := lt_of_cell c3'
          have hk2 : (k : Int) < (r.letters.length : Int) := by omega
          generalize r.letters[k].writer = wri at h1 h2 c3 c3'
          generalize hL2 : otherTo r lb (k + 1) = L2 at hstep
          replace hL2 := Lib.hid hL2
          generalize otherTo r lb k = L at hown hlk hstep
          generalize otherAt r lb k = v at hstep h1 h2
          by_cases hw : wri = -1
          · subst hw
            by_cases hz : lb.length = 0
            · obtain rfl := h1 (.inr hz)
              have q1 : decide ((0 : Int) < (lb.length : Int)) = false := decide_eq_false (by omega)
              have q2 : decide (0 < lb.length) = false := decide_eq_false (by omega)
              clear h1 h2 hz
              go_wp2_with (at_builtin; go_must (refine wpList_app (.tmp 80) (.tmp 82) E_int rfl rfl rfl rfl w4.heap.size L.length 1 (L.map (Value.int .i64)) [.int .i64 (-1)] (hown.alloc _) (SrcAt.one _ _ _ rfl) (by omega) (by decide) (by simp; omega) ?_; intro v2 w8 ho2 hg2 _; (have hb2 := app_next hB (Nat.le_refl _) (Nat.le_refl _) hown hg2); clear hg2; simp only [Act.put, List.setIfInBounds_toArray, List.set_cons_succ, List.set_cons_zero]))
              go_roundw
              case rel => exact ⟨k + 1, by omega, by go_num, by rw [hL2.out, hstep.out]; simpa using ho2, hb2⟩
              case measure => simp [intOf]; omega
            · have hj : k % lb.length < lb.length := Nat.mod_lt _ (by omega)
              have e := h2 rfl hj
              obtain ⟨bb2, ob2, rfl, hbb, cb2, hy0, hy9⟩ := ib _ hj
              have cb3 := cell_below hwr cb2
              have hbb2 := lt_of_cell cb3
              generalize lb[k % lb.length] = y at cb2 cb3 e hy0 hy9
              obtain ⟨yn, rfl⟩ : ∃ yn : Nat, y = (yn : Int) := ⟨y.toNat, (Int.toNat_of_nonneg hy0).symm⟩
              replace e := Lib.hid e
              have q3 : decide ((0 : Int) < (lb.length : Int)) = true := decide_eq_true (by omega)
              have q4 : decide (0 < lb.length) = true := decide_eq_true (by omega)
              have q5 : ((lb.length : Int) == 0) = false := eqi_f (by omega)
              clear h1 h2
              go_upto_region 11 with (fail)
              clear q3 q4
              go_quiet (fail)
              have hown2 := own_below hown (below_draws _ _ nq)
              have hB2 := q_on hB (below_draws _ _ nq)
              replace hx := HC.out _ (q_on hQ5 (below_draws _ _ nq))
              generalize World.drewN wr nq = V1 at hown2 hB2 hx ⊢
              have hVz := hB2.size
              have hwv : wrap64 ((yn : Int) % ((r.writers.length : Int) + 1) - 1) = v := by
                rw [e.out]
                have h0 := Int.emod_nonneg (yn : Int) (show ((r.writers.length : Int) + 1) ≠ 0 by omega)
                have h9 := Int.emod_lt_of_pos (yn : Int) (show (0 : Int) < (r.writers.length : Int) + 1 by omega)
                exact wrap64_small _ (by omega) (by omega)
              rw [hwv]
              clear nq hown c3' e hwv
              go_wp2_with (at_builtin; go_must (refine wpList_app (.tmp 80) (.tmp 82) E_int rfl rfl rfl rfl w4.heap.size L.length 1 (L.map (Value.int .i64)) [.int .i64 (v)] (hown2.alloc _) (SrcAt.one _ _ _ rfl) (by omega) (by decide) (by simp; omega) ?_; intro v2 w8 ho2 hg2 _; (have hb2 := app_next hB2 (Nat.le_refl _) (Nat.le_refl _) hown2 hg2); clear hg2; simp only [Act.put, List.setIfInBounds_toArray, List.set_cons_succ, List.set_cons_zero]))
              go_roundw
              case rel => exact ⟨k + 1, by omega, by go_num, by rw [hL2.out, hstep.out]; simpa using ho2, hb2⟩
              case measure => simp [intOf]; omega
          · have hw2 := eqi_f hw
            obtain rfl := h1 (.inl hw)
            clear h1 h2 hw
            go_wp2_with (at_builtin; go_must (refine wpList_app (.tmp 80) (.tmp 82) E_int rfl rfl rfl rfl w4.heap.size L.length 1 (L.map (Value.int .i64)) [.int .i64 (v)] (hown.alloc _) (SrcAt.one _ _ _ rfl) (by omega) (by decide) (by simp; omega) ?_; intro v2 w8 ho2 hg2 _; (have hb2 := app_next hB (Nat.le_refl _) (Nat.le_refl _) hown hg2); clear hg2; simp only [Act.put, List.setIfInBounds_toArray, List.set_cons_succ, List.set_cons_zero]))
            go_roundw
            case rel => exact ⟨k + 1, by omega, by go_num, by rw [hL2.out, hstep.out]; simpa using ho2, hb2⟩
            case measure => simp [intOf]; omega
        · obtain rfl : k = r.letters.length := by omega
          have hOl := Lib.hid (OL.out r.letters.length)
          obtain ⟨fo, hfo⟩ : ∃ fo, F (otherTo r lb r.letters.length) = fo := ⟨_, rfl⟩
          generalize otherTo r lb r.letters.length = O at hown hOl hfo hbest
          have hOl4 : O.length ≤ 4 := by have := hOl.out; omega
          obtain ⟨b3, c3, rfl, o3, i3⟩ := ints_ownV hown
          replace rT := rT.mono hB
          replace i1 := i1.mono hB
          replace hQ := hQ5
          clear hQ5 hB hBz hk OL O1 O2 hown
          have FO := Lib.hid (fun (W : World) (h : RoomC W a1 a2 a3 a4 a5 k1 k2 k3 k4 k5 r) (h2 : RowsC W aT T) (h4 : IntsC W b3 O) => (show Calls _ _ _ _ (fun e w' => e = .returned (.bool fo) ∧ Below W.heap.size W w') by have := FT.out aT b3 cT c3 O W h oT h2 o3 h4; rwa [hfo] at this))
          have FL := Lib.hid (fun (W : World) (h : RoomC W a1 a2 a3 a4 a5 k1 k2 k3 k4 k5 r) (h2 : RowsC W aT T) (h4 : IntsC W b1 p) => (show Calls _ _ _ _ (fun e w' => e = .returned (.bool true) ∧ Below W.heap.size W w') by have := FT.out aT b1 cT c1 p W h oT h2 o1 h4; rwa [hf] at this))
          have hbb := hbest.out
          rw [hfo] at hbb
          clear hbest
          obtain ⟨np, hnp1⟩ : ∃ np : Nat, waitingOf p = np := ⟨_, rfl⟩
          obtain ⟨no, hno1⟩ : ∃ no : Nat, waitingOf O = no := ⟨_, rfl⟩
          have hwp := Lib.hid (show ((waitingOf p : Nat) : Int) = (np : Int) by rw [hnp1])
          have hwn := Lib.hid (show ((waitingOf O : Nat) : Int) = (no : Int) by rw [hno1])
          rw [hnp1] at hbb ⊢
          rw [hno1] at hbb
          clear hnp1 hno1
          have hnn := nei_f (rfl : (np : Int) = (np : Int))
          replace hbb := Lib.hid hbb
          clear hfo
          go_upto_region 19 with (first
            | (go_at_call 48; (with_reducible refine (Waiting_is _ O _ (no : Int) _ hwn.out o3 i3).mono ?_); rintro e w99 ⟨rfl, rfl⟩; dsimp only)
            | (go_at_call 48; (with_reducible refine (Waiting_is _ p _ (np : Int) _ hwp.out o1 i1).mono ?_); rintro e w99 ⟨rfl, rfl⟩; dsimp only)
            | (go_at_call 47; (with_reducible refine (FL.out _ (M.out _ hQ) rT i1).mono ?_); rintro e w13 ⟨rfl, hb⟩; replace i1 := i1.mono hb; replace i3 := i3.mono hb; replace rT := rT.mono hb; replace hQ := q_on hQ hb; replace hx := HC.out _ hQ; dsimp only)
            | (go_at_call 47; (with_reducible refine (FO.out _ (M.out _ hQ) rT i3).mono ?_); rintro e w12 ⟨rfl, hb⟩; replace i1 := i1.mono hb; replace i3 := i3.mono hb; replace rT := rT.mono hb; replace hQ := q_on hQ hb; replace hx := HC.out _ hQ; dsimp only))
          clear FO FL
          rename World => U0
          go_cut [136] from 121 to 136 (fun v W => v = .bool false ∧ Below U0.heap.size U0 W)
          case first =>
            have hbI := Below.refl U0.heap.size U0
            cases fo
            · clear hbb
              go_wp2
              go_meet
              case rel => exact ⟨rfl, hbI⟩
            · obtain ⟨hle, heq⟩ := hbb.out rfl
              have hl1 : decide ((no : Int) < (np : Int)) = false := decide_eq_false (by omega)
              have hl2 : decide (no < np) = false := decide_eq_false (by omega)
              by_cases hnp : no = np
              · have hbf := Lib.hid (heq hnp)
                have he1 := eqi_t (show (no : Int) = (np : Int) by omega)
                clear hbb hnp hle heq
                go_wp2_with (go_at_call 49; (with_reducible refine (Before_is _ _ _ _ _ _ false _ hbf.out (by omega) (by omega) i3 i1).mono ?_); rintro e w15 ⟨rfl, hbI⟩; dsimp only)
                go_meet
                case rel => exact ⟨rfl, hbI⟩
              · have he1 := eqi_f (show (no : Int) ≠ (np : Int) by omega)
                clear hbb hnp hle heq
                go_wp2
                go_meet
                case rel => exact ⟨rfl, hbI⟩
          case rest =>
            obtain ⟨rfl, hb⟩ := hcut
            rename World => U
            replace hQ := q_on hQ hb
            replace i1 := i1.mono hb
            replace rT := rT.mono hb
            clear hx
            have hx := HC.out _ hQ
            have hwU := hwX.trans (hQ.mono hwX.size)
            clear hbb hwp hwn i3 o3 hOl hOl4 hnn hb
            go_wp2_with (at_builtin; go_must (refine wpList_app (.tmp 137) (.tmp 139) E_letter rfl rfl rfl rfl U.heap.size 0 r.letters.length [] (flatC letterCells r.letters) (made_row U _ 3) ?g1 (by omega) (by decide) (by simp) ?_; (case g1 => exact SrcAt.letters hm.ok4.2.2 ((hm.letters.mono hwU).mono (al_on _ _))); intro v1 w9 ho1 hg1 _; simp only [Nat.zero_add, List.nil_append] at ho1; (have hb9 := app_fresh (n := 0) (c := 0) hg1); clear hg1; (obtain ⟨-, a9, c9, rfl, hs9, -⟩ := letters_own ho1); simp only [Act.put, List.setIfInBounds_toArray, List.set_cons_succ, List.set_cons_zero]))
            clear hx
            go_loopw [15] (fun i wr => ∃ k : Nat, k ≤ r.letters.length ∧ i = .int .i64 k ∧ wr.ownsRow U.heap.size 68 3 (.slice a9 r.letters.length c9) r.letters.length (flatC letterCells (writtenTo r p k)) ∧ Below U.heap.size U wr) (fun i _ => r.letters.length - (intOf i).toNat)
            case atStart => exact ⟨0, Nat.zero_le _, rfl, by rw [writtenTo_zero]; exact ho1, hb9⟩
            case round =>
              clear ho1 hb9
              obtain ⟨k, hk, rfl, hown, hB⟩ := hrel
              have hQ5 := q_on hQ hB
              have hx := HC.out _ hQ5
              by_cases hlt : k < r.letters.length
              · rcases hown.2 with ⟨_, hn0⟩ | ⟨g, cap, cur, hvv, hbg, hgg, _⟩
                · omega
                obtain ⟨rfl, rfl⟩ : a9 = some ⟨g, 0, none⟩ ∧ c9 = cap := by cases hvv; exact ⟨rfl, rfl⟩
                clear hvv
                have hgl := lt_of_block hgg
                have hkw : k < (writtenTo r p k).length := by rw [writtenTo_len]; exact hlt
                have hfl : (flatC letterCells (writtenTo r p k)).length = r.letters.length * 3 := by rw [flatC_len letterCells_len, writtenTo_len]
                have q1 : wr.cell? ⟨g, k * 3 + 2, none⟩ = some (.int .i64 (writtenTo r p k)[k].writer) := (hown.cellAt (k * 3 + 2) (by omega)).trans (flatC_get letterCells_len (writtenTo r p k) k hkw 2 (by omega))
                have e1' := hown.frozenAt (k * 3 + 2)
                have hkp : k < p.length := by have := hpk.out; omega
                obtain ⟨bp, op, rfl, hbp, cp⟩ := i1 k hkp
                have cp2 := cell_below hB cp
                have hbp2 := lt_of_cell cp2
                have hkp2 : (k : Int) < (p.length : Int) := by omega
                have hk2 : (k : Int) < (r.letters.length : Int) := by omega
                have hset := letters_setw (writtenTo r p k) k hkw p[k]
                have hsu : Hid (writtenTo r p (k + 1) = (writtenTo r p k).modify k fun x => { x with writer := p[k] }) := Lib.hid (by rw [writtenTo_succ, List.getElem?_eq_getElem hkp]; rfl)
                replace hset := Lib.hid hset
                clear hgg
                generalize p[k] = pv at cp cp2 hset hsu
                go_wp2
                go_roundw
                case rel => exact ⟨k + 1, by omega, by go_num, by rw [hsu.out, ← hset.out]; exact (hown.stored (k * 3 + 2) _).1, hB.setCell (show U.heap.size ≤ g by omega) _⟩
                case measure => simp [intOf]; omega
              · obtain rfl : k = r.letters.length := by omega
                obtain ⟨hle, a8, c8, e8, hs8, hw9⟩ := letters_own hown
                obtain ⟨rfl, -, rfl⟩ := Value.slice.inj e8
                clear e8 hs8 hown hle
                have hxn : x0 % T.length < T.length := Nat.mod_lt _ hTpos
                obtain ⟨bS, oS, aS, cS, rfl, hbS, hcS, hsT, hiT⟩ := (rT.mono hB) _ hxn
                have htT := List.getElem_mem hxn
                generalize T[x0 % T.length] = t at hcS hsT hiT htT
                have hT0 : (T.length : Int) ≠ 0 := by omega
                have hT1 := eqi_f hT0
                have hwr2 := hwX.trans (hQ5.mono hwX.size)
                replace htT := Lib.hid htT
                rename World => V
                go_upto_region 27 with (fail)
                clear hx hcS
                go_wp2
                go_loopw [17] (fun i wr => ∃ s : Nat, s ≤ r.kept.length ∧ i = .int .i64 s ∧ Below V.heap.size V wr) (fun i _ => r.kept.length - (intOf i).toNat)
                case atStart => exact ⟨0, Nat.zero_le _, rfl, Below.refl _ _⟩
                case round =>
                  obtain ⟨s, hsk, rfl, hC⟩ := hrel
                  have hQ4 := q_on hQ5 hC
                  have hx := HC.out _ hQ4
                  by_cases hlt3 : s < r.kept.length
                  · go_wp2_with (go_at_call 50; (refine (KP.out _ _ 1 c9 s p t hf _ (M.out _ (q_on hQ4 (al_on _ _))) hs9 (hw9.mono (hC.trans ((al_on _ _).mono hC.size))) ⟨Nat.le_refl _, by decide, fun h => by cases h⟩ (rows_one _ hsT (hiT.mono hC)) htT.out hlt3).mono ?_); rintro e w16 ⟨rfl, hb⟩; have hC2 := q_on (hC.trans ((al_on _ _).mono hC.size)) hb; dsimp only)
                    go_roundw
                    case rel => exact ⟨s + 1, by omega, by go_num, hC2⟩
                    case measure => simp [intOf]; omega
                  · obtain rfl : s = r.kept.length := by omega
                    replace hQ := hQ4
                    go_wp2_with (go_at_call 22; (with_reducible refine (Awake_any _).mono ?_); rintro e w17 ⟨rfl, hb⟩; replace hQ := q_on hQ hb; replace hx := HC.out _ hQ; dsimp only)
                    go_ret
                    exact ⟨rfl, hwX.trans (hQ.mono hwX.size)⟩
    · replace e1 := Lib.hid e1
      replace hno := hno (otherTo r lb r.letters.length)
      go_enter Try.func10, Try.ntmps10
      go_upto_region 1 with (fail)
      rw [← hX]
      clear hX
      go_wp2_with (first
        | (go_at_call 46; (with_reducible refine (TR.out _ (M.out _ hQ)).mono ?_); rintro e w4 ⟨v, rfl, ⟨aT, cT, rfl, oT, rT⟩, hb⟩; replace i1 := i1.mono hb; replace hQ := q_on hQ hb; replace hx := HC.out _ hQ; dsimp only)
        | (go_at_call 43; (with_reducible refine (Some_is _ _ _ _ _ _ _ _ _ _ r true hs.out _ (M.out _ hQ)).mono ?_); rintro e w3 ⟨rfl, hb⟩; replace i1 := i1.mono hb; replace hQ := q_on hQ hb; replace hx := HC.out _ hQ; dsimp only)
        | (go_at_call 30; (with_reducible refine (A_Plan _ _ _ _ _ _ _ _ _ _ r [] 0 9 e1.out _ (M.out _ hQ)).mono ?_); rintro e w2 ⟨b1, c1, rfl, o1, i1, hb⟩; replace hQ := q_on hQ hb; replace hx := HC.out _ hQ; dsimp only [List.length_nil]))
      go_loopw [9, 10, 11] (fun o i v wq => ∃ k : Nat, k ≤ r.letters.length ∧ i = .int .i64 k ∧ wq.ownsRow w4.heap.size 3 1 o (otherTo r lb k).length ((otherTo r lb k).map (Value.int .i64)) ∧ Below w4.heap.size w4 wq) (fun _ i _ _ => r.letters.length - (intOf i).toNat)
      case atStart => exact ⟨0, Nat.zero_le _, rfl, World.ownsRow_nil _ _ _ _, Below.refl _ _⟩
      case round =>
        obtain ⟨k, hk, rfl, hown, hB⟩ := hrel
        have hBz := hB.size
        have hQ5 := q_on hQ hB
        have hx := HC.out _ hQ5
        by_cases hlt : k < r.letters.length
        · have hlk := OL.out k
          have hstep : Hid (otherTo r lb (k + 1) = otherTo r lb k ++ [otherAt r lb k]) := Lib.hid rfl
          have h1 := O1.out k hlt
          have h2 := O2.out k hlt
          obtain ⟨bt, ot, rfl, hbt, c1, c2, c3⟩ := hm.letters k hlt
          have hwr := hwX.trans (hQ5.mono hwX.size)
          have c3' := cell_below hwr c3
          have hbt2 := lt_of_cell c3'
          have hk2 : (k : Int) < (r.letters.length : Int) := by omega
          generalize r.letters[k].writer = wri at h1 h2 c3 c3'
          generalize hL2 : otherTo r lb (k + 1) = L2 at hstep
          replace hL2 := Lib.hid hL2
          generalize otherTo r lb k = L at hown hlk hstep
          generalize otherAt r lb k = v at hstep h1 h2
          by_cases hw : wri = -1
          · subst hw
            by_cases hz : lb.length = 0
            · obtain rfl := h1 (.inr hz)
              have q1 : decide ((0 : Int) < (lb.length : Int)) = false := decide_eq_false (by omega)
              have q2 : decide (0 < lb.length) = false := decide_eq_false (by omega)
              clear h1 h2 hz
              go_wp2_with (at_builtin; go_must (refine wpList_app (.tmp 80) (.tmp 82) E_int rfl rfl rfl rfl w4.heap.size L.length 1 (L.map (Value.int .i64)) [.int .i64 (-1)] (hown.alloc _) (SrcAt.one _ _ _ rfl) (by omega) (by decide) (by simp; omega) ?_; intro v2 w8 ho2 hg2 _; (have hb2 := app_next hB (Nat.le_refl _) (Nat.le_refl _) hown hg2); clear hg2; simp only [Act.put, List.setIfInBounds_toArray, List.set_cons_succ, List.set_cons_zero]))
              go_roundw
              case rel => exact ⟨k + 1, by omega, by go_num, by rw [hL2.out, hstep.out]; simpa using ho2, hb2⟩
              case measure => simp [intOf]; omega
            · have hj : k % lb.length < lb.length := Nat.mod_lt _ (by omega)
              have e := h2 rfl hj
              obtain ⟨bb2, ob2, rfl, hbb, cb2, hy0, hy9⟩ := ib _ hj
              have cb3 := cell_below hwr cb2
              have hbb2 := lt_of_cell cb3
              generalize lb[k % lb.length] = y at cb2 cb3 e hy0 hy9
              obtain ⟨yn, rfl⟩ : ∃ yn : Nat, y = (yn : Int) := ⟨y.toNat, (Int.toNat_of_nonneg hy0).symm⟩
              replace e := Lib.hid e
              have q3 : decide ((0 : Int) < (lb.length : Int)) = true := decide_eq_true (by omega)
              have q4 : decide (0 < lb.length) = true := decide_eq_true (by omega)
              have q5 : ((lb.length : Int) == 0) = false := eqi_f (by omega)
              clear h1 h2
              go_upto_region 11 with (fail)
              clear q3 q4
              go_quiet (fail)
              have hown2 := own_below hown (below_draws _ _ nq)
              have hB2 := q_on hB (below_draws _ _ nq)
              replace hx := HC.out _ (q_on hQ5 (below_draws _ _ nq))
              generalize World.drewN wr nq = V1 at hown2 hB2 hx ⊢
              have hVz := hB2.size
              have hwv : wrap64 ((yn : Int) % ((r.writers.length : Int) + 1) - 1) = v := by
                rw [e.out]
                have h0 := Int.emod_nonneg (yn : Int) (show ((r.writers.length : Int) + 1) ≠ 0 by omega)
                have h9 := Int.emod_lt_of_pos (yn : Int) (show (0 : Int) < (r.writers.length : Int) + 1 by omega)
                exact wrap64_small _ (by omega) (by omega)
              rw [hwv]
              clear nq hown c3' e hwv
              go_wp2_with (at_builtin; go_must (refine wpList_app (.tmp 80) (.tmp 82) E_int rfl rfl rfl rfl w4.heap.size L.length 1 (L.map (Value.int .i64)) [.int .i64 (v)] (hown2.alloc _) (SrcAt.one _ _ _ rfl) (by omega) (by decide) (by simp; omega) ?_; intro v2 w8 ho2 hg2 _; (have hb2 := app_next hB2 (Nat.le_refl _) (Nat.le_refl _) hown2 hg2); clear hg2; simp only [Act.put, List.setIfInBounds_toArray, List.set_cons_succ, List.set_cons_zero]))
              go_roundw
              case rel => exact ⟨k + 1, by omega, by go_num, by rw [hL2.out, hstep.out]; simpa using ho2, hb2⟩
              case measure => simp [intOf]; omega
          · have hw2 := eqi_f hw
            obtain rfl := h1 (.inl hw)
            clear h1 h2 hw
            go_wp2_with (at_builtin; go_must (refine wpList_app (.tmp 80) (.tmp 82) E_int rfl rfl rfl rfl w4.heap.size L.length 1 (L.map (Value.int .i64)) [.int .i64 (v)] (hown.alloc _) (SrcAt.one _ _ _ rfl) (by omega) (by decide) (by simp; omega) ?_; intro v2 w8 ho2 hg2 _; (have hb2 := app_next hB (Nat.le_refl _) (Nat.le_refl _) hown hg2); clear hg2; simp only [Act.put, List.setIfInBounds_toArray, List.set_cons_succ, List.set_cons_zero]))
            go_roundw
            case rel => exact ⟨k + 1, by omega, by go_num, by rw [hL2.out, hstep.out]; simpa using ho2, hb2⟩
            case measure => simp [intOf]; omega
        · obtain rfl : k = r.letters.length := by omega
          have hOl := Lib.hid (OL.out r.letters.length)
          obtain ⟨fo, hfo⟩ : ∃ fo, F (otherTo r lb r.letters.length) = fo := ⟨_, rfl⟩
          generalize otherTo r lb r.letters.length = O at hown hOl hfo hno
          have hOl4 : O.length ≤ 4 := by have := hOl.out; omega
          obtain ⟨b3, c3, rfl, o3, i3⟩ := ints_ownV hown
          replace rT := rT.mono hB
          replace i1 := i1.mono hB
          replace hQ := hQ5
          clear hQ5 hB hBz hk OL O1 O2 hown
          have FO := Lib.hid (fun (W : World) (h : RoomC W a1 a2 a3 a4 a5 k1 k2 k3 k4 k5 r) (h2 : RowsC W aT T) (h4 : IntsC W b3 O) => (show Calls _ _ _ _ (fun e w' => e = .returned (.bool fo) ∧ Below W.heap.size W w') by have := FT.out aT b3 cT c3 O W h oT h2 o3 h4; rwa [hfo] at this))
          obtain rfl : fo = false := hfo.symm.trans hno
          clear hfo hno
          go_wp2_with (first
            | (go_at_call 22; (with_reducible refine (Awake_any _).mono ?_); rintro e w12 ⟨rfl, hb⟩; replace hQ := q_on hQ hb; replace hx := HC.out _ hQ; dsimp only)
            | (go_at_call 47; (with_reducible refine (FO.out _ (M.out _ hQ) rT i3).mono ?_); rintro e w11 ⟨rfl, hb⟩; replace hQ := q_on hQ hb; replace hx := HC.out _ hQ; dsimp only))
          go_ret
          exact ⟨rfl, hwX.trans (hQ.mono hwX.size)⟩
  · have hs := Bool.eq_false_iff.2 hs
    obtain ⟨e0, hp, he0⟩ := plan_bad hs
    replace hp := Lib.hid hp
    replace hs := Lib.hid hs
    have hne := nei_t he0
    clear he0
    go_enter Try.func10, Try.ntmps10
    go_upto_region 1 with (fail)
    rw [← hX]
    clear hX
    go_wp2_with (first
      | (go_at_call 22; (with_reducible refine (Awake_any _).mono ?_); rintro e w4 ⟨rfl, hb⟩; replace hQ := q_on hQ hb; replace hx := HC.out _ hQ; dsimp only)
      | (go_at_call 43; (with_reducible refine (Some_is _ _ _ _ _ _ _ _ _ _ r false hs.out _ (M.out _ hQ)).mono ?_); rintro e w3 ⟨rfl, hb⟩; replace hQ := q_on hQ hb; replace hx := HC.out _ hQ; dsimp only)
      | (go_at_call 30; (with_reducible refine (A_Plan _ _ _ _ _ _ _ _ _ _ r [] 0 e0 hp.out _ (M.out _ hQ)).mono ?_); rintro e w2 ⟨b1, c1, rfl, o1, i1, hb⟩; replace hQ := q_on hQ hb; replace hx := HC.out _ hQ; dsimp only [List.length_nil]))
    go_ret
    exact ⟨rfl, hwX.trans (hQ.mono hwX.size)⟩
end Go.Proofs.Ytmhbjohpggghgaa
