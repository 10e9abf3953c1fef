/- What is proved here: the contract of May. Conditions: the room lies in memory. -/
import Derived.Test.YtmhbjohpggghgaaSeMayP
set_option linter.unusedVariables false
set_option linter.unusedSimpArgs false
namespace Go.Proofs.Ytmhbjohpggghgaa
open Go Go.RowKit Go.Shelf

theorem start_one (x : SeLetter) (s u : Nat) (h : bitB x.secrets s = true) (hd : x.day ≤ 10) : startDay [{ x with writer := (u : Int) }] s = oneDay u x.day := by
  funext v
  unfold startDay oneDay
  simp only [List.foldl_cons, List.foldl_nil, h, and_true]
  by_cases e : v = u
  · subst e; rw [if_pos rfl, if_pos rfl]; omega
  · rw [if_neg (by omega), if_neg e]
theorem may_can (r : SeRoom) (x : SeLetter) (u : Nat) (hd : x.day ≤ 10) : canB r (seTruths r []) x (u : Int) = mayB r x u := by
  rw [Bool.eq_iff_iff]
  unfold canB mayB keepsB
  rw [List.all_eq_true, List.all_eq_true]
  have e : ∀ s set, bitB x.secrets s = true → keepsIn r [{ x with writer := (u : Int) }] s (bitsList set r.leaks.length) = keepsD r s (mayDays r x.day u set) := fun s set h => by
    rw [keepsIn_D]
    unfold fromD mayDays
    rw [start_one x s u h hd]
  constructor
  · intro h set hset
    unfold mayAt mayTo
    rw [List.all_eq_true]
    intro s hs
    have h1 := h s hs
    cases hb : bitB x.secrets s
    · rfl
    · rw [hb, truths_all] at h1
      have h2 := List.all_eq_true.1 (by simpa using h1) set hset
      rw [e s set hb] at h2
      simpa using h2
  · intro h s hs
    cases hb : bitB x.secrets s
    · rfl
    · rw [truths_all]
      show (List.all _ _) = true
      rw [List.all_eq_true]
      intro set hset
      have h1 := h set hset
      unfold mayAt mayTo at h1
      rw [List.all_eq_true] at h1
      have h2 := h1 s hs
      rw [hb] at h2
      rw [e s set hb]
      simpa using h2
theorem may_no {r : SeRoom} {n : Int} (h : mayErr r n ≠ 0) : mayOf r n = ([], mayErr r n) := by unfold mayOf; rw [if_neg h]
theorem may_yes {r : SeRoom} {n : Nat} (h : mayErr r n = 0) (hv : SeValid r) (hn : n < r.letters.length) : mayOf r n = (((List.range r.writers.length).filter fun u => mayB r r.letters[n] u).map fun (u : Nat) => (u : Int), 0) := by
  unfold mayOf mayList
  rw [if_pos h]
  have hx := hv.letters n hn
  have e : letterAt r (n : Int).toNat = r.letters[n] := by unfold letterAt; rw [Int.toNat_natCast, List.getElem?_eq_getElem hn]; rfl
  rw [e]
  congr 2
  apply List.filter_congr
  intro u _
  exact may_can r _ u (by omega)

theorem own_map {W V : World} {bo base : Nat} {e : TypeId} {size n : Nat} {v : Value} {xs : List Value} (h : W.ownsRow base e size v n xs) (hg : W.grownBy V (some bo)) (hb : bo < base) : V.ownsRow base e size v n xs :=
  h.kept hg (by
    cases hv : v.ownBlock with
    | none => exact .inl rfl
    | some k => exact .inr (fun e => by have := (h.lt k hv).1; have := Option.some.inj e; omega))
set_option maxRecDepth 100000 in
set_option maxHeartbeats 2000000 in
theorem SMayF_any (a1 a2 a3 a4 a5 : Option Addr) (k1 k2 k3 k4 k5 : Nat) (r : SeRoom) (n : Int) (w : World) (hm : RoomC w a1 a2 a3 a4 a5 k1 k2 k3 k4 k5 r) :
    Calls Try.prog 28 #[(.agg #[.slice a1 r.writers.length k1, .slice a2 r.kept.length k2, .slice a3 r.leaks.length k3, .slice a4 r.letters.length k4, .slice a5 r.heard.length k5]), .int .i64 n] w fun e w' => ∃ v, e = .returned (.tuple #[v, .int .i64 (mayOf r n).2]) ∧ IntsV w' v (mayOf r n).1 ∧ Below w.heap.size w w' := by
  have l1 := hm.ok1.len
  have l4 := hm.ok4.len
  have hQ2 := Below.refl (w.heap.size + 1) (w.alloc (.cells #[.slice a1 r.writers.length k1, .slice a2 r.kept.length k2, .slice a3 r.leaks.length k3, .slice a4 r.letters.length k4, .slice a5 r.heard.length k5] 28))
  have EN2 := SEnter2_any a1 a2 a3 a4 a5 k1 k2 k3 k4 k5 r n r.letters.length (w.alloc (.cells #[.slice a1 r.writers.length k1, .slice a2 r.kept.length k2, .slice a3 r.leaks.length k3, .slice a4 r.letters.length k4, .slice a5 r.heard.length k5] 28)) (hm.mono (box_old hQ2)) l4
  rw [show (w.alloc (.cells #[.slice a1 r.writers.length k1, .slice a2 r.kept.length k2, .slice a3 r.leaks.length k3, .slice a4 r.letters.length k4, .slice a5 r.heard.length k5] 28)).heap.size = w.heap.size + 1 by simp] at EN2
  change Calls _ _ _ _ (fun e w' => ∃ v, e = .returned (.tuple #[v, .int .i64 (mayErr r n)]) ∧ EnterV _ w' v (mayErr r n) a1 a2 a3 a4 a5 k1 k2 k3 k4 k5 r ∧ Below _ _ w') at EN2
  have HV := Lib.hid (fun h : mayErr r n = 0 => index_valid h)
  have HTN := Lib.hid (fun h => may_no (r := r) (n := n) h)
  have x0 := box_cell hQ2 0 _ rfl
  have x1 := box_cell hQ2 1 _ rfl
  have x2 := box_cell hQ2 2 _ rfl
  have x3 := box_cell hQ2 3 _ rfl
  have x4 := box_cell hQ2 4 _ rfl
  have xz := box_size hQ2
  by_cases her : mayErr r n = 0
  · obtain ⟨hv, hs0, hs1⟩ := HV.out her
    obtain ⟨m, rfl⟩ : ∃ m : Nat, n = m := ⟨n.toNat, by omega⟩
    have hml : m < r.letters.length := by omega
    have HTY := Lib.hid (may_yes her hv hml)
    generalize mayErr r m = er at her EN2
    generalize mayOf r m = res at HTY ⊢
    have HER := Lib.hid her
    have g1 := nei_f her
    have EN2 := Lib.hid EN2
    have vw := hv.nw
    clear her HV HTN
    go_enter Try.func28, Try.ntmps28
    go_upto_region 4 with (go_at_call 77; go_must (refine EN2.out.mono ?_; rintro e w3 ⟨v3, rfl, h3, hb3⟩; obtain ⟨bm, bo, rfl, hR, hbo⟩ := h3.1 HER.out; dsimp only))
    have hQ3 : Below (w.heap.size + 1) (w.alloc (.cells #[.slice a1 r.writers.length k1, .slice a2 r.kept.length k2, .slice a3 r.leaks.length k3, .slice a4 r.letters.length k4, .slice a5 r.heard.length k5] 28)) w3 := hb3.mono (by simp)
    have hKN : KeepN w w3 bm bo a1 a2 a3 a4 a5 k1 k2 k3 k4 k5 r := ⟨hR, box_old hQ3⟩
    have hbml := hR.bm_lt
    have hbol := hR.bo_lt
    have hw3 := hKN.2.size
    have hbw : w.heap.size ≤ bo := by simp at hbo; omega
    clear x0 x1 x2 x3 x4 xz
    have x0 := box_cell hQ3 0 _ rfl
    have x1 := box_cell hQ3 1 _ rfl
    have x2 := box_cell hQ3 2 _ rfl
    have x3 := box_cell hQ3 3 _ rfl
    have x4 := box_cell hQ3 4 _ rfl
    have xz := box_size hQ3
    obtain ⟨p, hp⟩ : ∃ p : Nat → Bool, p = fun u => mayB r r.letters[m] u := ⟨_, rfl⟩
    rw [← hp] at HTY
    have HP := Lib.hid hp
    clear hp
    obtain ⟨wo, hwo⟩ : ∃ wo : World, wo = w3 := ⟨_, rfl⟩
    subst hwo
    go_wp2
    go_loopw [4, 24] (fun o i wr => ∃ c : Nat, c ≤ r.writers.length ∧ i = .int .i64 c ∧ wr.ownsRow wo.heap.size 3 1 o (((List.range c).filter p).map (fun (c : Nat) => (c : Int))).length ((((List.range c).filter p).map (fun (c : Nat) => (c : Int))).map (Value.int .i64)) ∧ KeepN w wr bm bo a1 a2 a3 a4 a5 k1 k2 k3 k4 k5 r ∧ wo.heap.size ≤ wr.heap.size) (fun _ i _ => r.writers.length - (intOf i).toNat)
    case atStart => exact ⟨0, Nat.zero_le _, rfl, World.ownsRow_nil _ _ _ _, hKN, Nat.le_refl _⟩
    case round =>
      obtain ⟨c, hc, rfl, hown, hK, hz⟩ := hrel
      by_cases hlt : c < r.writers.length
      · have hst := Lib.hid (keep_succ p c)
        have hkl := keep_len p c
        generalize hL : ((List.range c).filter p).map (fun (c : Nat) => (c : Int)) = L at hown hst hkl
        clear hL
        have MY := SMay_any a1 a2 a3 a4 a5 k1 k2 k3 k4 k5 r bm bo m c wr hK.1 hv hml hlt
        have hpc : p c = mayB r r.letters[m] c := by rw [HP.out]
        rw [← hpc] at MY
        clear hpc
        generalize p c = bp at hst MY
        have MY := Lib.hid MY
        cases bp
        · go_wp2_with (go_at_call 93; go_must (refine MY.out.mono ?_; rintro e w5 ⟨rfl, hg5, hR5⟩; dsimp only))
          go_roundw
          case rel => exact ⟨c + 1, by omega, by go_num, by rw [hst.out]; simpa using own_map hown hg5 hbol, hK.step hg5 hR5 hbw, Nat.le_trans hz hg5.size⟩
          case measure => simp [intOf]; omega
        · go_wp2_with (first
            | (at_builtin; go_must (have hown5 := own_map hown hg5 hbol; have hz5 := Nat.le_trans hz hg5.size; refine wpList_app (.tmp 31) (.tmp 33) E_int rfl rfl rfl rfl wo.heap.size L.length 1 (L.map (Value.int .i64)) [.int .i64 (c : Int)] (hown5.alloc _) (SrcAt.one _ _ _ rfl) (by omega) (by decide) (by simp; omega) ?_; intro v2 w6 ho2 hg2 _; (have hb6 := app_next (Below.refl wo.heap.size w5) hz5 (Nat.le_refl _) hown5 hg2); clear hg2; simp only [Act.put, List.setIfInBounds_toArray, List.set_cons_succ, List.set_cons_zero]))
            | (go_at_call 93; go_must (refine MY.out.mono ?_; rintro e w5 ⟨rfl, hg5, hR5⟩; dsimp only)))
          go_roundw
          case rel => exact ⟨c + 1, by omega, by go_num, by rw [hst.out]; simpa using ho2, (hK.step hg5 hR5 hbw).belowB hm hb6 (by omega) hbml hbol, Nat.le_trans (Nat.le_trans hz hg5.size) hb6.size⟩
          case measure => simp [intOf]; omega
      · obtain rfl : c = r.writers.length := by omega
        go_wp2
        go_ret2
        have hr := HTY.out
        subst hr
        exact ⟨_, rfl, ints_ownV hown, hK.2⟩
  · replace HTN := Lib.hid (HTN.out her)
    generalize mayErr r n = er at her EN2 HTN
    generalize mayOf r n = res at HTN ⊢
    have HER := Lib.hid her
    have g1 := nei_t her
    have EN2 := Lib.hid EN2
    clear her HV
    go_enter Try.func28, Try.ntmps28
    go_wp2_with (go_at_call 77; go_must (refine EN2.out.mono ?_; rintro e w3 ⟨v3, rfl, h3, hb3⟩; obtain rfl := h3.2 HER.out; dsimp only))
    go_ret2
    have hr := HTN.out
    subst hr
    exact ⟨_, rfl, ⟨none, 0, rfl, ⟨by simp, by omega, fun _ => rfl⟩, IntsC.nil _ _⟩, box_old (hb3.mono (by simp))⟩
end Go.Proofs.Ytmhbjohpggghgaa
