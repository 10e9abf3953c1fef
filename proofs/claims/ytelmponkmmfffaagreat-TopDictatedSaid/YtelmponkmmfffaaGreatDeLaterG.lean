/- What is proved here: whether there is a plan that surely does, with some of the writers, or for some of the customers, in layer 9. No program. No condition. -/
/- What is proved here: what Best, Enough and Away of layer 9 are, by the search. No program. No condition. -/
/- What is proved here: what Later of layer 9 is, by the search at each minute. No program. No condition. -/
import Derived.Test.YtelmponkmmfffaaGreatFirstG
set_option linter.unusedVariables false
set_option linter.unusedSimpArgs false
namespace Go.Proofs.YtelmponkmmfffaaGreat

theorem some_iff {h : DeH} (hv : DeValid h) : someD h = true ↔ ∃ p, PlanOk h h.customers.length p ∧ allIn h p := by
  unfold someD dePlans
  rw [List.any_eq_true]
  constructor
  · rintro ⟨p, hp, hd⟩
    have hp2 := mem_plans.1 hp
    exact ⟨p, hp2, (must_iff hv hp2).1 (of_decide_eq_true hd)⟩
  · rintro ⟨p, hp, ht⟩
    exact ⟨p, mem_plans.2 hp, decide_eq_true ((must_iff hv hp).2 ht)⟩
theorem someM_iff {h : DeH} (hn : h.writers.length ≤ 3) {wm cm : Nat} (hcm : cm < 2 ^ h.customers.length) : 0 ≤ overB h wm cm ↔ ∃ p, PlanSub h wm cm p ∧ allIn h p := by
  rcases overB_spec (wm := wm) hn hcm with ⟨e, hno⟩ | ⟨h0, ⟨p, hs, ht, _⟩, _⟩
  · rw [e]
    exact ⟨fun h => absurd h (by decide), fun ⟨p, hs, ht⟩ => absurd ht (hno p hs)⟩
  · exact ⟨fun _ => ⟨p, hs, ht⟩, fun _ => h0⟩
theorem pow_pred (n : Nat) : 2 ^ n - 1 < 2 ^ n := by have := Nat.two_pow_pos n; omega
theorem some_full {h : DeH} (hv : DeValid h) : someD h = decide (0 ≤ overB h (2 ^ h.writers.length - 1) (2 ^ h.customers.length - 1)) := by
  rw [Bool.eq_iff_iff, some_iff hv, decide_eq_true_eq, someM_iff hv.nw (pow_pred _)]
  simp only [sub_full]

theorem flat_filter (t : Nat → Bool) (P : Nat → List Int) : ∀ R : List Nat, (∀ w ∈ R, t w = false → P w = []) → R.flatMap P = (R.filter t).flatMap P
  | [], _ => rfl
  | w :: R, h => by
    have ih := flat_filter t P R fun v hv => h v (List.mem_cons_of_mem _ hv)
    rw [List.flatMap_cons, ih, List.filter_cons]
    cases e : t w with
    | true => simp
    | false => rw [h w (by simp) e]; simp
/-- The writers of a set. -/
def wsOf (s n : Nat) : List Nat := (List.range n).filter fun i => s.testBit i
theorem wsOf_nodup (s n : Nat) : (wsOf s n).Nodup := List.Pairwise.filter _ List.nodup_range
theorem wsOf_mem {s n i : Nat} : i ∈ wsOf s n ↔ i < n ∧ s.testBit i = true := by unfold wsOf; rw [List.mem_filter, List.mem_range]
theorem bits_ws (s n : Nat) : bitsList s n = (wsOf s n).map fun (i : Nat) => (i : Int) := rfl
theorem rows_range {p : List (List Int)} {n : Nat} (h : p.length = n) : p = (List.range n).map fun w => p[w]?.getD [] := by
  apply List.ext_getElem?
  intro w
  rw [List.getElem?_map]
  by_cases e : w < n
  · rw [List.getElem?_range e]
    simp [List.getElem?_eq_getElem (show w < p.length by omega)]
  · rw [List.getElem?_eq_none (by omega), List.getElem?_eq_none (by simp; omega)]; rfl
theorem only_flat {p : List (List Int)} {n s : Nat} (h : p.length = n) (he : ∀ w, w < n → s.testBit w = false → p[w]?.getD [] = []) : p.flatten = ((wsOf s n).map fun w => p[w]?.getD []).flatten := by
  have e := flat_filter (fun i => s.testBit i) (fun w => p[w]?.getD []) (List.range n) (fun w hw hb => he w (List.mem_range.1 hw) hb)
  rw [List.flatMap_def, List.flatMap_def, ← rows_range h] at e
  exact e
theorem only_writers (h : DeH) (s n : Nat) : (onlyD h (bitsList s n)).writers = (wsOf s n).map (writerAt h) := by
  unfold onlyD
  simp only [bits_ws, List.map_map]
  rfl
theorem only_at (h : DeH) (s n i : Nat) (hi : i < (wsOf s n).length) : writerAt (onlyD h (bitsList s n)) i = writerAt h (wsOf s n)[i] := by
  show ((onlyD h (bitsList s n)).writers[i]?).getD _ = _
  rw [only_writers, List.getElem?_map, List.getElem?_eq_getElem hi]; rfl
theorem inTime_same {h g : DeH} (hc : g.customers = h.customers) (hx : g.wax = h.wax) : ∀ (l : List Int) (t : Int), inTime g t l ↔ inTime h t l
  | [], _ => Iff.rfl
  | c :: l, t => by
    have e : ∀ c, customerAt g c = customerAt h c := fun c => by unfold customerAt; rw [hc]
    show (_ ∧ inTime g _ l) ↔ (_ ∧ inTime h _ l)
    rw [inTime_same hc hx l, e, hx]
theorem only_valid {h : DeH} (hv : DeValid h) (s : Nat) : DeValid (onlyD h (bitsList s h.writers.length)) := by
  have hlen : (wsOf s h.writers.length).length ≤ h.writers.length := by unfold wsOf; exact Nat.le_trans (List.length_filter_le _ _) (by simp)
  refine ⟨?_, hv.nc, hv.wax, fun i hi => ?_, hv.c⟩
  · rw [only_writers, List.length_map]; exact Nat.le_trans hlen hv.nw
  · have hi2 : i < (wsOf s h.writers.length).length := by rw [only_writers, List.length_map] at hi; exact hi
    have e : (onlyD h (bitsList s h.writers.length)).writers[i] = writerAt h (wsOf s h.writers.length)[i] := by
      have := only_at h s h.writers.length i hi2
      unfold writerAt at this
      rw [List.getElem?_eq_getElem hi] at this
      exact this
    have hm := wsOf_mem.1 (List.getElem_mem hi2)
    rw [e]
    have := hv.w _ hm.1
    rw [show writerAt h (wsOf s h.writers.length)[i] = h.writers[(wsOf s h.writers.length)[i]]'hm.1 from by unfold writerAt; rw [List.getElem?_eq_getElem hm.1]; rfl]
    exact this
/-- Some of the writers. -/
theorem some_only {h : DeH} (hv : DeValid h) (s : Nat) : someD (onlyD h (bitsList s h.writers.length)) = decide (0 ≤ overB h s (2 ^ h.customers.length - 1)) := by
  rw [Bool.eq_iff_iff, some_iff (only_valid hv s), decide_eq_true_eq, someM_iff hv.nw (pow_pred _)]
  have hwl : (onlyD h (bitsList s h.writers.length)).writers.length = (wsOf s h.writers.length).length := by rw [only_writers, List.length_map]
  have hcl : (onlyD h (bitsList s h.writers.length)).customers = h.customers := rfl
  have hnd := wsOf_nodup s h.writers.length
  generalize hL : wsOf s h.writers.length = L at hwl hnd
  have hin := fun (l : List Int) (t : Int) => inTime_same (h := h) (g := onlyD h (bitsList s h.writers.length)) rfl rfl l t
  have hat : ∀ i (hi : i < L.length), writerAt (onlyD h (bitsList s h.writers.length)) i = writerAt h L[i] := fun i hi => by
    have := only_at h s h.writers.length i (by rw [hL]; exact hi)
    simpa only [hL] using this
  have hLm : ∀ w, w ∈ L ↔ w < h.writers.length ∧ s.testBit w = true := fun w => by rw [← hL]; exact wsOf_mem
  -- what both sides say of a plan and its rows
  have key : ∀ p q : List (List Int), p.length = h.writers.length → (∀ w, w < h.writers.length → s.testBit w = false → p[w]?.getD [] = []) → q = L.map (fun w => p[w]?.getD []) →
      ((PlanOk (onlyD h (bitsList s h.writers.length)) h.customers.length q ∧ allIn (onlyD h (bitsList s h.writers.length)) q) ↔ (PlanSub h s (2 ^ h.customers.length - 1) p ∧ allIn h p)) := by
    intro p q hpl he hq
    have hf : p.flatten = q.flatten := by rw [hq, ← hL]; exact only_flat hpl he
    have hq1 : ∀ i (hi : i < L.length), q[i]? = some (p[L[i]]?.getD []) := fun i hi => by rw [hq, List.getElem?_map, List.getElem?_eq_getElem hi]; rfl
    have hrow : ∀ w l, p[w]? = some l → l ≠ [] → ∃ i, ∃ hi : i < L.length, L[i] = w ∧ q[i]? = some l := fun w l hl hne => by
      have hw : w < h.writers.length := by have := (List.getElem?_eq_some_iff.1 hl).1; omega
      have hb : s.testBit w = true := by
        cases hb : s.testBit w with
        | true => rfl
        | false =>
          have := he w hw hb
          rw [hl] at this
          exact absurd this hne
      obtain ⟨i, hi, e⟩ := List.getElem_of_mem ((hLm w).2 ⟨hw, hb⟩)
      exact ⟨i, hi, e, by rw [hq1 i hi, e, hl]; rfl⟩
    have hback : ∀ i l, q[i]? = some l → ∃ hi : i < L.length, p[L[i]]? = some l := fun i l hl => by
      have hi : i < L.length := by
        have := (List.getElem?_eq_some_iff.1 hl).1
        rw [hq, List.length_map] at this
        exact this
      refine ⟨hi, ?_⟩
      have hw := ((hLm L[i]).1 (List.getElem_mem hi)).1
      rw [hq1 i hi] at hl
      rw [List.getElem?_eq_getElem (by omega)] at hl ⊢
      exact hl
    constructor
    · rintro ⟨hp, ht⟩
      refine ⟨⟨hpl, by rw [hf]; exact hp.nodup, fun c => ?_, fun w l hl c hc => ?_⟩, fun w l hl => ?_⟩
      · rw [hf, hp.mem, full_bit, decide_eq_true_eq]; omega
      · obtain ⟨i, hi, e, hqi⟩ := hrow w l hl (List.ne_nil_of_mem hc)
        have h1 := hp.can i l hqi c hc
        unfold canD at h1 ⊢
        rw [hat i hi, e] at h1
        exact ⟨((hLm w).1 (e ▸ List.getElem_mem hi)).2, h1⟩
      · by_cases hne : l = []
        · subst hne; trivial
        · obtain ⟨i, hi, e, hqi⟩ := hrow w l hl hne
          have h1 := ht i l hqi
          rw [hin, hat i hi, e] at h1
          exact h1
    · rintro ⟨hs, ht⟩
      refine ⟨⟨by rw [hwl, hq, List.length_map], by rw [← hf]; exact hs.nodup, fun c => ?_, fun i l hl c hc => ?_⟩, fun i l hl => ?_⟩
      · rw [← hf, hs.mem, full_bit, decide_eq_true_eq]; omega
      · obtain ⟨hi, hpi⟩ := hback i l hl
        have h1 := (hs.can _ l hpi c hc).2
        unfold canD at h1 ⊢
        rw [hat i hi]
        exact h1
      · obtain ⟨hi, hpi⟩ := hback i l hl
        rw [hin, hat i hi]
        exact ht _ l hpi
  constructor
  · rintro ⟨q, hp, ht⟩
    have hql := hp.len
    rw [hwl] at hql
    have hrow : ∀ w, w < h.writers.length → ((List.range h.writers.length).map fun w => if s.testBit w = true then q[L.idxOf w]?.getD [] else [])[w]?.getD [] = if s.testBit w = true then q[L.idxOf w]?.getD [] else [] := fun w hw => by
      rw [List.getElem?_map, List.getElem?_range hw]; rfl
    refine ⟨(List.range h.writers.length).map fun w => if s.testBit w = true then q[L.idxOf w]?.getD [] else [], (key _ q (by simp) (fun w hw hb => ?_) ?_).1 ⟨hp, ht⟩⟩
    · rw [hrow w hw, if_neg (by simp [hb])]
    · apply List.ext_getElem?
      intro i
      rw [List.getElem?_map]
      by_cases hi : i < L.length
      · have hm := (hLm L[i]).1 (List.getElem_mem hi)
        rw [List.getElem?_eq_getElem hi, Option.map_some, hrow _ hm.1, if_pos hm.2, hnd.idxOf_getElem i hi, List.getElem?_eq_getElem (by omega)]; rfl
      · rw [List.getElem?_eq_none (by omega), List.getElem?_eq_none (by omega)]; rfl
  · rintro ⟨p, hs, ht⟩
    refine ⟨L.map fun w => p[w]?.getD [], (key p _ hs.len (fun w hw hb => ?_) rfl).2 ⟨hs, ht⟩⟩
    have hwp : w < p.length := by have := hs.len; omega
    rw [List.getElem?_eq_getElem hwp, Option.getD_some, List.eq_nil_iff_forall_not_mem]
    intro c hc
    have := (hs.can w _ (List.getElem?_eq_getElem hwp) c hc).1
    rw [hb] at this; cases this

theorem nodup_map_on {f : Int → Int} : ∀ {l : List Int}, l.Nodup → (∀ a ∈ l, ∀ b ∈ l, f a = f b → a = b) → (l.map f).Nodup
  | [], _, _ => List.nodup_nil
  | a :: l, h, hi => by
    obtain ⟨h1, h2⟩ := List.nodup_cons.1 h
    rw [List.map_cons, List.nodup_cons]
    refine ⟨fun hm => ?_, nodup_map_on h2 fun x hx y hy => hi x (List.mem_cons_of_mem _ hx) y (List.mem_cons_of_mem _ hy)⟩
    obtain ⟨b, hb, e⟩ := List.mem_map.1 hm
    have := hi b (List.mem_cons_of_mem _ hb) a (by simp) e
    exact h1 (this ▸ hb)
theorem fm_congr {α β : Type} {f g : α → Option β} : ∀ (l : List α), (∀ x ∈ l, f x = g x) → l.filterMap f = l.filterMap g
  | [], _ => rfl
  | x :: l, h => by
    rw [List.filterMap_cons, List.filterMap_cons, h x (by simp), fm_congr l fun y hy => h y (List.mem_cons_of_mem _ hy)]
theorem nodup_inj {K : List Nat} (h : K.Nodup) {i j : Nat} (hi : i < K.length) (hj : j < K.length) (e : K[i] = K[j]) : i = j := by
  rw [← h.idxOf_getElem i hi, ← h.idxOf_getElem j hj, e]
/-- The customers who stay. -/
def stayOf (s n : Nat) : List Nat := (List.range n).filter fun i => !s.testBit i
theorem stay_mem {s n i : Nat} : i ∈ stayOf s n ↔ i < n ∧ s.testBit i = false := by unfold stayOf; rw [List.mem_filter, List.mem_range, Bool.not_eq_true']
theorem but_customers (h : DeH) (s : Nat) : (butD h (bitsList s h.customers.length)).customers = (stayOf s h.customers.length).map (customerAt h) := by
  unfold butD stayOf
  show (List.range h.customers.length).filterMap _ = _
  rw [← List.filterMap_eq_map, List.filterMap_filter]
  refine fm_congr _ fun i hi => ?_
  have hlt := List.mem_range.1 hi
  rw [hasB_bits _ _ _ hlt]
  cases s.testBit i with
  | true => rfl
  | false =>
    show h.customers[i]? = some (customerAt h i)
    rw [show customerAt h i = h.customers[i] from by unfold customerAt; rw [List.getElem?_eq_getElem hlt]; rfl, List.getElem?_eq_getElem hlt]
theorem but_at (h : DeH) (s i : Nat) (hi : i < (stayOf s h.customers.length).length) : customerAt (butD h (bitsList s h.customers.length)) i = customerAt h (stayOf s h.customers.length)[i] := by
  show ((butD h (bitsList s h.customers.length)).customers[i]?).getD _ = _
  rw [but_customers, List.getElem?_map, List.getElem?_eq_getElem hi]; rfl
theorem but_valid {h : DeH} (hv : DeValid h) (s : Nat) : DeValid (butD h (bitsList s h.customers.length)) := by
  have hlen : (stayOf s h.customers.length).length ≤ h.customers.length := by unfold stayOf; exact Nat.le_trans (List.length_filter_le _ _) (by simp)
  refine ⟨hv.nw, ?_, hv.wax, hv.w, fun i hi => ?_⟩
  · rw [but_customers, List.length_map]; exact Nat.le_trans hlen hv.nc
  · have hi2 : i < (stayOf s h.customers.length).length := by rw [but_customers, List.length_map] at hi; exact hi
    have e : (butD h (bitsList s h.customers.length)).customers[i] = customerAt h (stayOf s h.customers.length)[i] := by
      have := but_at h s i hi2
      unfold customerAt at this
      rw [List.getElem?_eq_getElem hi] at this
      exact this
    have hm := stay_mem.1 (List.getElem_mem hi2)
    rw [e]
    have := hv.c _ hm.1
    rw [show customerAt h (stayOf s h.customers.length)[i] = h.customers[(stayOf s h.customers.length)[i]]'hm.1 from by unfold customerAt; rw [List.getElem?_eq_getElem hm.1]; rfl]
    exact this
/-- Some of the customers. -/
theorem some_but {h : DeH} (hv : DeValid h) (s cm : Nat) (hcm : cm < 2 ^ h.customers.length) (hbit : ∀ i, i < h.customers.length → cm.testBit i = !s.testBit i) :
    someD (butD h (bitsList s h.customers.length)) = decide (0 ≤ overB h (2 ^ h.writers.length - 1) cm) := by
  rw [Bool.eq_iff_iff, some_iff (but_valid hv s), decide_eq_true_eq, someM_iff hv.nw hcm]
  have hwl : (butD h (bitsList s h.customers.length)).writers = h.writers := rfl
  have hcl : (butD h (bitsList s h.customers.length)).customers.length = (stayOf s h.customers.length).length := by rw [but_customers, List.length_map]
  have hnd : (stayOf s h.customers.length).Nodup := List.Pairwise.filter _ List.nodup_range
  have hat0 := but_at h s
  have hKm : ∀ c, c ∈ stayOf s h.customers.length ↔ c < h.customers.length ∧ cm.testBit c = true := fun c => by
    rw [stay_mem]
    constructor
    · rintro ⟨a, b⟩; exact ⟨a, by rw [hbit c a, b]; rfl⟩
    · rintro ⟨a, b⟩; rw [hbit c a] at b; exact ⟨a, by simpa using b⟩
  generalize stayOf s h.customers.length = K at hcl hnd hat0 hKm
  have hwr : ∀ w, writerAt (butD h (bitsList s h.customers.length)) w = writerAt h w := fun w => rfl
  have hwx : (butD h (bitsList s h.customers.length)).wax = h.wax := rfl
  generalize butD h (bitsList s h.customers.length) = g at hwl hcl hat0 hwr hwx
  rw [hcl]
  -- the same plan by both numberings
  have key : ∀ (p q : List (List Int)) (f : Int → Int), p = q.map (List.map f) → (∀ j : Int, 0 ≤ j → j < (K.length : Int) → ∃ hj : j.toNat < K.length, f j = (K[j.toNat] : Int)) → (∀ j ∈ q.flatten, 0 ≤ j ∧ j < (K.length : Int)) →
      ((PlanOk g K.length q ∧ allIn g q) ↔ (PlanSub h (2 ^ h.writers.length - 1) cm p ∧ allIn h p)) := by
    intro p q f hpq hf hq
    have hflat : p.flatten = q.flatten.map f := by rw [hpq, List.map_flatten]
    have hcu : ∀ j ∈ q.flatten, customerAt g j.toNat = customerAt h (f j).toNat := fun j hj => by
      obtain ⟨h0, h1⟩ := hq j hj
      obtain ⟨hj2, e⟩ := hf j h0 h1
      rw [hat0 _ hj2, e, Int.toNat_natCast]
    have hinj : ∀ a ∈ q.flatten, ∀ b ∈ q.flatten, f a = f b → a = b := fun a ha b hb e => by
      obtain ⟨a0, a1⟩ := hq a ha
      obtain ⟨b0, b1⟩ := hq b hb
      obtain ⟨ha2, ea⟩ := hf a a0 a1
      obtain ⟨hb2, eb⟩ := hf b b0 b1
      rw [ea, eb] at e
      have := nodup_inj hnd _ _ (Int.ofNat.inj e)
      omega
    have hrow : ∀ w l, p[w]? = some l ↔ ∃ m : List Int, q[w]? = some m ∧ l = m.map f := fun w l => by
      rw [hpq, List.getElem?_map, Option.map_eq_some_iff]
      constructor
      · rintro ⟨m, a, b⟩; exact ⟨m, a, b.symm⟩
      · rintro ⟨m, a, b⟩; exact ⟨m, a, b.symm⟩
    have hsub : ∀ w m, q[w]? = some m → ∀ c ∈ m, c ∈ q.flatten := fun w m hm c hc => List.mem_flatten.2 ⟨m, List.mem_of_getElem? hm, hc⟩
    have hint : ∀ (m : List Int) (t : Int), (∀ c ∈ m, c ∈ q.flatten) → (inTime g t m ↔ inTime h t (m.map f)) := by
      intro m
      induction m with
      | nil => exact fun t _ => Iff.rfl
      | cons c m ih =>
        intro t hm
        have hc := hcu c (hm c (by simp))
        show (_ ∧ inTime g _ m) ↔ (_ ∧ inTime h _ (m.map f))
        rw [ih _ (fun d hd => hm d (List.mem_cons_of_mem _ hd)), hc, hwx]
    have hmemf : ∀ c : Int, (∃ j : Int, 0 ≤ j ∧ j < (K.length : Int) ∧ f j = c) ↔ (0 ≤ c ∧ c < (h.customers.length : Int) ∧ cm.testBit c.toNat = true) := fun c => by
      constructor
      · rintro ⟨j, h0, h1, rfl⟩
        obtain ⟨hj, e⟩ := hf j h0 h1
        have := (hKm K[j.toNat]).1 (List.getElem_mem hj)
        rw [e, Int.toNat_natCast]
        exact ⟨by omega, by omega, this.2⟩
      · rintro ⟨h0, h1, h2⟩
        obtain ⟨j, hj, e⟩ := List.getElem_of_mem ((hKm c.toNat).2 ⟨by omega, h2⟩)
        obtain ⟨hj2, e2⟩ := hf (j : Int) (by omega) (by omega)
        refine ⟨(j : Int), by omega, by omega, ?_⟩
        rw [e2]
        simp only [Int.toNat_natCast]
        omega
    constructor
    · rintro ⟨hp, ht⟩
      refine ⟨⟨by rw [hpq, List.length_map, hp.len, hwl], by rw [hflat]; exact nodup_map_on hp.nodup hinj, fun c => ?_, fun w l hl c hc => ?_⟩, fun w l hl => ?_⟩
      · rw [← hmemf, hflat, List.mem_map]
        constructor
        · rintro ⟨j, hj, e⟩; exact ⟨j, (hq j hj).1, (hq j hj).2, e⟩
        · rintro ⟨j, h0, h1, e⟩; exact ⟨j, (hp.mem j).2 ⟨h0, h1⟩, e⟩
      · obtain ⟨m, hm, rfl⟩ := (hrow w l).1 hl
        obtain ⟨j, hj, rfl⟩ := List.mem_map.1 hc
        have h1 := hp.can w m hm j hj
        unfold canD at h1 ⊢
        rw [hcu j (hsub w m hm j hj), hwr] at h1
        refine ⟨?_, h1⟩
        rw [full_bit, decide_eq_true_eq]
        have := (List.getElem?_eq_some_iff.1 hm).1
        have := hp.len
        rw [hwl] at this
        omega
      · obtain ⟨m, hm, rfl⟩ := (hrow w l).1 hl
        have h1 := ht w m hm
        rw [hint m _ (hsub w m hm), hwr] at h1
        exact h1
    · rintro ⟨hs, ht⟩
      have hlen : q.length = g.writers.length := by rw [hwl, ← hs.len, hpq, List.length_map]
      refine ⟨⟨hlen, ?_, fun c => ⟨hq c, fun ⟨h0, h1⟩ => ?_⟩, fun w m hm j hj => ?_⟩, fun w m hm => ?_⟩
      · have := hs.nodup
        rw [hflat] at this
        exact (List.pairwise_map.1 this).imp (fun hne e => hne (by rw [e]))
      · have h2 := (hs.mem (f c)).2 ((hmemf _).1 ⟨c, h0, h1, rfl⟩)
        rw [hflat] at h2
        obtain ⟨j, hj, e⟩ := List.mem_map.1 h2
        obtain ⟨j0, j1⟩ := hq j hj
        obtain ⟨hj2, ej⟩ := hf j j0 j1
        obtain ⟨hc2, ec⟩ := hf c h0 h1
        rw [ej, ec] at e
        have := nodup_inj hnd _ _ (Int.ofNat.inj e)
        rw [show c = j by omega]
        exact hj
      · have h1 := (hs.can w (m.map f) ((hrow w _).2 ⟨m, hm, rfl⟩) (f j) (List.mem_map.2 ⟨j, hj, rfl⟩)).2
        unfold canD at h1 ⊢
        rw [hcu j (hsub w m hm j hj), hwr]
        exact h1
      · have h1 := ht w (m.map f) ((hrow w _).2 ⟨m, hm, rfl⟩)
        rw [hint m _ (hsub w m hm), hwr]
        exact h1
  constructor
  · rintro ⟨q, hp, ht⟩
    refine ⟨q.map (List.map fun j => ((K[j.toNat]?.getD 0 : Nat) : Int)), (key _ q _ rfl (fun j h0 h1 => ?_) (fun j hj => (hp.mem j).1 hj)).1 ⟨hp, ht⟩⟩
    have hj : j.toNat < K.length := by omega
    exact ⟨hj, by rw [List.getElem?_eq_getElem hj]; rfl⟩
  · rintro ⟨p, hs, ht⟩
    have hin : ∀ l ∈ p, ∀ c ∈ l, 0 ≤ c ∧ c.toNat ∈ K := fun l hl c hc => by
      have := (hs.mem c).1 (List.mem_flatten.2 ⟨l, hl, hc⟩)
      exact ⟨this.1, (hKm _).2 ⟨by omega, this.2.2⟩⟩
    refine ⟨p.map (List.map fun c => (K.idxOf c.toNat : Int)), (key p _ (fun j => ((K[j.toNat]?.getD 0 : Nat) : Int)) ?_ (fun j h0 h1 => ?_) (fun j hj => ?_)).2 ⟨hs, ht⟩⟩
    · rw [List.map_map]
      symm
      calc p.map _ = p.map id := List.map_congr_left fun l hl => by
            show (l.map fun c => (K.idxOf c.toNat : Int)).map _ = l
            rw [List.map_map]
            calc l.map _ = l.map id := List.map_congr_left fun c hc => by
                  obtain ⟨c0, hcK⟩ := hin l hl c hc
                  have hlt := List.idxOf_lt_length_of_mem hcK
                  show ((K[((K.idxOf c.toNat : Nat) : Int).toNat]?.getD 0 : Nat) : Int) = c
                  rw [Int.toNat_natCast, List.getElem?_eq_getElem hlt, List.getElem_idxOf hlt, Option.getD_some]
                  omega
              _ = l := List.map_id l
        _ = p := List.map_id p
    · have hj : j.toNat < K.length := by omega
      exact ⟨hj, by rw [List.getElem?_eq_getElem hj]; rfl⟩
    · rw [← List.map_flatten] at hj
      obtain ⟨c, hc, rfl⟩ := List.mem_map.1 hj
      obtain ⟨l, hl, hcl⟩ := List.mem_flatten.1 hc
      have := List.idxOf_lt_length_of_mem (hin l hl c hcl).2
      omega
end Go.Proofs.YtelmponkmmfffaaGreat
namespace Go.Proofs.YtelmponkmmfffaaGreat

theorem fold_inv {α β : Type} (step : β → α → β) (P : List α → β → Prop) (hs : ∀ S b x, P S b → P (S ++ [x]) (step b x)) : ∀ (L S : List α) (b : β), P S b → P (S ++ L) (L.foldl step b)
  | [], S, b, h => by rw [List.append_nil]; exact h
  | x :: L, S, b, h => by
    have := fold_inv step P hs L (S ++ [x]) (step b x) (hs S b x h)
    rwa [List.append_assoc] at this
/-- What the reference's best is among plans. -/
def BestOf (h : DeH) (S : List (List (List Int))) (b : Option (List (List Int) × Int)) : Prop :=
  match b with
  | none => ∀ p ∈ S, deDoes h p ≠ 1
  | some (q, n) => q ∈ S ∧ deDoes h q = 1 ∧ n = deOver h q ∧ ∀ p ∈ S, deDoes h p = 1 → n < deOver h p ∨ (n = deOver h p ∧ beforeD p q = false)
def OkD (h : DeH) (p : List (List Int)) : Prop := p.length = h.writers.length ∧ ∀ c ∈ p.flatten, 0 ≤ c
theorem before_irrefl {h : DeH} {p : List (List Int)} (hp : OkD h p) : beforeD p p = false := by
  rw [before_seq p p rfl hp.2 hp.2]; exact less_irrefl _
theorem less_chain {a b c : List Int} (h1 : less a b = true) (h2 : less c b = false) : less c a = false := by
  cases e : less c a with
  | false => rfl
  | true => have := less_trans _ _ _ e h1; rw [h2] at this; cases this
theorem before_chain {h : DeH} {p q r : List (List Int)} (hp : OkD h p) (hq : OkD h q) (hr : OkD h r) (h1 : beforeD p q = true) (h2 : beforeD r q = false) : beforeD r p = false := by
  rw [before_seq p q (by rw [hp.1, hq.1]) hp.2 hq.2] at h1
  rw [before_seq r q (by rw [hr.1, hq.1]) hr.2 hq.2] at h2
  rw [before_seq r p (by rw [hr.1, hp.1]) hr.2 hp.2]
  exact less_chain h1 h2
theorem ok_of {h : DeH} {k : Nat} {p : List (List Int)} (hp : PlanOk h k p) : OkD h p := ⟨hp.len, fun c hc => ((hp.mem c).1 hc).1⟩
theorem best_of (h : DeH) : BestOf h (dePlans h) (bestD h) := by
  have hall : ∀ p ∈ dePlans h, OkD h p := fun p hp => ok_of (mem_plans.1 hp)
  have key : ∀ (L S : List (List (List Int))) (b : Option (List (List Int) × Int)), (∀ p ∈ S ++ L, OkD h p) → BestOf h S b → BestOf h (S ++ L) (L.foldl (bestStepD h) b) := by
    intro L
    induction L with
    | nil => intro S b _ hb; rw [List.append_nil]; exact hb
    | cons x L ih =>
      intro S b ho hb
      have hx := ho x (by simp)
      have := ih (S ++ [x]) (bestStepD h b x) (by simpa using ho) (by
        unfold bestStepD
        by_cases hd : deDoes h x = 1
        · rw [if_pos hd]
          cases b with
          | none =>
            refine ⟨by simp, hd, rfl, fun p hp hdp => ?_⟩
            rcases List.mem_append.1 hp with h1 | h1
            · exact absurd hdp (hb p h1)
            · rw [List.mem_singleton] at h1; subst h1; exact .inr ⟨rfl, before_irrefl hx⟩
          | some qn =>
            obtain ⟨q, n⟩ := qn
            obtain ⟨b1, b2, b3, b4⟩ := hb
            have hq := ho q (by simp [b1])
            by_cases hc : deOver h x < n ∨ (deOver h x = n ∧ beforeD x q = true)
            · simp only [if_pos hc]
              refine ⟨by simp, hd, rfl, fun p hp hdp => ?_⟩
              rcases List.mem_append.1 hp with h1 | h1
              · have hp2 := ho p (by simp [h1])
                rcases hc with hc | ⟨hc, hcb⟩ <;> rcases b4 p h1 hdp with h2 | ⟨h2, h3⟩
                · exact .inl (by omega)
                · exact .inl (by omega)
                · exact .inl (by omega)
                · exact .inr ⟨by omega, before_chain hx hq hp2 hcb h3⟩
              · rw [List.mem_singleton] at h1; subst h1; exact .inr ⟨rfl, before_irrefl hx⟩
            · simp only [if_neg hc]
              refine ⟨by simp [b1], b2, b3, fun p hp hdp => ?_⟩
              rcases List.mem_append.1 hp with h1 | h1
              · exact b4 p h1 hdp
              · rw [List.mem_singleton] at h1; subst h1
                rw [not_or, not_and] at hc
                by_cases e : n = deOver h p
                · exact .inr ⟨e, by simpa using hc.2 e.symm⟩
                · exact .inl (by have := hc.1; omega)
        · rw [if_neg hd]
          cases b with
          | none =>
            intro p hp hdp
            rcases List.mem_append.1 hp with h1 | h1
            · exact hb p h1 hdp
            · rw [List.mem_singleton] at h1; subst h1; exact hd hdp
          | some qn =>
            obtain ⟨q, n⟩ := qn
            obtain ⟨b1, b2, b3, b4⟩ := hb
            refine ⟨by simp [b1], b2, b3, fun p hp hdp => ?_⟩
            rcases List.mem_append.1 hp with h1 | h1
            · exact b4 p h1 hdp
            · rw [List.mem_singleton] at h1; subst h1; exact absurd hdp hd)
      rwa [List.append_assoc] at this
  have := key (dePlans h) [] none (by simpa using hall) (fun p hp => by cases hp)
  rw [List.nil_append] at this
  exact this
/-- All writers and customers. -/
@[reducible] def fullW (h : DeH) : Nat := 2 ^ h.writers.length - 1
@[reducible] def fullC (h : DeH) : Nat := 2 ^ h.customers.length - 1
theorem best_none {h : DeH} (hv : DeValid h) (ho : overB h (fullW h) (fullC h) = -1) : bestD h = none := by
  have hb := best_of h
  cases e : bestD h with
  | none => rfl
  | some qn =>
    obtain ⟨q, n⟩ := qn
    rw [e] at hb
    have hp := mem_plans.1 hb.1
    have := (someM_iff (wm := fullW h) hv.nw (pow_pred h.customers.length)).2 ⟨q, sub_full.2 hp, (must_iff hv hp).1 hb.2.1⟩
    have h2 : overB h (fullW h) (2 ^ h.customers.length - 1) = -1 := ho
    omega
theorem best_some {h : DeH} (hv : DeValid h) (ho : 0 ≤ overB h (fullW h) (fullC h)) : ∃ q, PlanOk h h.customers.length q ∧ allIn h q ∧
    seqOf q = findF h (fullW h) (fullC h) (overB h (fullW h) (fullC h)) (leftD h (beginD h)) (beginD h) ∧ bestD h = some (q, overB h (fullW h) (fullC h)) := by
  have hw0 : (beginD h).writer = 0 := rfl
  obtain ⟨z, hr, hf, hv1, hfirst⟩ := find_spec (wm := fullW h) (cm := fullC h) ho (leftD h (beginD h)) (beginD h) (by rw [hw0]; omega) (Nat.le_refl _) rfl
  obtain ⟨q, q1, q2, q3, rfl⟩ := run_plan hr hf (by rw [hw0]; omega)
  rw [hw0, Nat.zero_add] at q1
  obtain ⟨g1, g2⟩ := (good_iff hv.nw (pow_pred h.customers.length) q1).1 ⟨q3, hf⟩
  have hq := sub_full.1 g1
  have hov : deOver h q = overB h (fullW h) (fullC h) := by rw [← fv_over hv hq]; exact hv1
  refine ⟨q, hq, g2, q2.symm, ?_⟩
  have hdq : deDoes h q = 1 := (must_iff hv hq).2 g2
  have hb := best_of h
  cases e : bestD h with
  | none =>
    rw [e] at hb
    exact absurd hdq (hb q (mem_plans.2 hq))
  | some pn =>
    obtain ⟨p, n⟩ := pn
    rw [e] at hb
    obtain ⟨b1, b2, b3, b4⟩ := hb
    have hp := mem_plans.1 b1
    have hin := (must_iff hv hp).1 b2
    have hge : overB h (fullW h) (fullC h) ≤ fvD h (planEnd h (beginD h) p) := by
      rcases overB_spec (wm := fullW h) hv.nw (pow_pred h.customers.length) with ⟨_, hno⟩ | ⟨_, _, hall⟩
      · exact absurd hin (hno p (sub_full.2 hp))
      · exact hall p (sub_full.2 hp) hin
    rw [fv_over hv hp] at hge
    have hle := b4 q (mem_plans.2 hq) hdq
    have heq : deOver h p = overB h (fullW h) (fullC h) := by omega
    have hbf : beforeD q p = false := by
      rcases hle with h1 | ⟨_, h2⟩
      · omega
      · exact h2
    obtain ⟨r1, r2⟩ := (good_iff hv.nw (pow_pred h.customers.length) hp.len).2 ⟨sub_full.2 hp, hin⟩
    have hrun := run_good p _ r1 (by rw [hw0, Nat.zero_add]; exact hp.len)
    rw [before_seq q p (by rw [hq.len, hp.len]) (ok_of hq).2 (ok_of hp).2] at hbf
    have hpq : seqOf p = seqOf q := by
      rcases hfirst _ _ hrun r2 (by rw [fv_over hv hp]; exact heq) with h1 | h1
      · rw [h1, q2]
      · rw [q2, hbf] at h1; cases h1
    rw [seq_inj p q (by rw [hq.len, hp.len]) (ok_of hp).2 (ok_of hq).2 hpq]
    rw [show n = overB h (fullW h) (fullC h) by omega]

/-- The moves put into lists. -/
def placeStep (s : List (List Int) × Nat) (c : Int) : List (List Int) × Nat := if c < 0 then (s.1, s.2 + 1) else (s.1.modify s.2 (· ++ [c]), s.2)
theorem modify_mid (f : List Int → List Int) (a : List Int) (rest : List (List Int)) : ∀ dn : List (List Int), (dn ++ a :: rest).modify dn.length f = dn ++ f a :: rest
  | [] => rfl
  | d :: dn => by
    have := modify_mid f a rest dn
    simp only [List.cons_append, List.length_cons, List.modify_succ_cons, this]
theorem place_row (rest : List (List Int)) : ∀ (l a : List Int) (dn : List (List Int)), (∀ c ∈ l, 0 ≤ c) → l.foldl placeStep (dn ++ a :: rest, dn.length) = (dn ++ (a ++ l) :: rest, dn.length)
  | [], a, dn, _ => by simp
  | c :: l, a, dn, h => by
    rw [List.foldl_cons]
    have : placeStep (dn ++ a :: rest, dn.length) c = (dn ++ (a ++ [c]) :: rest, dn.length) := by
      unfold placeStep
      rw [if_neg (by have := h c (by simp); omega)]
      rw [modify_mid]
    rw [this, place_row rest l (a ++ [c]) dn (fun d hd => h d (List.mem_cons_of_mem _ hd))]
    simp
theorem place_seq : ∀ (q dn : List (List Int)), (∀ c ∈ q.flatten, 0 ≤ c) → (seqOf q).foldl placeStep (dn ++ List.replicate q.length [], dn.length) = (dn ++ q, dn.length + q.length)
  | [], dn, _ => by simp [seqOf]
  | l :: q, dn, h => by
    rw [seqOf_cons, List.foldl_append, List.length_cons, List.replicate_succ, place_row _ l [] dn (fun c hc => h c (by rw [List.flatten_cons]; exact List.mem_append.2 (.inl hc))), List.foldl_cons]
    have e : placeStep (dn ++ ([] ++ l) :: List.replicate q.length [], dn.length) (-1) = ((dn ++ [l]) ++ List.replicate q.length [], (dn ++ [l]).length) := by
      unfold placeStep
      rw [if_pos (by decide)]
      simp
    rw [e, place_seq q (dn ++ [l]) (fun c hc => h c (by rw [List.flatten_cons]; exact List.mem_append.2 (.inr hc)))]
    simp
    omega

/-- Enough. -/
theorem enough_found {h : DeH} (he : deErr h = 0) {best : List Int} {found : Bool} (hf : Found h.writers.length (fun s => decide (0 ≤ overB h s (fullC h))) (2 ^ h.writers.length) best found) : deEnough h = if found then (best, 0) else ([], 9) := by
  have hv := deValid_of he
  have e : (fun s => decide (0 ≤ overB h s (fullC h))) = fun s => (fun l => someD (onlyD h l)) (bitsList s h.writers.length) := funext fun s => (some_only hv s).symm
  rw [e] at hf
  unfold deEnough
  rw [if_pos he, found_search (so := fun l => someD (onlyD h l)) hf]
  cases found <;> rfl
theorem stay_full {l : List Int} {n : Nat} (h : incr n l) (hl : l.length = n) : stayOf (setOf l) n = [] := by
  rw [List.eq_nil_iff_forall_not_mem]
  intro i hi
  obtain ⟨h1, h2⟩ := stay_mem.1 hi
  have := incr_fullE h hl i h1
  rw [setOf_bit l i (fun x hx => (h.2 x hx).1)] at h2
  exact (of_decide_eq_false h2) this
theorem away_all {h : DeH} (hv : DeValid h) (l : List Int) (h1 : incr h.customers.length l) (h2 : l.length = h.customers.length) : someD (butD h l) = true := by
  have hb := but_valid hv (setOf l)
  have hc := but_customers h (setOf l)
  rw [setOf_bits h1] at hb hc
  rw [stay_full h1 h2] at hc
  rw [some_iff hb]
  have h0 : (butD h l).customers.length = 0 := by rw [hc]; rfl
  refine ⟨List.replicate (butD h l).writers.length [], by rw [h0]; exact plan_zero.2 rfl, fun w l hl => ?_⟩
  have : l = [] := by
    obtain ⟨hlt, rfl⟩ := List.getElem?_eq_some_iff.1 hl
    simp
  rw [this]; trivial
theorem away_first {h : DeH} (he : deErr h = 0) : FirstOf (fun l => incr h.customers.length l ∧ someD (butD h l) = true) (deAway h).1 ∧ (deAway h).2 = 0 := by
  have hv := deValid_of he
  unfold deAway
  rw [if_pos he]
  exact ⟨first_or_all (fun l => someD (butD h l)) h.customers.length hv.nc (fun l h1 h2 => away_all hv l h1 h2), rfl⟩
def awayM (n s : Nat) : Nat := (2 ^ n - 1) &&& ((2 ^ n - 1) ^^^ s)
theorem awayM_lt (n s : Nat) : awayM n s < 2 ^ n := Nat.lt_of_le_of_lt Nat.and_le_left (pow_pred n)
theorem awayM_bit (n s i : Nat) (h : i < n) : (awayM n s).testBit i = !s.testBit i := by
  unfold awayM
  rw [Nat.testBit_and, Nat.testBit_xor, full_bit, decide_eq_true h]
  simp
theorem away_found {h : DeH} (he : deErr h = 0) {best : List Int} {found : Bool} (hf : Found h.customers.length (fun s => decide (0 ≤ overB h (fullW h) (awayM h.customers.length s))) (2 ^ h.customers.length) best found) : deAway h = (best, 0) := by
  have hv := deValid_of he
  obtain ⟨a1, a2⟩ := away_first he
  have e : (fun s => decide (0 ≤ overB h (fullW h) (awayM h.customers.length s))) = fun s => (fun l => someD (butD h l)) (bitsList s h.customers.length) := funext fun s => (some_but hv s _ (awayM_lt _ _) (fun i hi => awayM_bit _ _ i hi)).symm
  rw [e] at hf
  exact Prod.ext (found_first (so := fun l => someD (butD h l)) a1 hf).2.symm a2
end Go.Proofs.YtelmponkmmfffaaGreat
namespace Go.Proofs.YtelmponkmmfffaaGreat

section
variable (h : DeH) (c : Nat) (m : Int)
theorem ship_len : (shippedD h c m).customers.length = h.customers.length := by simp [shippedD]
theorem ship_at (i : Nat) : customerAt (shippedD h c m) i = if i = c ∧ i < h.customers.length then { customerAt h i with ship := m } else customerAt h i := by
  unfold customerAt shippedD
  simp only [List.getElem?_modify]
  by_cases hi : i < h.customers.length
  · rw [List.getElem?_eq_getElem hi]
    by_cases e : c = i
    · subst e; simp [hi]
    · rw [if_neg (fun hh => e hh.1.symm)]; simp [e]
  · rw [if_neg (fun hh => hi hh.2), List.getElem?_eq_none (by omega)]; rfl
theorem ship_writers : (shippedD h c m).writers = h.writers := rfl
theorem ship_hi (i : Nat) : (customerAt (shippedD h c m) i).hi = (customerAt h i).hi := by rw [ship_at]; split <;> rfl
theorem ship_lo (i : Nat) : (customerAt (shippedD h c m) i).lo = (customerAt h i).lo := by rw [ship_at]; split <;> rfl
theorem ship_kind (i : Nat) : (customerAt (shippedD h c m) i).kind = (customerAt h i).kind := by rw [ship_at]; split <;> rfl
theorem ship_can (w i : Nat) : canD (shippedD h c m) w i = canD h w i := by unfold canD; rw [ship_kind]; rfl
theorem ship_sealRow : ∀ (l : List Int) (s : Int × Int) (out : List (Int × Int)), sealRow (shippedD h c m) l s out = sealRow h l s out
  | [], _, _ => rfl
  | d :: l, s, out => by
    show sealRow (shippedD h c m) l _ _ = sealRow h l _ _
    rw [ship_lo, ship_hi, ship_sealRow l]; rfl
theorem ship_sealRows : ∀ (p : List (List Int)) (w : Nat) (out : List (Int × Int)), sealRows (shippedD h c m) w p out = sealRows h w p out
  | [], _, _ => rfl
  | l :: p, w, out => by
    show sealRows (shippedD h c m) (w + 1) p (sealRow (shippedD h c m) l _ out) = sealRows h (w + 1) p (sealRow h l _ out)
    rw [ship_sealRow, ship_sealRows p]; rfl
theorem ship_sealed (p : List (List Int)) : deSealed (shippedD h c m) p = deSealed h p := by unfold deSealed; rw [ship_sealRows, ship_len]
variable {h c m}
theorem ship_ok {k : Nat} {p : List (List Int)} : PlanOk (shippedD h c m) k p ↔ PlanOk h k p := by
  constructor
  · rintro ⟨a, b, d, e⟩; exact ⟨a, b, d, fun w l hl x hx => by have := e w l hl x hx; rwa [ship_can] at this⟩
  · rintro ⟨a, b, d, e⟩; exact ⟨a, b, d, fun w l hl x hx => by have := e w l hl x hx; rwa [ship_can]⟩
theorem ship_valid (hv : DeValid h) (h0 : 0 ≤ m) (h1 : m ≤ 240) : DeValid (shippedD h c m) := by
  refine ⟨hv.nw, by rw [ship_len]; exact hv.nc, hv.wax, hv.w, fun i hi => ?_⟩
  have hi2 : i < h.customers.length := by rw [ship_len] at hi; exact hi
  have e : (shippedD h c m).customers[i] = customerAt (shippedD h c m) i := by unfold customerAt; rw [List.getElem?_eq_getElem hi]; rfl
  have e2 : h.customers[i] = customerAt h i := by unfold customerAt; rw [List.getElem?_eq_getElem hi2]; rfl
  have := hv.c i hi2
  rw [e2] at this
  rw [e, ship_at]
  split
  · simp only; omega
  · exact this
end
theorem sealed_le {h : DeH} (hv : DeValid h) {p : List (List Int)} (hp : PlanOk h h.customers.length p) {i : Nat} {s : Int × Int} (hs : (deSealed h p)[i]? = some s) : s.1 ≤ s.2 := by
  have hc : i < h.customers.length := by rw [← sealed_len h p]; exact (List.getElem?_eq_some_iff.1 hs).1
  obtain ⟨w, a, b, hw, hwp⟩ := plan_has hp hc
  have e := sealed_at hp hwp
  rw [Int.toNat_natCast, hs] at e
  obtain rfl := Option.some.inj e
  exact span_le hv _ _ (fun d hd => (hp.mem d).1 (List.mem_flatten.2 ⟨_, List.mem_of_getElem? hwp, by
    rcases List.mem_append.1 hd with h3 | h3
    · exact List.mem_append.2 (.inl h3)
    · rw [List.mem_singleton] at h3; rw [h3]; simp⟩)) (hv.writer hw).2
/-- A plan surely does just if the latest of each letter is in time. -/
theorem does_hi {h : DeH} (hv : DeValid h) {p : List (List Int)} (hp : PlanOk h h.customers.length p) : deDoes h p = 1 ↔ ∀ i s, (deSealed h p)[i]? = some s → s.2 ≤ (customerAt h i).ship := by
  unfold deDoes
  rw [does_iff]
  simp only [Nat.zero_add]
  constructor
  · rintro ⟨_, h1⟩ i s hs; exact (h1 i s hs).2
  · intro h1
    refine ⟨trivial, fun i s hs => ⟨?_, h1 i s hs⟩⟩
    have := sealed_le hv hp hs
    have := h1 i s hs
    omega
/-- The latest at which the letter of a customer is sealed. -/
def sealHi (h : DeH) (p : List (List Int)) (c : Nat) : Int := ((deSealed h p)[c]?.getD (0, 0)).2
theorem ship_does {h : DeH} (hv : DeValid h) {c : Nat} (hc : c < h.customers.length) {m : Int} (h0 : 0 ≤ m) (h1 : m ≤ 240) {p : List (List Int)} (hp : PlanOk h h.customers.length p) :
    deDoes (shippedD h c m) p = 1 ↔ (∀ i s, i ≠ c → (deSealed h p)[i]? = some s → s.2 ≤ (customerAt h i).ship) ∧ sealHi h p c ≤ m := by
  rw [does_hi (ship_valid hv h0 h1) (by rw [ship_len]; exact ship_ok.2 hp)]
  simp only [ship_sealed, ship_at]
  have hcs : c < (deSealed h p).length := by rw [sealed_len]; exact hc
  have hsh : sealHi h p c = ((deSealed h p)[c]).2 := by unfold sealHi; rw [List.getElem?_eq_getElem hcs]; rfl
  constructor
  · intro hall
    refine ⟨fun i s hi hs => ?_, ?_⟩
    · have := hall i s hs
      rwa [if_neg (fun hh => hi hh.1)] at this
    · have := hall c _ (List.getElem?_eq_getElem hcs)
      rw [if_pos ⟨rfl, hc⟩] at this
      rw [hsh]; exact this
  · rintro ⟨h2, h3⟩ i s hs
    by_cases e : i = c
    · subst e
      rw [if_pos ⟨rfl, hc⟩]
      rw [List.getElem?_eq_getElem hcs] at hs
      obtain rfl := Option.some.inj hs
      rw [hsh] at h3; exact h3
    · rw [if_neg (fun hh => e hh.1)]
      exact h2 i s e hs
/-- With the ship at a minute there is a plan that surely does. -/
def doesAt (h : DeH) (c : Nat) (m : Int) : Bool := decide (0 ≤ overB (shippedD h c m) (fullW h) (fullC h))
theorem doesAt_some {h : DeH} (hv : DeValid h) {c : Nat} {m : Int} (h0 : 0 ≤ m) (h1 : m ≤ 240) : doesAt h c m = someD (shippedD h c m) := by
  rw [some_full (ship_valid hv h0 h1)]
  unfold doesAt
  rw [ship_len, ship_writers]
theorem doesAt_iff {h : DeH} (hv : DeValid h) {c : Nat} (hc : c < h.customers.length) {m : Int} (h0 : 0 ≤ m) (h1 : m ≤ 240) : doesAt h c m = true ↔ ∃ p ∈ dePlans h, deDoes (shippedD h c 240) p = 1 ∧ sealHi h p c ≤ m := by
  rw [doesAt_some hv h0 h1]
  unfold someD
  rw [List.any_eq_true]
  constructor
  · rintro ⟨p, hp, hd⟩
    have hd := of_decide_eq_true hd
    have hp2 : PlanOk h h.customers.length p := by
      have := mem_plans.1 hp
      rw [ship_len] at this
      exact ship_ok.1 this
    obtain ⟨a, b⟩ := (ship_does hv hc h0 h1 hp2).1 hd
    exact ⟨p, mem_plans.2 hp2, (ship_does hv hc (by decide) (by decide) hp2).2 ⟨a, by omega⟩, b⟩
  · rintro ⟨p, hp, hd, hm⟩
    have hp2 : PlanOk h h.customers.length p := mem_plans.1 hp
    obtain ⟨a, b⟩ := (ship_does hv hc (by decide) (by decide) hp2).1 hd
    exact ⟨p, mem_plans.2 (by rw [ship_len]; exact ship_ok.2 hp2), decide_eq_true ((ship_does hv hc h0 h1 hp2).2 ⟨a, hm⟩)⟩
/-- What the reference's least is among plans. -/
def LeastOf (h : DeH) (c : Nat) (S : List (List (List Int))) (b : Option Int) : Prop :=
  match b with
  | none => ∀ p ∈ S, deDoes (shippedD h c 240) p ≠ 1
  | some n => (∃ p ∈ S, deDoes (shippedD h c 240) p = 1 ∧ n = max 0 (sealHi h p c - (customerAt h c).ship)) ∧ ∀ p ∈ S, deDoes (shippedD h c 240) p = 1 → n ≤ max 0 (sealHi h p c - (customerAt h c).ship)
theorem laterStep_eq (h : DeH) (c : Nat) (b : Option Int) (p : List (List Int)) : laterStep h (shippedD h c 240) c b p = if deDoes (shippedD h c 240) p = 1 then (match b with
    | none => some (max 0 (sealHi h p c - (customerAt h c).ship))
    | some n => if max 0 (sealHi h p c - (customerAt h c).ship) < n then some (max 0 (sealHi h p c - (customerAt h c).ship)) else some n) else b := rfl
theorem least_of (h : DeH) (c : Nat) : LeastOf h c (dePlans h) ((dePlans h).foldl (laterStep h (shippedD h c 240) c) none) := by
  have := fold_inv (laterStep h (shippedD h c 240) c) (LeastOf h c) (fun S b x hb => by
    rw [laterStep_eq]
    by_cases hd : deDoes (shippedD h c 240) x = 1
    · rw [if_pos hd]
      cases b with
      | none =>
        refine ⟨⟨x, by simp, hd, rfl⟩, fun p hp hdp => ?_⟩
        rcases List.mem_append.1 hp with h1 | h1
        · exact absurd hdp (hb p h1)
        · rw [List.mem_singleton] at h1; subst h1; exact Int.le_refl _
      | some n =>
        obtain ⟨⟨q, q1, q2, q3⟩, hall⟩ := hb
        by_cases hc : max 0 (sealHi h x c - (customerAt h c).ship) < n
        · simp only [if_pos hc]
          refine ⟨⟨x, by simp, hd, rfl⟩, fun p hp hdp => ?_⟩
          rcases List.mem_append.1 hp with h1 | h1
          · exact Int.le_trans (Int.le_of_lt hc) (hall p h1 hdp)
          · rw [List.mem_singleton] at h1; subst h1; exact Int.le_refl _
        · simp only [if_neg hc]
          refine ⟨⟨q, by simp [q1], q2, q3⟩, fun p hp hdp => ?_⟩
          rcases List.mem_append.1 hp with h1 | h1
          · exact hall p h1 hdp
          · rw [List.mem_singleton] at h1; subst h1; exact Int.not_lt.1 hc
    · rw [if_neg hd]
      cases b with
      | none =>
        intro p hp hdp
        rcases List.mem_append.1 hp with h1 | h1
        · exact hb p h1 hdp
        · rw [List.mem_singleton] at h1; subst h1; exact hd hdp
      | some n =>
        obtain ⟨⟨q, q1, q2, q3⟩, hall⟩ := hb
        refine ⟨⟨q, by simp [q1], q2, q3⟩, fun p hp hdp => ?_⟩
        rcases List.mem_append.1 hp with h1 | h1
        · exact hall p h1 hdp
        · rw [List.mem_singleton] at h1; subst h1; exact absurd hdp hd) (dePlans h) [] none (fun p hp => by cases hp)
  rw [List.nil_append] at this
  exact this
theorem laterErr_ok {h : DeH} {c : Nat} (he : deErr h = 0) (hc : c < h.customers.length) : laterErr h (c : Int) = 0 := by
  unfold laterErr
  rw [if_pos he, if_pos (inB_iff.2 (by omega))]
theorem later_never {h : DeH} {c : Nat} (he : deErr h = 0) (hc : c < h.customers.length) (hd : doesAt h c 240 = false) : deLater h (c : Int) = (0, 9) := by
  have hv := deValid_of he
  have hl := least_of h c
  unfold deLater
  rw [if_pos (laterErr_ok he hc), Int.toNat_natCast]
  cases e : (dePlans h).foldl (laterStep h (shippedD h c 240) c) none with
  | none => rfl
  | some n =>
    rw [e] at hl
    obtain ⟨⟨q, q1, q2, _⟩, _⟩ := hl
    obtain ⟨_, hm⟩ := (ship_does hv hc (by decide) (by decide) (mem_plans.1 q1)).1 q2
    have := (doesAt_iff hv hc (m := 240) (by decide) (by decide)).2 ⟨q, q1, q2, hm⟩
    rw [hd] at this; cases this
theorem later_is {h : DeH} {c : Nat} (he : deErr h = 0) (hc : c < h.customers.length) {m : Int} (h0 : (customerAt h c).ship ≤ m) (h1 : m ≤ 240) (hd : doesAt h c m = true) (hno : (customerAt h c).ship < m → doesAt h c (m - 1) = false) : deLater h (c : Int) = (m - (customerAt h c).ship, 0) := by
  have hv := deValid_of he
  have hl := least_of h c
  have hs0 : 0 ≤ (customerAt h c).ship := by
    have := hv.c c hc
    rw [show customerAt h c = h.customers[c] from by unfold customerAt; rw [List.getElem?_eq_getElem hc]; rfl]
    omega
  obtain ⟨p, hp, hdp, hm⟩ := (doesAt_iff hv hc (by omega) h1).1 hd
  unfold deLater
  rw [if_pos (laterErr_ok he hc), Int.toNat_natCast]
  cases e : (dePlans h).foldl (laterStep h (shippedD h c 240) c) none with
  | none => rw [e] at hl; exact absurd hdp (hl p hp)
  | some n =>
    rw [e] at hl
    obtain ⟨⟨q, q1, q2, q3⟩, hall⟩ := hl
    have hle := hall p hp hdp
    have hge : m - (customerAt h c).ship ≤ n := by
      by_cases hlt : (customerAt h c).ship < m
      · have hf := hno hlt
        have : ¬ sealHi h q c ≤ m - 1 := fun hh => by
          have := (doesAt_iff hv hc (m := m - 1) (by omega) (by omega)).2 ⟨q, q1, q2, hh⟩
          rw [hf] at this; cases this
        omega
      · omega
    rw [show n = m - (customerAt h c).ship by omega]
theorem later_err {h : DeH} {c : Int} (he : laterErr h c ≠ 0) : deLater h c = (0, laterErr h c) := by unfold deLater; rw [if_neg he]
end Go.Proofs.YtelmponkmmfffaaGreat
