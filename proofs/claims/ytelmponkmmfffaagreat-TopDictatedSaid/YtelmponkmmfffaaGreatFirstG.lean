/- What is proved here: when the letters of a plan are sealed, whether it surely does, and when it is over, in layer 9. No program. No condition. -/
/- What is proved here: when a plan is over, as the search of layer 9 finds it; plans of some writers for some customers. No program. No condition. -/
/- What is proved here: plain facts: the first of the fewest numbers that do, sought among lists or among sets. No program. No condition. -/
import Derived.Test.YtelmponkmmfffaaGreatDeTimeG
import Derived.Test.YtelmponkmmfffaaGreatDeSpecG
set_option linter.unusedVariables false
set_option linter.unusedSimpArgs false
namespace Go.Proofs.YtelmponkmmfffaaGreat

structure DeValid (h : DeH) : Prop where
  nw : h.writers.length ≤ 3
  nc : h.customers.length ≤ 5
  wax : 0 ≤ h.wax ∧ h.wax ≤ 5
  w : ∀ i (hi : i < h.writers.length), 0 ≤ h.writers[i].kinds ∧ h.writers[i].kinds ≤ 15 ∧ 0 ≤ h.writers[i].lo ∧ h.writers[i].lo ≤ h.writers[i].hi ∧ h.writers[i].hi ≤ 240
  c : ∀ i (hi : i < h.customers.length), 0 ≤ h.customers[i].kind ∧ h.customers[i].kind ≤ 3 ∧ 1 ≤ h.customers[i].lo ∧ h.customers[i].lo ≤ h.customers[i].hi ∧ h.customers[i].hi ≤ 30 ∧ 0 ≤ h.customers[i].ship ∧ h.customers[i].ship ≤ 240
theorem endsE_zero {lo hi a b : Int} (h : endsE lo hi a b = 0) : a ≤ lo ∧ lo ≤ hi ∧ hi ≤ b := by
  unfold endsE at h
  by_cases h1 : (inB lo a b && inB hi a b) = true
  · rw [if_pos h1] at h
    rw [Bool.and_eq_true, inB_iff, inB_iff] at h1
    by_cases h2 : hi < lo
    · rw [if_pos h2] at h; omega
    · omega
  · rw [if_neg h1] at h; omega
theorem deValid_of {h : DeH} (he : deErr h = 0) : DeValid h := by
  unfold deErr deCheck at he
  by_cases h0 : inB h.wax 0 5 = true
  · rw [if_pos h0] at he
    obtain ⟨w1, w2, he⟩ := checkPart_zero he
    obtain ⟨c1, c2, _⟩ := checkPart_zero he
    refine ⟨w1, c1, inB_iff.1 h0, fun i hi => ?_, fun i hi => ?_⟩
    · have := w2 i hi
      unfold deWErr at this
      rw [List.getElem?_eq_getElem hi] at this
      simp only at this
      have hz : deWErrOf h.writers[i] = 0 := by
        by_cases hf : fresh h.writers[i].name ((h.writers.take i).map (·.name)) = 0
        · rw [if_pos hf] at this; exact this
        · rw [if_neg hf] at this; exact absurd this hf
      unfold deWErrOf at hz
      by_cases hk : inB h.writers[i].kinds 0 15 = true
      · rw [if_pos hk] at hz
        have h1 := inB_iff.1 hk
        have h2 := endsE_zero hz
        omega
      · rw [if_neg hk] at hz; omega
    · have := c2 i hi
      unfold deCErr at this
      rw [List.getElem?_eq_getElem hi] at this
      simp only at this
      have hz : deCErrOf h.customers[i] = 0 := by
        by_cases hf : fresh h.customers[i].name ((h.customers.take i).map (·.name)) = 0
        · rw [if_pos hf] at this; exact this
        · rw [if_neg hf] at this; exact absurd this hf
      unfold deCErrOf at hz
      by_cases hk : (inB h.customers[i].kind 0 3 && inB h.customers[i].ship 0 240) = true
      · rw [if_pos hk] at hz
        rw [Bool.and_eq_true, inB_iff, inB_iff] at hk
        have h2 := endsE_zero hz
        omega
      · rw [if_neg hk] at hz; omega
  · rw [if_neg h0] at he; simp at he
theorem DeValid.cust {h : DeH} (hv : DeValid h) {c : Nat} (hc : c < h.customers.length) : 1 ≤ (customerAt h c).lo ∧ (customerAt h c).lo ≤ (customerAt h c).hi := by
  have e : customerAt h c = h.customers[c] := by simp [customerAt, hc]
  rw [e]
  have := hv.c c hc
  omega
theorem DeValid.writer {h : DeH} (hv : DeValid h) {w : Nat} (hw : w < h.writers.length) : 0 ≤ (writerAt h w).lo ∧ (writerAt h w).lo ≤ (writerAt h w).hi := by
  have e : writerAt h w = h.writers[w] := by simp [writerAt, hw]
  rw [e]
  have := hv.w w hw
  omega

/-- The span of the letter behind a list. -/
def spanD (h : DeH) : Int × Int → List Int → Int × Int
  | s, [] => s
  | s, c :: l => spanD h (s.1 + (customerAt h c.toNat).lo + h.wax, s.2 + (customerAt h c.toNat).hi + h.wax) l
theorem spanD_hi (h : DeH) : ∀ (l : List Int) (s : Int × Int), (spanD h s l).2 = timeD h s.2 l
  | [], _ => rfl
  | c :: l, s => spanD_hi h l _
theorem spanD_append (h : DeH) : ∀ (a b : List Int) (s : Int × Int), spanD h s (a ++ b) = spanD h (spanD h s a) b
  | [], _, _ => rfl
  | c :: a, b, s => spanD_append h a b _
theorem sealRow_len (h : DeH) : ∀ (l : List Int) (s : Int × Int) (out : List (Int × Int)), (sealRow h l s out).length = out.length
  | [], _, _ => rfl
  | c :: l, s, out => (sealRow_len h l _ _).trans (by simp)
theorem sealRow_other (h : DeH) : ∀ (l : List Int) (s : Int × Int) (out : List (Int × Int)) (c : Nat), (∀ d ∈ l, d.toNat ≠ c) → (sealRow h l s out)[c]? = out[c]?
  | [], _, _, _, _ => rfl
  | d :: l, s, out, c, hc => by
    refine (sealRow_other h l _ _ c (fun e he => hc e (List.mem_cons_of_mem _ he))).trans ?_
    rw [List.getElem?_set, if_neg (hc d (by simp))]
theorem sealRow_at (h : DeH) : ∀ (a b : List Int) (c : Int) (s : Int × Int) (out : List (Int × Int)), c.toNat < out.length → (∀ d ∈ b, d.toNat ≠ c.toNat) → (sealRow h (a ++ c :: b) s out)[c.toNat]? = some (spanD h s (a ++ [c]))
  | [], b, c, s, out, hc, hb => by
    show (sealRow h b _ (out.set c.toNat _))[c.toNat]? = _
    rw [sealRow_other h b _ _ _ hb, List.getElem?_set, if_pos rfl, if_pos hc]
    rfl
  | d :: a, b, c, s, out, hc, hb => sealRow_at h a b c _ _ (by simpa using hc) hb
theorem sealRows_len (h : DeH) : ∀ (p : List (List Int)) (w : Nat) (out : List (Int × Int)), (sealRows h w p out).length = out.length
  | [], _, _ => rfl
  | l :: p, w, out => (sealRows_len h p _ _).trans (sealRow_len h l _ _)
theorem sealRows_other (h : DeH) : ∀ (p : List (List Int)) (w : Nat) (out : List (Int × Int)) (c : Nat), (∀ d ∈ p.flatten, d.toNat ≠ c) → (sealRows h w p out)[c]? = out[c]?
  | [], _, _, _, _ => rfl
  | l :: p, w, out, c, hc => by
    rw [List.flatten_cons] at hc
    exact (sealRows_other h p _ _ c (fun d hd => hc d (List.mem_append.2 (.inr hd)))).trans (sealRow_other h l _ _ c (fun d hd => hc d (List.mem_append.2 (.inl hd))))
theorem sealRows_at (h : DeH) : ∀ (p : List (List Int)) (w v : Nat) (a b : List Int) (c : Int) (out : List (Int × Int)), c.toNat < out.length → (∀ d ∈ p.flatten, 0 ≤ d) → p.flatten.Nodup → p[v]? = some (a ++ c :: b) →
    (sealRows h w p out)[c.toNat]? = some (spanD h ((writerAt h (w + v)).lo, (writerAt h (w + v)).hi) (a ++ [c]))
  | [], _, _, _, _, _, _, _, _, _, hm => by simp at hm
  | l :: p, w, v, a, b, c, out, hc, hp, hn, hm => by
    rw [List.flatten_cons] at hp hn
    rw [List.nodup_append] at hn
    obtain ⟨n1, n2, n3⟩ := hn
    cases v with
    | zero =>
      simp at hm
      subst hm
      show (sealRows h (w + 1) p (sealRow h (a ++ c :: b) _ out))[c.toNat]? = _
      rw [sealRows_other h p _ _ _ (fun d hd e => by
        have hc0 := hp c (by simp)
        have hd0 := hp d (List.mem_append.2 (.inr hd))
        exact n3 c (by simp) d hd (by omega))]
      rw [sealRow_at h a b c _ out hc (fun d hd e => by
        have hc0 := hp c (by simp)
        have hd0 := hp d (by simp [hd])
        rw [List.nodup_append] at n1
        have hn2 := (List.nodup_cons.1 n1.2.1).1
        exact hn2 (by have : d = c := by omega
                      rw [← this]; exact hd))]
      rfl
    | succ v =>
      show (sealRows h (w + 1) p (sealRow h l _ out))[c.toNat]? = _
      rw [sealRows_at h p (w + 1) v a b c _ (by rw [sealRow_len]; exact hc) (fun d hd => hp d (List.mem_append.2 (.inr hd))) n2 (by simpa using hm)]
      rw [show w + 1 + v = w + (v + 1) by omega]
/-- When a letter is sealed: behind all that its writer has before it. -/
theorem sealed_at {h : DeH} {p : List (List Int)} (hp : PlanOk h h.customers.length p) {w : Nat} {a b : List Int} {c : Int} (hw : p[w]? = some (a ++ c :: b)) : (deSealed h p)[c.toNat]? = some (spanD h ((writerAt h w).lo, (writerAt h w).hi) (a ++ [c])) := by
  have hb : ∀ d ∈ p.flatten, 0 ≤ d := fun d hd => ((hp.mem d).1 hd).1
  have hmem : c ∈ p.flatten := List.mem_flatten.2 ⟨a ++ c :: b, List.mem_of_getElem? hw, by simp⟩
  have := (hp.mem c).1 hmem
  have h2 := sealRows_at h p 0 w a b c (List.replicate h.customers.length (0, 0)) (by simp; omega) hb hp.nodup hw
  rwa [Nat.zero_add] at h2
theorem sealed_len (h : DeH) (p : List (List Int)) : (deSealed h p).length = h.customers.length := by unfold deSealed; rw [sealRows_len]; simp
/-- Each letter stands in some list. -/
theorem plan_has {h : DeH} {p : List (List Int)} (hp : PlanOk h h.customers.length p) {c : Nat} (hc : c < h.customers.length) : ∃ w a b, w < h.writers.length ∧ p[w]? = some (a ++ (c : Int) :: b) := by
  obtain ⟨l, hl, hcl⟩ := List.mem_flatten.1 ((hp.mem (c : Int)).2 (by omega))
  obtain ⟨w, hw, rfl⟩ := List.getElem_of_mem hl
  obtain ⟨a, b, hab⟩ := List.append_of_mem hcl
  exact ⟨w, a, b, by rw [← hp.len]; exact hw, by rw [List.getElem?_eq_getElem hw, hab]⟩

theorem does_iff (h : DeH) : ∀ (l : List (Int × Int)) (c : Nat) (out : Int), doesFrom h c l out = 1 ↔ out = 1 ∧ ∀ i s, l[i]? = some s → s.1 ≤ (customerAt h (c + i)).ship ∧ s.2 ≤ (customerAt h (c + i)).ship
  | [], c, out => by simp [doesFrom]
  | s :: l, c, out => by
    show (if (customerAt h c).ship < s.1 then (2 : Int) else doesFrom h (c + 1) l (if (customerAt h c).ship < s.2 then 0 else out)) = 1 ↔ _
    by_cases h1 : (customerAt h c).ship < s.1
    · rw [if_pos h1]
      constructor
      · intro e; cases e
      · rintro ⟨_, h2⟩
        have := h2 0 s (by simp)
        rw [Nat.add_zero] at this
        omega
    · rw [if_neg h1, does_iff h l]
      constructor
      · rintro ⟨h2, h3⟩
        by_cases h4 : (customerAt h c).ship < s.2
        · rw [if_pos h4] at h2; cases h2
        · rw [if_neg h4] at h2
          refine ⟨h2, fun i t ht => ?_⟩
          cases i with
          | zero => simp at ht; subst ht; rw [Nat.add_zero]; omega
          | succ i =>
            have := h3 i t (by simpa using ht)
            rwa [show c + 1 + i = c + (i + 1) by omega] at this
      · rintro ⟨h2, h3⟩
        have h4 := h3 0 s (by simp)
        rw [Nat.add_zero] at h4
        rw [if_neg (by omega)]
        refine ⟨h2, fun i t ht => ?_⟩
        have := h3 (i + 1) t (by simpa using ht)
        rwa [show c + (i + 1) = c + 1 + i by omega] at this
theorem inTime_iff {h : DeH} : ∀ {l : List Int} {t : Int}, inTime h t l ↔ ∀ a c b, l = a ++ c :: b → timeD h t (a ++ [c]) ≤ (customerAt h c.toNat).ship
  | [], t => by simp [inTime]
  | d :: l, t => by
    show (_ ∧ inTime h _ l) ↔ _
    rw [inTime_iff]
    constructor
    · rintro ⟨h1, h2⟩ a c b e
      cases a with
      | nil =>
        obtain ⟨e1, e2⟩ := List.cons.inj e
        subst e1
        exact h1
      | cons x a =>
        obtain ⟨e1, e2⟩ := List.cons.inj e
        subst e1
        exact h2 a c b e2
    · intro h1
      refine ⟨h1 [] d l rfl, fun a c b e => h1 (d :: a) c b (by rw [e]; rfl)⟩
theorem span_le {h : DeH} (hv : DeValid h) : ∀ (l : List Int) (s : Int × Int), (∀ c ∈ l, 0 ≤ c ∧ c < (h.customers.length : Int)) → s.1 ≤ s.2 → (spanD h s l).1 ≤ (spanD h s l).2
  | [], _, _, hs => hs
  | c :: l, s, hl, hs => by
    have hc := hl c (by simp)
    have := hv.cust (c := c.toNat) (by omega)
    exact span_le hv l _ (fun d hd => hl d (List.mem_cons_of_mem _ hd)) (by simp only; omega)
/-- A plan surely does just if each list is in time. -/
theorem must_iff {h : DeH} (hv : DeValid h) {p : List (List Int)} (hp : PlanOk h h.customers.length p) : deDoes h p = 1 ↔ ∀ w l, p[w]? = some l → inTime h (writerAt h w).hi l := by
  unfold deDoes
  rw [does_iff]
  simp only [Nat.zero_add]
  have hb : ∀ w l, p[w]? = some l → ∀ d ∈ l, 0 ≤ d ∧ d < (h.customers.length : Int) := fun w l hl d hd => (hp.mem d).1 (List.mem_flatten.2 ⟨l, List.mem_of_getElem? hl, hd⟩)
  constructor
  · rintro ⟨_, h1⟩ w l hl
    rw [inTime_iff]
    intro a c b e
    subst e
    have := h1 c.toNat _ (sealed_at hp hl)
    rw [spanD_hi] at this
    exact this.2
  · intro h1
    refine ⟨trivial, fun c s hs => ?_⟩
    have hc : c < h.customers.length := by
      rw [← sealed_len h p]
      exact (List.getElem?_eq_some_iff.1 hs).1
    obtain ⟨w, a, b, hw, hwp⟩ := plan_has hp hc
    have e := sealed_at hp hwp
    rw [Int.toNat_natCast, hs] at e
    obtain rfl := Option.some.inj e
    have h2 := inTime_iff.1 (h1 w _ hwp) a (c : Int) b rfl
    have hle := span_le hv (a ++ [(c : Int)]) ((writerAt h w).lo, (writerAt h w).hi) (fun d hd => hb w _ hwp d (by
      rcases List.mem_append.1 hd with h3 | h3
      · exact List.mem_append.2 (.inl h3)
      · rw [List.mem_singleton] at h3; rw [h3]; simp)) (hv.writer hw).2
    rw [Int.toNat_natCast] at h2
    rw [spanD_hi] at hle ⊢
    simp only at hle ⊢
    omega
end Go.Proofs.YtelmponkmmfffaaGreat
namespace Go.Proofs.YtelmponkmmfffaaGreat

theorem maxf_spec {α : Type} (P : α → Prop) [DecidablePred P] (g : α → Int) : ∀ (L : List α) (b : Int),
    b ≤ L.foldl (fun b x => if P x then max b (g x) else b) b ∧ (∀ x ∈ L, P x → g x ≤ L.foldl (fun b x => if P x then max b (g x) else b) b) ∧
    (L.foldl (fun b x => if P x then max b (g x) else b) b = b ∨ ∃ x ∈ L, P x ∧ L.foldl (fun b x => if P x then max b (g x) else b) b = g x)
  | [], b => ⟨Int.le_refl _, (fun x hx => by cases hx), .inl rfl⟩
  | x :: L, b => by
    obtain ⟨h1, h2, h3⟩ := maxf_spec P g L (if P x then max b (g x) else b)
    rw [List.foldl_cons]
    have hb : b ≤ (if P x then max b (g x) else b) := by split <;> omega
    refine ⟨by omega, fun y hy hP => ?_, ?_⟩
    · rcases List.mem_cons.1 hy with rfl | hy2
      · rw [if_pos hP] at h1 ⊢; exact Int.le_trans (Int.le_max_right _ _) h1
      · exact h2 y hy2 hP
    · rcases h3 with e | ⟨y, hy, hP, e⟩
      · by_cases hP : P x
        · rw [if_pos hP] at e ⊢
          by_cases hm : g x ≤ b
          · exact .inl (by rw [e]; omega)
          · exact .inr ⟨x, by simp, hP, by rw [e]; omega⟩
        · rw [if_neg hP] at e ⊢; exact .inl e
      · exact .inr ⟨y, List.mem_cons_of_mem _ hy, hP, e⟩
theorem maxs_eq (L : List (Int × Int)) (b : Int) : L.foldl (fun n s => max n s.2) b = L.foldl (fun n s => if True then max n s.2 else n) b := by simp
theorem over_is (h : DeH) (p : List (List Int)) : 0 ≤ deOver h p ∧ (∀ s ∈ deSealed h p, s.2 ≤ deOver h p) ∧ (deOver h p = 0 ∨ ∃ s ∈ deSealed h p, deOver h p = s.2) := by
  unfold deOver
  rw [maxs_eq]
  obtain ⟨h1, h2, h3⟩ := maxf_spec (fun _ : Int × Int => True) (fun s => s.2) (deSealed h p) 0
  exact ⟨h1, fun s hs => h2 s hs trivial, h3.imp_right fun ⟨s, hs, _, e⟩ => ⟨s, hs, e⟩⟩
theorem begin_minute {h : DeH} (hn : h.writers.length ≤ 3) (w : Nat) : minuteAt (beginD h) w = if w < h.writers.length then (writerAt h w).hi else 0 := by
  unfold minuteAt beginD
  simp only [List.getElem?_map]
  by_cases e : w < 3
  · rw [List.getElem?_range e]; rfl
  · rw [List.getElem?_eq_none (by simpa using e), if_neg (by omega)]; rfl
theorem begin_len (h : DeH) : (beginD h).ms.length = 3 := by simp [beginD]
theorem fv_is (h : DeH) (x : DeSt) : 0 ≤ fvD h x ∧ (∀ w, w < 3 → minuteAt (beginD h) w < minuteAt x w → minuteAt x w ≤ fvD h x) ∧ (fvD h x = 0 ∨ ∃ w, w < 3 ∧ minuteAt (beginD h) w < minuteAt x w ∧ fvD h x = minuteAt x w) := by
  obtain ⟨h1, h2, h3⟩ := maxf_spec (fun w : Nat => minuteAt (beginD h) w < minuteAt x w) (fun w => minuteAt x w) (List.range 3) 0
  exact ⟨h1, fun w hw hl => h2 w (List.mem_range.2 hw) hl, h3.imp_right fun ⟨w, hw, a, b⟩ => ⟨w, List.mem_range.1 hw, a, b⟩⟩
theorem time_ge {h : DeH} (hv : DeValid h) : ∀ (l : List Int) (t : Int), (∀ c ∈ l, 0 ≤ c ∧ c < (h.customers.length : Int)) → t ≤ timeD h t l ∧ (l ≠ [] → t < timeD h t l)
  | [], t, _ => ⟨Int.le_refl _, fun e => absurd rfl e⟩
  | c :: l, t, hc => by
    have h1 := hc c (by simp)
    have h2 := hv.cust (c := c.toNat) (by omega)
    have h3 := hv.wax
    have ih := (time_ge hv l (t + (customerAt h c.toNat).hi + h.wax) (fun d hd => hc d (List.mem_cons_of_mem _ hd))).1
    show t ≤ timeD h _ l ∧ (_ → t < timeD h _ l)
    exact ⟨by omega, fun _ => by omega⟩
theorem time_append (h : DeH) : ∀ (a b : List Int) (t : Int), timeD h t (a ++ b) = timeD h (timeD h t a) b
  | [], _, _ => rfl
  | c :: a, b, t => time_append h a b _
/-- The end of a plan, by its stand, is 'Over'. -/
theorem fv_over {h : DeH} (hv : DeValid h) {p : List (List Int)} (hp : PlanOk h h.customers.length p) : fvD h (planEnd h (beginD h) p) = deOver h p := by
  have hb : ∀ w l, p[w]? = some l → ∀ d ∈ l, 0 ≤ d ∧ d < (h.customers.length : Int) := fun w l hl d hd => (hp.mem d).1 (List.mem_flatten.2 ⟨l, List.mem_of_getElem? hl, hd⟩)
  have hnw := hv.nw
  have hpl := hp.len
  obtain ⟨_, _, hm⟩ := planEnd_is h p (beginD h) (by show 0 + p.length ≤ _; rw [begin_len]; omega)
  have hw0 : (beginD h).writer = 0 := rfl
  simp only [hw0, Nat.zero_add, Nat.zero_le, true_and, Nat.sub_zero] at hm
  obtain ⟨f1, f2, f3⟩ := fv_is h (planEnd h (beginD h) p)
  obtain ⟨o1, o2, o3⟩ := over_is h p
  apply Int.le_antisymm
  · rcases f3 with e | ⟨w, hw, hlt, e⟩
    · omega
    · rw [e]
      rw [hm w] at hlt ⊢
      by_cases hwp : w < p.length
      · rw [if_pos hwp] at hlt ⊢
        have hget : p[w]? = some p[w] := List.getElem?_eq_getElem hwp
        rw [hget] at hlt ⊢
        simp only [Option.getD_some] at hlt ⊢
        obtain ⟨l0, hl0⟩ : ∃ l0, l0 = p[w] := ⟨_, rfl⟩
        rw [← hl0] at hlt hget ⊢
        rw [begin_minute hnw, if_pos (by omega)] at hlt ⊢
        rcases nil_snoc l0 with rfl | ⟨a, c, rfl⟩
        · have : timeD h (writerAt h w).hi [] = (writerAt h w).hi := rfl
          omega
        · have hs := sealed_at hp hget
          have := o2 _ (List.mem_of_getElem? hs)
          rw [spanD_hi] at this
          exact this
      · rw [if_neg hwp] at hlt; omega
  · rcases o3 with e | ⟨s, hs, e⟩
    · omega
    · rw [e]
      obtain ⟨c, hc, hcs⟩ := List.getElem_of_mem hs
      have hcl : c < h.customers.length := by rw [← sealed_len h p]; exact hc
      obtain ⟨w, a, b, hw, hwp⟩ := plan_has hp hcl
      have e2 := sealed_at hp hwp
      rw [Int.toNat_natCast, List.getElem?_eq_getElem hc, hcs] at e2
      obtain rfl := Option.some.inj e2
      rw [spanD_hi]
      simp only
      have hwl : w < p.length := by omega
      have hall := hb w _ hwp
      have hmw := hm w
      rw [if_pos hwl, hwp, begin_minute hnw, if_pos hw] at hmw
      simp only [Option.getD_some] at hmw
      have hge := (time_ge hv (a ++ (c : Int) :: b) (writerAt h w).hi hall).2 (by simp)
      have h2 := f2 w (by omega) (by rw [hmw, begin_minute hnw, if_pos hw]; exact hge)
      rw [hmw] at h2
      have h3 := (time_ge hv b (timeD h (writerAt h w).hi (a ++ [(c : Int)])) (fun d hd => hall d (by simp [hd]))).1
      rw [← time_append, List.append_assoc] at h3
      exact Int.le_trans h3 h2

/-- A plan of some writers for some customers. -/
structure PlanSub (h : DeH) (wm cm : Nat) (p : List (List Int)) : Prop where
  len : p.length = h.writers.length
  nodup : p.flatten.Nodup
  mem : ∀ c : Int, c ∈ p.flatten ↔ 0 ≤ c ∧ c < (h.customers.length : Int) ∧ cm.testBit c.toNat = true
  can : ∀ w l, p[w]? = some l → ∀ c ∈ l, wm.testBit w = true ∧ canD h w c.toNat = true
def allIn (h : DeH) (p : List (List Int)) : Prop := ∀ w l, p[w]? = some l → inTime h (writerAt h w).hi l
theorem good_iff {h : DeH} (hn : h.writers.length ≤ 3) {wm cm : Nat} (hcm : cm < 2 ^ h.customers.length) {p : List (List Int)} (hl : p.length = h.writers.length) :
    (planGood h wm cm (beginD h) p ∧ finB h cm (planEnd h (beginD h) p) = true) ↔ (PlanSub h wm cm p ∧ allIn h p) := by
  have hb : (beginD h).writer + p.length ≤ (beginD h).ms.length := by show 0 + p.length ≤ _; rw [begin_len]; omega
  obtain ⟨e1, e2, _⟩ := planEnd_is h p (beginD h) hb
  have hw0 : (beginD h).writer = 0 := rfl
  have hd0 : (beginD h).done = 0 := rfl
  rw [planGood_iff hb]
  unfold finB
  rw [e1, e2, hw0, hd0, hl]
  simp only [Nat.zero_add, Nat.zero_testBit, and_true, decide_true, Bool.true_and, decide_eq_true_eq]
  have key : (∀ c ∈ p.flatten, (0:Int) ≤ c) → (bitsOr 0 p.flatten = cm ↔ ∀ i : Nat, cm.testBit i = true ↔ (i : Int) ∈ p.flatten) := fun h0 => by
    have hbit : ∀ i, (bitsOr 0 p.flatten).testBit i = true ↔ (i : Int) ∈ p.flatten := fun i => by
      rw [bitsOr_bit, Nat.zero_testBit, Bool.false_or, List.any_eq_true]
      constructor
      · rintro ⟨c, hc, e⟩
        have := h0 c hc
        have e := of_decide_eq_true e
        rw [show (i : Int) = c by omega]; exact hc
      · intro hi; exact ⟨_, hi, by simp⟩
    constructor
    · rintro rfl i; exact hbit i
    · intro hh
      apply Nat.eq_of_testBit_eq
      intro i
      rw [Bool.eq_iff_iff, hbit, hh]
  constructor
  · rintro ⟨⟨a, b, d⟩, f⟩
    have k := (key (fun c hc => (a c hc).1)).1 f
    refine ⟨⟨hl, b, fun c => ⟨a c, fun ⟨c0, c1, c2⟩ => ?_⟩, fun w l hw c hc => (d w l hw).1 c hc⟩, fun w l hw => ?_⟩
    · have := (k c.toNat).1 c2
      rwa [show ((c.toNat : Nat) : Int) = c by omega] at this
    · have := (d w l hw).2
      have hwl : w < p.length := (List.getElem?_eq_some_iff.1 hw).1
      rw [begin_minute hn, if_pos (by omega)] at this
      exact this
  · rintro ⟨hs, ht⟩
    refine ⟨⟨fun c hc => (hs.mem c).1 hc, hs.nodup, fun w l hw => ⟨fun c hc => hs.can w l hw c hc, ?_⟩⟩, (key (fun c hc => ((hs.mem c).1 hc).1)).2 fun i => ?_⟩
    · have hwl : w < p.length := (List.getElem?_eq_some_iff.1 hw).1
      rw [begin_minute hn, if_pos (by omega)]
      exact ht w l hw
    · rw [hs.mem]
      constructor
      · intro hi
        refine ⟨by omega, ?_, by simpa using hi⟩
        have : i < h.customers.length := by
          rcases Nat.lt_or_ge i h.customers.length with e | e
          · exact e
          · have := Nat.testBit_lt_two_pow (Nat.lt_of_lt_of_le hcm (Nat.pow_le_pow_right (by omega) e))
            rw [this] at hi; cases hi
        omega
      · rintro ⟨_, _, hi⟩; simpa using hi
/-- All writers, all customers. -/
theorem full_bit (n i : Nat) : (2 ^ n - 1).testBit i = decide (i < n) := Nat.testBit_two_pow_sub_one n i
theorem sub_full {h : DeH} {p : List (List Int)} : PlanSub h (2 ^ h.writers.length - 1) (2 ^ h.customers.length - 1) p ↔ PlanOk h h.customers.length p := by
  constructor
  · intro hs
    refine ⟨hs.len, hs.nodup, fun c => ?_, fun w l hw c hc => (hs.can w l hw c hc).2⟩
    rw [hs.mem, full_bit, decide_eq_true_eq]
    omega
  · intro hp
    refine ⟨hp.len, hp.nodup, fun c => ?_, fun w l hw c hc => ⟨?_, hp.can w l hw c hc⟩⟩
    · rw [hp.mem, full_bit, decide_eq_true_eq]
      omega
    · have hwl : w < p.length := (List.getElem?_eq_some_iff.1 hw).1
      rw [full_bit, decide_eq_true_eq]
      have := hp.len
      omega
/-- 'over' from the beginning, with enough fuel. -/
def overB (h : DeH) (wm cm : Nat) : Int := overF h wm cm (leftD h (beginD h)) (beginD h)
theorem overB_spec {h : DeH} (hn : h.writers.length ≤ 3) {wm cm : Nat} (hcm : cm < 2 ^ h.customers.length) :
    (overB h wm cm = -1 ∧ ∀ p, PlanSub h wm cm p → ¬ allIn h p) ∨
    (0 ≤ overB h wm cm ∧ (∃ p, PlanSub h wm cm p ∧ allIn h p ∧ fvD h (planEnd h (beginD h) p) = overB h wm cm) ∧ ∀ p, PlanSub h wm cm p → allIn h p → overB h wm cm ≤ fvD h (planEnd h (beginD h) p)) := by
  have hw0 : (beginD h).writer = 0 := rfl
  have run : ∀ p, PlanSub h wm cm p → allIn h p → RunD h wm cm (beginD h) (seqOf p) (planEnd h (beginD h) p) ∧ finB h cm (planEnd h (beginD h) p) = true := fun p hs ht => by
    obtain ⟨g1, g2⟩ := (good_iff hn hcm hs.len).2 ⟨hs, ht⟩
    exact ⟨run_good p _ g1 (by rw [hw0, Nat.zero_add]; exact hs.len), g2⟩
  have plan : ∀ s z, RunD h wm cm (beginD h) s z → finB h cm z = true → ∃ p, PlanSub h wm cm p ∧ allIn h p ∧ z = planEnd h (beginD h) p := fun s z hr hf => by
    obtain ⟨p, h1, _, h3, rfl⟩ := run_plan hr hf (by rw [hw0]; omega)
    rw [hw0, Nat.zero_add] at h1
    obtain ⟨g1, g2⟩ := (good_iff hn hcm h1).1 ⟨h3, hf⟩
    exact ⟨p, g1, g2, rfl⟩
  rcases over_spec (wm := wm) (cm := cm) (leftD h (beginD h)) (beginD h) (by rw [hw0]; omega) (Nat.le_refl _) with ⟨e, hno⟩ | ⟨h0, ⟨s, z, hr, hf, hv⟩, hall⟩
  · refine .inl ⟨e, fun p hs ht => ?_⟩
    obtain ⟨r1, r2⟩ := run p hs ht
    have := hno _ _ r1
    rw [r2] at this; cases this
  · refine .inr ⟨h0, ?_, fun p hs ht => ?_⟩
    · obtain ⟨p, g1, g2, rfl⟩ := plan s z hr hf
      exact ⟨p, g1, g2, hv⟩
    · obtain ⟨r1, r2⟩ := run p hs ht
      exact hall _ _ r1 r2
end Go.Proofs.YtelmponkmmfffaaGreat
namespace Go.Proofs.YtelmponkmmfffaaGreat
theorem incr_fullE {n : Nat} {l : List Int} (h : incr n l) (hl : l.length = n) : ∀ i, i < n → (i : Int) ∈ l := by
  induction n generalizing l with
  | zero => intro i hi; omega
  | succ n ih =>
    rcases nil_snoc l with rfl | ⟨l', x, rfl⟩
    · simp at hl
    · obtain ⟨h3, h4, h5⟩ := incr_snoc.1 h
      have hl' : l'.length = n := by simpa using hl
      have hi' : incr n l' := ⟨h3.1, fun y hy => ⟨(h3.2 y hy).1, by have := h4 y hy; omega⟩⟩
      intro i hi
      by_cases e : i < n
      · have := ih hi' hl' i e
        simp [this]
      · have hx : x = (n : Int) := by
          by_cases h0 : n = 0
          · subst h0; omega
          · have h1 := ih hi' hl' (n - 1) (by omega)
            have := h4 _ h1
            omega
        have : i = n := by omega
        subst this
        simp [hx]
/-- The first of the fewest, or all. -/
theorem first_or_all (so : List Int → Bool) (n : Nat) (hn : n ≤ 5) (hall : ∀ l, incr n l → l.length = n → so l = true) : FirstOf (fun l => incr n l ∧ so l = true) ((searchFrom so n 0 n).getD ((choicesTo n n).headD [])) := by
  obtain ⟨s1, s2⟩ := searchFrom_spec so n n 0
  cases hs : searchFrom so (n : Int) 0 n with
  | some l =>
    have h := s1 l hs
    refine ⟨⟨h.1.1, h.1.2.2.2⟩, fun x ⟨x1, x2⟩ => ?_⟩
    have hxl := incr_len x1
    by_cases e : x.length < n
    · exact h.2 x ⟨x1, by omega, by omega, x2⟩
    · refine .inr ?_
      have := h.1.2.2.1
      unfold fewer
      rw [if_neg (by show ¬ l.length = x.length; omega)]
      show decide (l.length < x.length) = true
      simp; omega
  | none =>
    have hn' := s2 hs
    have hc := choices_all n hn
    have hsort := choicesTo_sorted (n : Int) n
    have hmem := choicesTo_mem (n : Int) n
    generalize choicesTo (n : Int) n = L at hc hsort hmem
    cases L with
    | nil => simp at hc
    | cons a L =>
      obtain ⟨a1, a2⟩ := (hmem a).1 (by simp)
      refine ⟨⟨a2, hall a a2 a1⟩, fun x ⟨x1, x2⟩ => ?_⟩
      show x = a ∨ fewer a x = true
      have hxl := incr_len x1
      by_cases e : x.length < n
      · rw [hn' x x1 (by omega) (by omega)] at x2; cases x2
      · have hx : x ∈ a :: L := (hmem x).2 ⟨by omega, x1⟩
        rcases List.mem_cons.1 hx with e2 | h2
        · exact .inl e2
        · refine .inr ?_
          unfold fewer
          rw [if_pos (by omega)]
          exact (List.pairwise_cons.1 hsort).1 x h2
/-- The first of the fewest of all. -/
theorem first_all (so : List Int → Bool) (n : Nat) : (∀ l, searchFrom so n 0 (n + 1) = some l → FirstOf (fun l => incr n l ∧ so l = true) l) ∧ (searchFrom so n 0 (n + 1) = none → ∀ l, incr n l → so l = false) := by
  obtain ⟨s1, s2⟩ := searchFrom_spec so n (n + 1) 0
  refine ⟨fun l hl => ?_, fun hn l hl => ?_⟩
  · have h := s1 l hl
    exact ⟨⟨h.1.1, h.1.2.2.2⟩, fun x ⟨x1, x2⟩ => h.2 x ⟨x1, by omega, by have := incr_len x1; omega, x2⟩⟩
  · exact s2 hn l hl (by omega) (by have := incr_len hl; omega)
theorem found_iff (so : List Int → Bool) (n : Nat) (l : List Int) : (∃ s, s < 2 ^ n ∧ so (bitsList s n) = true ∧ l = bitsList s n) ↔ (incr n l ∧ so l = true) := by
  constructor
  · rintro ⟨s, _, h2, rfl⟩; exact ⟨bits_incr _ _, h2⟩
  · rintro ⟨h1, h2⟩; exact ⟨setOf l, setOf_lt l _ h1.2, by rw [setOf_bits h1]; exact h2, (setOf_bits h1).symm⟩
theorem found_first {so : List Int → Bool} {n : Nat} {w best : List Int} {found : Bool} (hw : FirstOf (fun l => incr n l ∧ so l = true) w) (h : Found n (fun s => so (bitsList s n)) (2 ^ n) best found) : found = true ∧ best = w := by
  cases found with
  | true => exact ⟨rfl, firstOf_one (firstOf_iff (found_iff so n) (h.2 rfl)) hw⟩
  | false =>
    have := (h.1 rfl).2 (setOf w) (setOf_lt _ _ hw.1.1.2)
    simp only at this
    rw [setOf_bits hw.1.1, hw.1.2] at this
    cases this
theorem found_search {so : List Int → Bool} {n : Nat} {best : List Int} {found : Bool} (h : Found n (fun s => so (bitsList s n)) (2 ^ n) best found) : searchFrom so n 0 (n + 1) = if found then some best else none := by
  obtain ⟨s1, s2⟩ := first_all so n
  cases found with
  | true =>
    have hf := firstOf_iff (found_iff so n) (h.2 rfl)
    cases hs : searchFrom so (n : Int) 0 (n + 1) with
    | some l => rw [firstOf_one (s1 l hs) hf]; rfl
    | none => have := s2 hs best hf.1.1; rw [hf.1.2] at this; cases this
  | false =>
    cases hs : searchFrom so (n : Int) 0 (n + 1) with
    | none => rfl
    | some l =>
      have hf := s1 l hs
      have := (h.1 rfl).2 (setOf l) (setOf_lt _ _ hf.1.1.2)
      simp only at this
      rw [setOf_bits hf.1.1, hf.1.2] at this
      cases this
end Go.Proofs.YtelmponkmmfffaaGreat
