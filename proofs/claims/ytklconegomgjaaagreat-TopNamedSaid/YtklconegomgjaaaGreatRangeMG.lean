/- What is proved here: years, parents, names and ties see persons only one by one. No program. No condition. -/
/- What is proved here: plain facts on truths of layer 3: one by one, of how many mentions, no two alike. No program. No condition. -/
/- What is proved here: a law for a range over a function whose iterator turns memory by a relation R while it goes (a map that remembers), the body leaving at its end or by a return. Over any program. -/
import Derived.Test.YtklconegomgjaaaGreatPnBaseG
import Derived.Test.YtklconegomgjaaaGreatPnA
import Derived.Test.YtklconegomgjaaaGreatRangeTG
set_option linter.unusedVariables false
set_option linter.unusedSimpArgs false
namespace Go.Proofs.YtklconegomgjaaaGreat
theorem bornTo_pad {t : PeW} {p q : List Int} (h : ∀ i, pAt p i = pAt q i) : ∀ k, bornTo t p k = bornTo t q k
  | 0 => rfl
  | k + 1 => by rw [bornTo, bornTo, bornTo_pad h k, h]
theorem yearTo_pad {t : PeW} {p q : List Int} (h : ∀ i, pAt p i = pAt q i) (b : List (Int × Int)) : ∀ k, yearTo t p b k = yearTo t q b k
  | 0 => rfl
  | k + 1 => by rw [yearTo, yearTo, yearTo_pad h b k, h, h]
theorem yearsF_pad {t : PeW} {p q : List Int} (h : ∀ i, pAt p i = pAt q i) : ∀ f b, yearsF t p f b = yearsF t q f b
  | 0, _ => rfl
  | f + 1, b => by rw [yearsF, yearsF, yearTo_pad h, yearsF_pad h f]
theorem yearsN_pad {t : PeW} {p q : List Int} (h : ∀ i, pAt p i = pAt q i) : yearsN t p = yearsN t q := by
  unfold yearsN
  rw [bornTo_pad h, yearsF_pad h]
theorem fatherTo_pad {t : PeW} {p q : List Int} (h : ∀ i, pAt p i = pAt q i) : ∀ k, fatherTo t p k = fatherTo t q k
  | 0 => rfl
  | k + 1 => by simp only [fatherTo, fatherTo_pad h k, h]
theorem fatheredB_pad {t : PeW} {p q : List Int} (h : ∀ i, pAt p i = pAt q i) : fatheredB t p = fatheredB t q := by unfold fatheredB; rw [fatherTo_pad h]
theorem setTo'_pad {t : PeW} {p q : List Int} (h : ∀ i, pAt p i = pAt q i) (n : Nat) : ∀ k, setTo' t p n k = setTo' t q n k
  | 0 => rfl
  | k + 1 => by rw [setTo', setTo', setTo'_pad h n k, h]
theorem namedB_pad {t : PeW} {p q : List Int} (h : ∀ i, pAt p i = pAt q i) : namedB t p = namedB t q := by unfold namedB namedTo; simp only [setTo'_pad h]
theorem tiedB_pad {t : PeW} {p q : List Int} (but : Nat) (h : ∀ i, pAt p i = pAt q i) : tiedB t but p = tiedB t but q := by unfold tiedB tiedTo tieB; simp only [h]
end Go.Proofs.YtklconegomgjaaaGreat
namespace Go.Proofs.YtklconegomgjaaaGreat
/-- Persons of all six mentions: zeros behind those that are told. -/
def padP (p : List Int) : List Int := p ++ List.replicate (6 - p.length) 0
theorem padP_len {p : List Int} (h : p.length ≤ 6) : (padP p).length = 6 := by unfold padP; rw [List.length_append, List.length_replicate]; omega
theorem padP_at (p : List Int) (i : Nat) : pAt (padP p) i = pAt p i := by
  unfold pAt padP
  by_cases h : i < p.length
  · rw [List.getElem?_append_left h]
  · rw [List.getElem?_append_right (by omega), List.getElem?_eq_none (by omega : p.length ≤ i)]
    by_cases g : i - p.length < 6 - p.length
    · rw [List.getElem?_replicate, if_pos g]; rfl
    · rw [List.getElem?_replicate, if_neg g]
theorem padP_inj {p q : List Int} (h : p.length = q.length) (e : ∀ i, pAt p i = pAt q i) : p = q := by
  refine List.ext_getElem h fun i h1 h2 => ?_
  have := e i
  unfold pAt at this
  rwa [List.getElem?_eq_getElem h1, List.getElem?_eq_getElem h2, Option.getD_some, Option.getD_some] at this
theorem pAt_snoc {p : List Int} {x : Int} {i : Nat} (h : i < p.length) : pAt (p ++ [x]) i = pAt p i := pAt_left h
theorem pAt_last (p : List Int) (x : Int) : pAt (p ++ [x]) p.length = x := by unfold pAt; simp
theorem pAt_zero (p : List Int) (i : Nat) : pAt (p ++ [0]) i = pAt p i := by
  unfold pAt
  by_cases h : i < p.length
  · rw [List.getElem?_append_left h]
  · rw [List.getElem?_append_right (by omega), List.getElem?_eq_none (by omega : p.length ≤ i)]
    by_cases g : i - p.length = 0
    · rw [g]; rfl
    · rw [List.getElem?_eq_none (by simp; omega)]
theorem pAt_set_snoc (p : List Int) (x y : Int) (i : Nat) : pAt ((padP (p ++ [x])).set p.length y) i = pAt (p ++ [y]) i := by
  have hl : p.length < (padP (p ++ [x])).length := by unfold padP; simp
  unfold pAt
  rw [List.getElem?_set]
  by_cases e : p.length = i
  · subst e
    rw [if_pos rfl, if_pos hl]
    simp
  · rw [if_neg e]
    have h1 := padP_at (p ++ [x]) i
    unfold pAt at h1
    rw [h1]
    by_cases g : i < p.length
    · rw [List.getElem?_append_left g, List.getElem?_append_left g]
    · rw [List.getElem?_eq_none (by simp; omega), List.getElem?_eq_none (by simp; omega)]
/-- The truths with the first persons of the next mention. -/
def truthsTo3 (t : PeW) (k : Nat) (pre : List Int) (many n : Nat) : List (List Int × Nat) := (List.range n).flatMap fun n => if fitsB t pre n = true then truthsF t k (pre ++ [(n : Int)]) (max many (n + 1)) else []
theorem truthsF_all (t : PeW) (k : Nat) (pre : List Int) (many : Nat) : truthsF t (k + 1) pre many = truthsTo3 t k pre many (many + 1) := rfl
theorem truthsTo_succ (t : PeW) (k : Nat) (pre : List Int) (many n : Nat) : truthsTo3 t k pre many (n + 1) = truthsTo3 t k pre many n ++ if fitsB t pre n = true then truthsF t k (pre ++ [(n : Int)]) (max many (n + 1)) else [] := by
  unfold truthsTo3; rw [List.range_succ, List.flatMap_append]; simp
theorem truthsTo_no {t : PeW} {k : Nat} {pre : List Int} {many n : Nat} (h : fitsB t pre n = false) : truthsTo3 t k pre many (n + 1) = truthsTo3 t k pre many n := by
  rw [truthsTo_succ, if_neg (by rw [h]; decide), List.append_nil]
theorem truthsTo_yes {t : PeW} {k : Nat} {pre : List Int} {many n : Nat} (h : fitsB t pre n = true) : truthsTo3 t k pre many (n + 1) = truthsTo3 t k pre many n ++ truthsF t k (pre ++ [(n : Int)]) (max many (n + 1)) := by
  rw [truthsTo_succ, if_pos h]
theorem truthsTo_pre {t : PeW} {k : Nat} {pre : List Int} {many : Nat} : ∀ d n, truthsTo3 t k pre many n <+: truthsTo3 t k pre many (n + d)
  | 0, n => List.prefix_refl _
  | d + 1, n => by
    rw [← Nat.add_assoc, truthsTo_succ]
    exact (truthsTo_pre d n).trans (List.prefix_append _ _)
theorem truthsTo_le {t : PeW} {k : Nat} {pre : List Int} {many n : Nat} (h : n ≤ many + 1) : truthsTo3 t k pre many n <+: truthsF t (k + 1) pre many := by
  rw [truthsF_all]
  obtain ⟨d, hd⟩ : ∃ d, many + 1 = n + d := ⟨many + 1 - n, by omega⟩
  rw [hd]
  exact truthsTo_pre d n
/-- Whether the first k mentions let the next one be of a person. -/
def fitsTo (t : PeW) (pre : List Int) (n k : Nat) : Bool := (List.range k).all fun k => !decide (pAt pre k = (n : Int)) || whyN t k pre.length == 0
theorem fits_all (t : PeW) (pre : List Int) (n : Nat) : fitsTo t pre n pre.length = fitsB t pre n := rfl
theorem fits_zero (t : PeW) (pre : List Int) (n : Nat) : fitsTo t pre n 0 = true := rfl
theorem fits_succ (t : PeW) (pre : List Int) (n k : Nat) : fitsTo t pre n (k + 1) = (fitsTo t pre n k && (!decide (pAt pre k = (n : Int)) || whyN t k pre.length == 0)) := by
  unfold fitsTo; rw [List.range_succ, List.all_append]; simp
theorem fits_not {t : PeW} {pre : List Int} {n k : Nat} (hk : k < pre.length) (h1 : pAt pre k = (n : Int)) (h2 : whyN t k pre.length ≠ 0) : fitsB t pre n = false := by
  unfold fitsB
  rw [List.all_eq_false]
  refine ⟨k, List.mem_range.2 hk, ?_⟩
  simp [h1, h2]
/-- The first persons of a truth, and how many there are. -/
theorem truthsF_head {t : PeW} : ∀ (k : Nat) (pre : List Int) (many : Nat) (x : List Int × Nat), x ∈ truthsF t k pre many → ∃ s, x.1 = pre ++ s ∧ s.length = k ∧ x.2 = rgEnd many s ∧ ∀ y ∈ s, 0 ≤ y ∧ y < x.2
  | 0, pre, many, x, hx => by
    rw [truthsF] at hx
    split at hx
    · have : x = (pre, many) := by simpa using hx
      subst this
      exact ⟨[], by simp, rfl, rfl, fun y hy => by cases hy⟩
    · cases hx
  | k + 1, pre, many, x, hx => by
    rw [truthsF, List.mem_flatMap] at hx
    obtain ⟨n, hn, hx⟩ := hx
    split at hx
    · obtain ⟨s, h1, h2, h3, h4⟩ := truthsF_head k _ _ x hx
      refine ⟨(n : Int) :: s, by rw [h1]; simp, by simp [h2], by rw [h3]; simp [rgEnd], fun y hy => ?_⟩
      have hge : ∀ (s : List Int) (m : Nat), m ≤ rgEnd m s := by
        intro s
        induction s with
        | nil => intro m; exact Nat.le_refl _
        | cons a s ih => intro m; rw [rgEnd]; exact Nat.le_trans (by omega) (ih _)
      rcases List.mem_cons.1 hy with rfl | hy
      · have := hge s (max many (n + 1))
        rw [h3]
        omega
      · exact h4 y hy
    · cases hx
theorem rgEnd_le : ∀ (s : List Int) (m : Nat), rgB m s = true → rgEnd m s ≤ m + s.length
  | [], m, _ => by simp [rgEnd]
  | x :: s, m, h => by
    rw [rgB, Bool.and_eq_true, decide_eq_true_eq] at h
    rw [rgEnd, List.length_cons]
    have := rgEnd_le s _ h.2
    omega
theorem truthsF_rg {t : PeW} : ∀ (k : Nat) (pre : List Int) (many : Nat) (x : List Int × Nat), x ∈ truthsF t k pre many → ∃ s, x.1 = pre ++ s ∧ rgB many s = true ∧ s.length = k ∧ x.2 = rgEnd many s
  | 0, pre, many, x, hx => by
    rw [truthsF] at hx
    split at hx
    · have : x = (pre, many) := by simpa using hx
      subst this
      exact ⟨[], by simp, rfl, rfl, rfl⟩
    · cases hx
  | k + 1, pre, many, x, hx => by
    rw [truthsF, List.mem_flatMap] at hx
    obtain ⟨n, hn, hx⟩ := hx
    have hn := List.mem_range.1 hn
    split at hx
    · obtain ⟨s, h1, h2, h3, h4⟩ := truthsF_rg k _ _ x hx
      refine ⟨(n : Int) :: s, by rw [h1]; simp, ?_, by simp [h3], by rw [h4]; simp [rgEnd]⟩
      rw [rgB, Bool.and_eq_true, decide_eq_true_eq, Int.toNat_natCast]
      exact ⟨by omega, h2⟩
    · cases hx
/-- What a truth is like. -/
structure TruOk (t : PeW) (x : List Int × Nat) : Prop where
  len : x.1.length = t.ments.length
  many : x.2 ≤ t.ments.length
  at_ : ∀ i, 0 ≤ pAt x.1 i ∧ (i < t.ments.length → pAt x.1 i < x.2)
  zero : (∀ i, pAt x.1 i = 0) → x.2 ≤ 1
theorem truths_ok {t : PeW} {x : List Int × Nat} (hx : x ∈ truthsT t) : TruOk t x := by
  obtain ⟨s, h1, h2, h3, h4⟩ := truthsF_rg _ _ _ x hx
  obtain ⟨s', g1, g2, g3, g4⟩ := truthsF_head _ _ _ x hx
  rw [List.nil_append] at h1 g1
  have hl := rgEnd_le _ _ h2
  have hbnd : ∀ i, i < x.1.length → 0 ≤ pAt x.1 i ∧ pAt x.1 i < x.2 := fun i hi => by
    unfold pAt
    rw [List.getElem?_eq_getElem hi, Option.getD_some]
    exact g4 _ (by rw [← g1]; exact List.getElem_mem hi)
  refine ⟨by rw [h1, h3], by rw [h4]; omega, fun i => ?_, fun hz => ?_⟩
  · by_cases hi : i < x.1.length
    · exact ⟨(hbnd i hi).1, fun _ => (hbnd i hi).2⟩
    · have : pAt x.1 i = 0 := by unfold pAt; rw [List.getElem?_eq_none (by omega)]; rfl
      rw [this]
      exact ⟨Int.le_refl _, fun h => absurd h (by rw [h1, h3] at hi; exact hi)⟩
  · rw [h4]
    have key : ∀ (s : List Int) (m : Nat), m ≤ 1 → (∀ y ∈ s, y = 0) → rgEnd m s ≤ 1 := by
      intro s
      induction s with
      | nil => intro m h _; exact h
      | cons a s ih =>
        intro m h hy
        rw [rgEnd]
        refine ih _ ?_ fun y h => hy y (List.mem_cons_of_mem _ h)
        rw [hy a (List.mem_cons_self ..)]
        simp
        omega
    refine key s 0 (by omega) fun y hy => ?_
    rw [← h1] at hy
    obtain ⟨i, hi, rfl⟩ := List.getElem_of_mem hy
    have := hz i
    unfold pAt at this
    rwa [List.getElem?_eq_getElem hi, Option.getD_some] at this
/-- No two truths are alike. -/
theorem truthsF_nodup {t : PeW} : ∀ (k : Nat) (pre : List Int) (many : Nat), ((truthsF t k pre many).map Prod.fst).Nodup
  | 0, pre, many => by
    rw [truthsF]
    split <;> simp
  | k + 1, pre, many => by
    rw [truthsF_all]
    have key : ∀ n, ((truthsTo3 t k pre many n).map Prod.fst).Nodup ∧ ∀ x ∈ truthsTo3 t k pre many n, pAt x.1 pre.length < n := by
      intro n
      induction n with
      | zero => exact ⟨by simp [truthsTo3], fun x hx => by simp [truthsTo3] at hx⟩
      | succ n ih =>
        obtain ⟨ih1, ih2⟩ := ih
        cases hf : fitsB t pre n
        · rw [truthsTo_no hf]
          exact ⟨ih1, fun x hx => by have := ih2 x hx; omega⟩
        · rw [truthsTo_yes hf]
          have hat : ∀ x ∈ truthsF t k (pre ++ [(n : Int)]) (max many (n + 1)), pAt x.1 pre.length = (n : Int) := fun x hx => by
            obtain ⟨s, h1, _⟩ := truthsF_rg _ _ _ x hx
            rw [h1]
            unfold pAt
            simp
          refine ⟨?_, fun x hx => ?_⟩
          · rw [List.map_append, List.nodup_append]
            refine ⟨ih1, truthsF_nodup k _ _, fun a ha b hb e => ?_⟩
            obtain ⟨x, hx, rfl⟩ := List.mem_map.1 ha
            obtain ⟨y, hy, rfl⟩ := List.mem_map.1 hb
            have h1 := ih2 x hx
            have h2 := hat y hy
            rw [e] at h1
            omega
          · rcases List.mem_append.1 hx with hx | hx
            · have := ih2 x hx; omega
            · have := hat x hx; omega
    exact (key _).1
theorem truths_other {t : PeW} {pre : List (List Int × Nat)} {x y : List Int × Nat} (h : pre ++ [x] <+: truthsT t) (hy : y ∈ pre) : ¬ ∀ i, pAt x.1 i = pAt y.1 i := by
  intro he
  have hn : ((truthsT t).map Prod.fst).Nodup := truthsF_nodup _ _ _
  have hx1 : x ∈ truthsT t := h.subset (by simp)
  have hy1 : y ∈ truthsT t := h.subset (by simp [hy])
  have e := padP_inj (by rw [(truths_ok hx1).len, (truths_ok hy1).len]) he
  obtain ⟨r, hr⟩ := h
  rw [← hr, List.map_append, List.map_append, List.append_assoc, List.nodup_append] at hn
  refine hn.2.2 y.1 (List.mem_map.2 ⟨y, hy, rfl⟩) x.1 (by simp) e.symm
end Go.Proofs.YtklconegomgjaaaGreat
namespace Go.Proofs.YtklconegomgjaaaGreat
open Go Go.RowKit

/-- How the body of a round is left. -/
def roundM {α : Type} (B : Nat) (I : List α → World → Prop) (Ix : Code → List α → World → Prop) (xs : List α) (W : World) : Exit → Act → World → Prop
  | .normal, _, W' => Above B W W' ∧ I xs W'
  | .ret, _, W' => Above B W W' ∧ Ix .ret xs W'
  | .exit id, _, W' => Above B W W' ∧ Ix (.exit id) xs W'
  | _, _, _ => False

variable {P : Program}

/-- **An iterator that gives xs, whose steps turn memory by R, where Z holds.** -/
def SeqM {α : Type} (P : Program) (gf : Nat) (lb : Array Value) (encs : α → Array Value) (R : World → World → Prop) (Z : World → Prop) (xs : List α) : Prop :=
  ∀ (l : Nat) (J Jx : List α → World → Prop) (W : World), (∀ s A A', J s A → R A A' → J s A') → (∀ s A A', Jx s A → R A A' → Jx s A') → (∀ s A, J s A → Z A) → (∀ s A, Jx s A → Z A) →
    (∀ pre x W1, J pre W1 → pre ++ [x] <+: xs → YieldAt Fence.wide 0 P l (encs x) W1 fun e W' => (e = .returned (.bool true) ∧ J (pre ++ [x]) W') ∨ (e = .returned (.bool false) ∧ Jx (pre ++ [x]) W')) →
    J [] W → CallsIn Fence.wide 0 P gf (#[.func (.yield l) #[] #[]] ++ lb) W fun e W' => (∃ v, e = .returned v) ∧ (J xs W' ∨ ∃ pre, Jx pre W')

theorem wpIn_rangeFunc_M {α : Type} {g : Operand} {ps : Array Tmp} {assign body : Code} {Q : Exit → Act → World → Prop} {a : Act} {w : World}
    {gf : Nat} {lb : Array Value} (hg : a.eval g = .func (.func gf) #[] lb) (eg : ∀ args w, (callFunc gf args).run P w = .ok (.enter gf args) w)
    {encs : α → Array Value} {R : World → World → Prop} {Z : World → Prop} {xs : List α} (hseq : SeqM P gf lb encs R Z xs) (hps : ∀ x, (encs x).size = ps.size)
    (hR : ∀ A A', R A A' → Above w.heap.size A A')
    (I : List α → World → Prop) (Ix : Code → List α → World → Prop) (hI : ∀ s A A', I s A → Below w.heap.size A A' → I s A') (hIx : ∀ c s A A', Ix c s A → Below w.heap.size A A' → Ix c s A')
    (hIR : ∀ s A A', I s A → R A A' → I s A') (hIxR : ∀ c s A A', Ix c s A → R A A' → Ix c s A') (hIZ : ∀ s A, I s A → Z A) (hIxZ : ∀ c s A, Ix c s A → Z A) (h0 : I [] w)
    (hround : ∀ (l : Nat) (pre : List α) (x : α) (W : World), w.heap.size < l → l < W.heap.size → I pre W → pre ++ [x] <+: xs →
      assign.wpIn (Fence.wide.inRound l) 0 P (Exit.then (fun a' Wa => Above w.heap.size W Wa ∧ I pre Wa ∧ ∀ Wb, Wb.heap.size = Wa.heap.size → (∀ b, b ≠ l → Wb.heap[b]? = Wa.heap[b]?) → I pre Wb →
        body.wpIn (Fence.wide.inRound l) 0 P (roundM w.heap.size I Ix (pre ++ [x]) Wb) a' Wb) (fun _ _ _ => False)) { tmps := (ps.zip (encs x)).foldl (fun t (p, v) => t.setIfInBounds p v) a.tmps, defers := [] } W)
    (hdone : ∀ (D : Nat) (W : World), w.heap.size ≤ D → I xs W → W.heap[D]? = some (.deferred (some [])) → Q .normal { a with defers := { target := .collected D, args := #[] } :: a.defers } W)
    (hstop : ∀ (D : Nat) (c : Code) (pre : List α) (W : World), w.heap.size ≤ D → Ix c pre W → W.heap[D]? = some (.deferred (some [])) → c.wpIn Fence.wide 0 P Q { a with defers := { target := .collected D, args := #[] } :: a.defers } W) :
    (Code.rangeFunc g ps assign body).wpIn Fence.wide 0 P Q a w := by
  refine wpIn_rangeFunc ?_
  intro fn hfn
  rw [show Fence.wide.round = none from rfl]
  obtain ⟨rec, hrec⟩ : ∃ rec : LoopState → Option Code → Loop, rec = fun st pe => { state := st, pending := pe, fn, tmps := a.tmps, params := ps, assign, body, defers := w.heap.size } := ⟨_, rfl⟩
  obtain ⟨W1, hW1⟩ : ∃ W1, (w.alloc (.deferred (some []))).alloc (.loop (rec .ready none)) = W1 := ⟨_, rfl⟩
  have hL1 : W1.heap[w.heap.size + 1]? = some (.loop (rec .ready none)) := by
    rw [← hW1]; have := World.alloc_heap_new (w.alloc (.deferred (some []))) (.loop (rec .ready none)); rwa [World.size_alloc] at this
  have hK1 : W1.heap[w.heap.size]? = some (.deferred (some [])) := by
    rw [← hW1]; exact (Below.heap_alloc _ _ _ (by simp)).trans (World.alloc_heap_new w _)
  have hbw1 : Below w.heap.size w W1 := by
    rw [← hW1]; exact (((Below.refl _ w).alloc (Nat.le_refl _) _).alloc (by simp) _)
  have hI1 : I [] W1 := hI _ _ _ h0 hbw1
  have hput : ∀ (A : World) (o : Obj), Below w.heap.size A (A.putObj (w.heap.size + 1) o) := fun A o => ⟨rfl, rfl, rfl, by simp [World.putObj], fun b hb => World.putObj_heap_other (by omega)⟩
  refine ⟨w.heap.size + 1, [{ target := .collected w.heap.size, args := #[] }], W1, { target := .fn (.func gf) lb, args := #[.func (.yield (w.heap.size + 1)) #[] #[]] }, W1, gf,
    #[.func (.yield (w.heap.size + 1)) #[] #[]] ++ lb, W1, ?_, ?_, ?_, ?_, fun h => (by cases h), ?_⟩
  · rw [← hW1, hrec]; exact run_enterLoop_outer _ _ _ _ _
  · simp only [resolve, hg]
    simp [go_sem]
  · intro f' hf'; trivial
  · simp [invoke, go_sem, eg]
  · refine (hseq (w.heap.size + 1)
      (fun pre W => I pre W ∧ W.heap[w.heap.size + 1]? = some (.loop (rec .ready none)) ∧ W.heap[w.heap.size]? = some (.deferred (some [])))
      (fun pre W => ∃ c, Ix c pre W ∧ W.heap[w.heap.size + 1]? = some (.loop (rec .done (some c))) ∧ W.heap[w.heap.size]? = some (.deferred (some [])))
      W1
      (fun s A A' hs hr => ⟨hIR s A A' hs.1 hr, ((hR _ _ hr).block _ (by omega) (Array.getElem?_eq_some_iff.1 hs.2.1).1).trans hs.2.1, ((hR _ _ hr).block _ (by omega) (Array.getElem?_eq_some_iff.1 hs.2.2).1).trans hs.2.2⟩)
      (fun s A A' hs hr => by
        obtain ⟨c, hc, hl, hk⟩ := hs
        exact ⟨c, hIxR c s A A' hc hr, ((hR _ _ hr).block _ (by omega) (Array.getElem?_eq_some_iff.1 hl).1).trans hl, ((hR _ _ hr).block _ (by omega) (Array.getElem?_eq_some_iff.1 hk).1).trans hk⟩)
      (fun s A hs => hIZ s A hs.1)
      (fun s A hs => by obtain ⟨c, hc, _⟩ := hs; exact hIxZ c s A hc)
      ?_ ⟨hI1, hL1, hK1⟩).mono ?_
    · rintro pre x W ⟨hi, hl, hk⟩ hpre
      have hlt : w.heap.size + 1 < W.heap.size := (Array.getElem?_eq_some_iff.1 hl).1
      have hy := run_yield (P := P) (args := encs x) hl (by rw [hrec]; exact hps x)
      rw [hrec] at hy
      refine ⟨fn, _, assign, body, hy, roundIn_of_wpIn hfn (wpIn_mono (hround _ pre x W (by omega) hlt hi hpre) ?_)⟩
      clear hy
      rintro e a' Wa he
      cases e with
      | normal =>
        obtain ⟨hab, hia, hbody⟩ := he
        have hla : Wa.heap[w.heap.size + 1]? = some (.loop (rec .ready none)) := (hab.block _ (by omega) hlt).trans hl
        have hka : Wa.heap[w.heap.size]? = some (.deferred (some [])) := (hab.block _ (by omega) (by omega)).trans hk
        have hlta : w.heap.size + 1 < Wa.heap.size := (Array.getElem?_eq_some_iff.1 hla).1
        refine ⟨_, run_beginRound hla (by rw [hrec]), ?_⟩
        have hl2 : (Wa.putObj (w.heap.size + 1) (.loop { rec .ready none with state := .busy })).heap[w.heap.size + 1]? = some (.loop { rec .ready none with state := .busy }) := World.putObj_heap_same hlta
        have hk2 : (Wa.putObj (w.heap.size + 1) (.loop { rec .ready none with state := .busy })).heap[w.heap.size]? = some (.deferred (some [])) := (World.putObj_heap_other (by omega)).trans hka
        have hsp : ∀ o, (Wa.putObj (w.heap.size + 1) o).heap.size = Wa.heap.size := fun o => by simp [World.putObj]
        refine wpIn_mono (hbody _ (hsp _) (fun b hb => World.putObj_heap_other hb) (hI _ _ _ hia (hput _ _))) ?_
        have fin : ∀ (jump : Option Code) (W3 : World), Above w.heap.size (Wa.putObj (w.heap.size + 1) (.loop { rec .ready none with state := .busy })) W3 →
            (Instr.endRound (w.heap.size + 1) jump).run P W3 = .ok (.bool jump.isNone) (W3.putObj (w.heap.size + 1) (.loop (rec (if jump.isNone then .ready else .done) jump))) ∧
            (W3.putObj (w.heap.size + 1) (.loop (rec (if jump.isNone then .ready else .done) jump))).heap[w.heap.size + 1]? = some (.loop (rec (if jump.isNone then .ready else .done) jump)) ∧
            (W3.putObj (w.heap.size + 1) (.loop (rec (if jump.isNone then .ready else .done) jump))).heap[w.heap.size]? = some (.deferred (some [])) := fun jump W3 hab3 => by
          have hl3 : W3.heap[w.heap.size + 1]? = some (.loop { rec .ready none with state := .busy }) := (hab3.block _ (by omega) (by rw [hsp]; omega)).trans hl2
          have hk3 : W3.heap[w.heap.size]? = some (.deferred (some [])) := (hab3.block _ (by omega) (by rw [hsp]; omega)).trans hk2
          have hlt3 : w.heap.size + 1 < W3.heap.size := (Array.getElem?_eq_some_iff.1 hl3).1
          have hr := run_endRound (P := P) jump hl3
          refine ⟨?_, World.putObj_heap_same hlt3, (World.putObj_heap_other (by omega)).trans hk3⟩
          rw [hrec] at hr ⊢
          exact hr
        rintro e a3 W3 hp
        cases e with
        | normal =>
          obtain ⟨hab3, hi3⟩ := hp
          obtain ⟨hr, hl4, hk4⟩ := fin none W3 hab3
          exact ⟨_, _, hr, .inl ⟨rfl, hI _ _ _ hi3 (hput _ _), hl4, hk4⟩⟩
        | ret =>
          obtain ⟨hab3, hi3⟩ := hp
          obtain ⟨hr, hl4, hk4⟩ := fin (some .ret) W3 hab3
          exact ⟨_, _, hr, .inr ⟨rfl, .ret, hIx _ _ _ _ hi3 (hput _ _), hl4, hk4⟩⟩
        | exit id =>
          obtain ⟨hab3, hi3⟩ := hp
          obtain ⟨hr, hl4, hk4⟩ := fin (some (.exit id)) W3 hab3
          exact ⟨_, _, hr, .inr ⟨rfl, .exit id, hIx _ _ _ _ hi3 (hput _ _), hl4, hk4⟩⟩
        | goto t => exact hp.elim
        | panic ch => exact hp.elim
        | outgrown => exact hp.elim
      | ret => exact he.elim
      | exit id => exact he.elim
      | goto t => exact he.elim
      | panic ch => exact he.elim
      | outgrown => exact he.elim
    · rintro e W2 ⟨⟨v, rfl⟩, (⟨hi, hl, hk⟩ | ⟨pre, c, hi, hl, hk⟩)⟩
      · have hlt : w.heap.size + 1 < W2.heap.size := (Array.getElem?_eq_some_iff.1 hl).1
        refine ⟨none, _, by have := run_endLoop (P := P) hl (by rw [hrec]; simp); rw [hrec] at this; exact this, ?_⟩
        exact hdone _ _ (Nat.le_refl _) (hI _ _ _ hi (hput _ _)) ((World.putObj_heap_other (by omega)).trans hk)
      · refine ⟨some c, _, by have := run_endLoop (P := P) hl (by rw [hrec]; simp); rw [hrec] at this; exact this, ?_⟩
        exact hstop _ c pre _ (Nat.le_refl _) (hIx _ _ _ _ hi (hput _ _)) ((World.putObj_heap_other (by omega)).trans hk)
end Go.Proofs.YtklconegomgjaaaGreat
