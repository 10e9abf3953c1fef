/- What is proved here: a region that draws its order and ends in one operation z for which the others are waited: what holds of the world all along need not hold behind z. Over any program. -/
import Derived.Test.YtchnpekgmkhacaaStepG
import Derived.Deep.RegionHeld
import Derived.StillTail
set_option linter.unusedVariables false
set_option linter.unusedSimpArgs false
namespace Go.Proofs.Ytchnpekgmkhacaa
open Go Go.RowKit
section
variable {P : Program} {ops : Array Oper} {Q : Exit → Act → World → Prop} {md : Region.Mode} {S : World → Prop} {z : Nat}
/-- Whatever comes up next; S holds behind it, unless it is z. -/
def wpZ (P : Program) (md : Region.Mode) (ops : Array Oper) (Q : Exit → Act → World → Prop) (S : World → Prop) (z : Nat) : Nat → Array Bool → Act → World → Prop
  | 0, listed, a, w => Region.ready md ops listed = [] ∧ Q .normal a w
  | g + 1, listed, a, w => (Region.ready md ops listed = [] → Q .normal a w) ∧ ∀ i ∈ Region.ready md ops listed, wpOp P ops Q i (fun b v => (i ≠ z → S v) ∧ wpZ P md ops Q S z g (listed.setIfInBounds i true) b v) a w
theorem wpZ_any : ∀ (g : Nat) (listed : Array Bool) (a : Act) (w : World), wpZ P md ops Q S z g listed a w → wpAny P md ops Q g listed a w
  | 0, _, _, _, h => h
  | g + 1, _, _, _, h => ⟨h.1, fun i hi => wpOp_mono (fun b v k => wpZ_any g _ b v k.2) (h.2 i hi)⟩
theorem listed_getD {listed : Array Bool} {i : Nat} (h0 : listed.getD i true = false) (h1 : listed.getD i false = true) : False := by
  rcases Nat.lt_or_ge i listed.size with h | h
  · simp [h] at h0 h1
    rw [h0] at h1; cases h1
  · simp [Array.getElem?_eq_none h] at h1
/-- What z waits for and has not come up keeps z from coming up. -/
theorem z_waits {listed : Array Bool} {i : Nat} (hw : Region.waitsFor md ops z i = true) (hi : i ∈ Region.ready md ops listed) : ∀ j ∈ Region.ready md ops listed, j ≠ z := by
  rintro j hj rfl
  obtain ⟨oz, hoz, e, he, hb, rfl⟩ := Region.waitsFor_spec hw
  obtain ⟨_, oj, hoj, hall⟩ := mem_ready.1 hj
  rw [hoz] at hoj
  cases hoj
  exact listed_getD (mem_ready.1 hi).1 (hall e he hb)
theorem wpZ_first {i : Nat} {oi : Oper} {v : Value} (hi : ops[i]? = some oi) (hsel : ∀ (j : Nat) (o : Oper) cs b, ops[j]? = some o → o.op ≠ .select cs b)
    (hQ : ∀ c a w, Q (.panic c) (a.put oi.dst v) w → Q (.panic c) a w) (hw : Region.waitsFor md ops z i = true) :
    ∀ (g : Nat) (listed : Array Bool) (a : Act) (w : World),
      (∀ j oj, ops[j]? = some oj → j ≠ i → listed.getD j true = false → (∀ e ∈ oj.after, Region.binds md e = true → e.on ≠ i) → oi.apart ops oj = true) →
      i ∈ Region.ready md ops listed → YieldsIf P ops S oi v a → S w →
      wpZ P md ops Q S z g (listed.setIfInBounds i true) (a.put oi.dst v) w → wpZ P md ops Q S z (g + 1) listed a w
  | 0, listed, a, w, _, hr, hy, hS, H => ⟨fun h => by rw [h] at hr; exact absurd hr (by simp), fun j hj => by
      by_cases e : j = i
      · subst e
        exact hy.wpOp hi hS ⟨fun _ => hS, H⟩
      · have k := ready_mono hj e
        rw [H.1] at k
        exact absurd k (by simp)⟩
  | g + 1, listed, a, w, hfree, hr, hy, hS, H => ⟨fun h => by rw [h] at hr; exact absurd hr (by simp), fun j hj => by
      by_cases e : j = i
      · subst e
        exact hy.wpOp hi hS ⟨fun _ => hS, H⟩
      · have hjz := z_waits hw hr j hj
        obtain ⟨hjun, oj, hoj, hall⟩ := mem_ready.1 hj
        have hnot : ∀ e ∈ oj.after, Region.binds md e = true → e.on ≠ i := fun e he hb heq => listed_getD (mem_ready.1 hr).1 (by rw [← heq]; exact hall e he hb)
        have k := wpOp_putIf hoj (hfree j oj hoj e hjun hnot) (fun cs b => hsel i oi cs b hi) (fun cs b => hsel j oj cs b hoj) hQ hy (H.2 j (ready_mono hj e))
        refine wpOp_mono (fun b v k2 => ⟨k2.2.1, wpZ_first hi hsel hQ hw g (listed.setIfInBounds j true) b v (fun q oq hq hqi hun hno => hfree q oq hq hqi ?_ hno) (ready_mono hr (Ne.symm e)) k2.1 (k2.2.1 hjz) ?_⟩) k
        · by_cases hjq : j = q
          · subst hjq; exact hjun
          · rwa [getD_set_ne true hjq] at hun
        · rw [Array.setIfInBounds_comm _ _ e]
          exact k2.2.2⟩
theorem wpZ_take {i : Nat} {oi : Oper} {v : Value} {g : Nat} {listed : Array Bool} {a : Act} {w : World} (hi : ops[i]? = some oi)
    (hs : Region.noSelect ops = true) (hf : Region.free md ops listed i = true) (hr : (Region.ready md ops listed).contains i = true) (hw : Region.waitsFor md ops z i = true)
    (hQ : ∀ c a w, Q (.panic c) (a.put oi.dst v) w → Q (.panic c) a w) (hy : YieldsIf P ops S oi v a) (hS : S w)
    (h : wpZ P md ops Q S z g (listed.setIfInBounds i true) (a.put oi.dst v) w) : wpZ P md ops Q S z (g + 1) listed a w :=
  wpZ_first hi (Region.noSelect_spec hs) hQ hw g listed a w (Region.free_spec hi hf) (by simpa using hr) hy hS h
theorem tkZ (i : Nat) {oi : Oper} {v : Value} {g : Nat} {listed : Array Bool} {a : Act} {w : World} (h : wpZ P md ops Q S z g (listed.setIfInBounds i true) (a.put oi.dst v) w) (hi : ops[i]? = some oi := by rfl) (hb : (Region.noSelect ops && Region.free md ops listed i && (Region.ready md ops listed).contains i && Region.waitsFor md ops z i && Region.wanted oi (yielded ops a.tmps)) = true := by kernel_rfl)
    (hQ : ∀ c a w, Q (.panic c) (a.put oi.dst v) w → Q (.panic c) a w := by exact fun _ _ _ h => h) (hy : ∀ w, S w → (execOp a.eval oi).run P w = .ok (.value v) w := by (intro w h; (try dsimp only at h); go_simp; first | done | with_reducible rfl)) (hS : S w := by assumption) : wpZ P md ops Q S z (g + 1) listed a w := by
  simp only [Bool.and_eq_true] at hb
  exact wpZ_take hi hb.1.1.1.1 hb.1.1.1.2 hb.1.1.2 hb.1.2 hQ (.inl ⟨hb.2, hy⟩) hS h
/-- Each of rs comes up next. -/
def AllZ (P : Program) (md : Region.Mode) (ops : Array Oper) (Q : Exit → Act → World → Prop) (S : World → Prop) (z : Nat) (g : Nat) (listed : Array Bool) (a : Act) (w : World) (rs : List Nat) : Prop :=
  ∀ i ∈ rs, wpOp P ops Q i (fun b v => (i ≠ z → S v) ∧ wpZ P md ops Q S z g (listed.setIfInBounds i true) b v) a w
theorem AllZ.nil {g : Nat} {listed : Array Bool} {a : Act} {w : World} : AllZ P md ops Q S z g listed a w [] := fun i h => absurd h (by simp)
theorem AllZ.cons {g : Nat} {listed : Array Bool} {a : Act} {w : World} {i : Nat} {o : Oper} {rs : List Nat} (ho : ops[i]? = some o)
    (h : ∀ K' : Act → World → Prop, Shut (∀ b v, (i ≠ z → S v) → wpZ P md ops Q S z g (listed.setIfInBounds i true) b v → K' b v) → if Region.wanted o (yielded ops a.tmps) = true then Oper.wp P o a w K' Q else K' (a.put o.dst undef) w)
    (hs : AllZ P md ops Q S z g listed a w rs) : AllZ P md ops Q S z g listed a w (i :: rs) := fun j hj => by
  rcases List.mem_cons.1 hj with rfl | hj
  · exact wpOp_step ho fun K' hK => h K' fun b v h1 h2 => hK b v ⟨h1, h2⟩
  · exact hs j hj
theorem wpZ_ready {rs : List Nat} {g : Nat} {listed : Array Bool} {a : Act} {w : World} (hr : Region.ready md ops listed = rs) (hne : rs ≠ []) (h : AllZ P md ops Q S z g listed a w rs) : wpZ P md ops Q S z (g + 1) listed a w :=
  ⟨fun h0 => absurd (hr ▸ h0) hne, hr ▸ h⟩
theorem wpZ_done {listed : Array Bool} {a : Act} {w : World} (hr : Region.ready md ops listed = []) (h : Q .normal a w) : ∀ g, wpZ P md ops Q S z g listed a w
  | 0 => ⟨hr, h⟩
  | _ + 1 => ⟨fun _ => h, by rw [hr]; simp⟩
theorem wp_region_z {id : Nat} {a : Act} {w : World} (S : World → Prop) (z : Nat) (hm : P.follows .mixedOrders = true) (hS : S w.drew) (h : S w.drew → wpZ P .any ops Q S z ops.size (Array.replicate ops.size false) a w.drew) : (Code.region id ops true).wp P Q a w :=
  wp_region_any hm (wpZ_any _ _ _ _ (h hS))
end
theorem cell_same {W W' : World} {b o : Nat} {v : Value} (hh : W'.heap[b]? = W.heap[b]?) (h : W.cell? ⟨b, o, none⟩ = some v) : W'.cell? ⟨b, o, none⟩ = some v := (World.cell?_of_block (a := ⟨b, o, none⟩) hh).trans h
theorem s5_keep {U : World} {b : Nat} {v0 v1 v2 v3 v4 : Value} {t : TypeId} (h : U.heap[b]? = some (.cells #[v0, v1, v2, v3, v4] t (0, 0))) : U.cell? ⟨b, 0, none⟩ = some v0 ∧ U.cell? ⟨b, 1, none⟩ = some v1 ∧ U.cell? ⟨b, 2, none⟩ = some v2 ∧ U.cell? ⟨b, 3, none⟩ = some v3 ∧ U.cell? ⟨b, 4, none⟩ = some v4 ∧ b < U.heap.size :=
  ⟨blk_cell 0 h rfl, blk_cell 1 h rfl, blk_cell 2 h rfl, blk_cell 3 h rfl, blk_cell 4 h rfl, lt_of_block h⟩
end Go.Proofs.Ytchnpekgmkhacaa
