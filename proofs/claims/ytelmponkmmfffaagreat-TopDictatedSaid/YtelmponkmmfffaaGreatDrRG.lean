/- What is proved here: the contract of the reference's Shipped of layer 9. Conditions: the hall lies in memory; few customers; the customer is one. -/
/- What is proved here: append as a step of a region that draws its order. Over any program. -/
/- What is proved here: the contract of the reference's Only of layer 9. Conditions: the hall lies in memory; few numbers, which are writers'. -/
/- What is proved here: contracts of the reference of layer 9: Away. Condition: the hall lies in memory. -/
/- What is proved here: contracts of the reference of layer 9: Enough. Condition: the hall lies in memory. -/
import Derived.Test.YtelmponkmmfffaaGreatDrNG
import Derived.Test.YtelmponkmmfffaaGreatDrJG
import Derived.Deep.AppendLies
import Derived.Deep.RegionHeld3
set_option linter.unusedVariables false
set_option linter.unusedSimpArgs false
namespace Go.Proofs.YtelmponkmmfffaaGreat
open Go Go.RowKit Go.Shelf

end Go.Proofs.YtelmponkmmfffaaGreat
namespace Go.Proofs.YtelmponkmmfffaaGreat
open Go Go.RowKit
theorem run_app {P : Program} {w : World} {t e ty : TypeId} {z : Value} {size bytes : Nat} (hE : ElemInfo P t e z size bytes) {v y : Value} (base n m : Nat) (xs news : List Value) (hown : w.ownsRow base e size v n xs) (hsrc : SrcAt w y m size news)
    (hnm : n + m ≤ 1000000) (hbt : bytes ≤ 1000000) (hbase : base ≤ w.heap.size) :
    ∃ v' w', (Builtin.append_ #[t, t] ty #[v, y]).run P w = .ok v' w' ∧ w'.ownsRow base e size v' (n + m) (xs ++ news) ∧ w.grownBy w' v.ownBlock ∧ (v'.ownBlock = v.ownBlock ∨ v'.ownBlock = some w.heap.size) := by
  obtain ⟨i, hi, hz, hsz, hby⟩ := info_parts hE.info
  obtain ⟨h1, h2, h3⟩ := hsrc
  rcases h3 with ⟨rfl, rfl⟩ | ⟨ad, c, rfl, hc⟩
  · have hn : news = [] := List.eq_nil_of_length_eq_zero (by simpa using h1)
    subst hn
    have hrun := run_append_owned_none (P := P) (w := w) base t ty e i size hE.und hi v n xs hown
    exact ⟨v, w, hrun, by simpa using hown, ⟨rfl, rfl, rfl, Nat.le_refl _, fun _ _ _ => rfl⟩, .inl rfl⟩
  · have hm : maxLen = 9223372036854775807 := rfl
    have hb : (n + m) * bytes ≤ 1000000 * 1000000 := Nat.mul_le_mul hnm hbt
    obtain ⟨v', w', hr, k2, k3, _, k5⟩ := run_append_own_at (P := P) w base t ty e i z size bytes hE.und hi hz hsz hby hE.zsz hE.pos v n xs hown ad m c news h1 hc h2 (by omega) (by omega) hbase
    exact ⟨v', w', hr, k2, k3, k5⟩
theorem step_app {P : Program} {w : World} {ops : Array Oper} {o : Oper} {a : Act} {K : Act → World → Prop} {Q : Exit → Act → World → Prop} {E : Prop} (s x : Operand) {t e : TypeId} {z : Value} {size bytes : Nat}
    (hE : ElemInfo P t e z size bytes) (hgd : o.guard = none) (ho : o.op = .call { callee := .builtin .append, args := #[s, x], argTypes := #[t, t] })
    {v y : Value} (hs : a.eval s = v) (hx : a.eval x = y)
    (base n m : Nat) (xs news : List Value) (hown : w.ownsRow base e size v n xs) (hsrc : SrcAt w y m size news)
    (hnm : n + m ≤ 1000000) (hbt : bytes ≤ 1000000) (hbase : base ≤ w.heap.size)
    (h : ∀ v' w', w'.ownsRow base e size v' (n + m) (xs ++ news) → w.grownBy w' v.ownBlock → (v'.ownBlock = v.ownBlock ∨ v'.ownBlock = some w.heap.size) → K (a.put o.dst v') w') :
    if Region.wanted o (yielded ops a.tmps) = true then Oper.wp P o a w K Q else E := by
  have hw : Region.wanted o (yielded ops a.tmps) = true := by simp [Region.wanted, hgd]
  rw [if_pos hw]
  obtain ⟨v', w', hr, h2, h3, h4⟩ := run_app (P := P) (w := w) (t := t) (ty := o.type) hE base n m xs news hown hsrc hnm hbt hbase
  unfold Oper.wp execOp
  simp only [ho, resolve, invoke, builtin, Sem.run_bind, Sem.run_pure, Result.andThen_ok, List.map_toArray, List.map_cons, List.map_nil, hs, hx, hr]
  exact h v' w' h2 h3 h4
theorem made_row2 {B : Nat} {W : World} (h : B ≤ W.heap.size) (e : TypeId) (n : Nat) : (W.alloc (.cells #[] e)).ownsRow B e n (.slice (some ⟨W.heap.size, 0, none⟩) 0 0) 0 [] :=
  World.ownsRow_made (base := B) (e := e) (size := n) W #[] 0 h (by decide) (by simp)
theorem app_grown {X W V : World} {e : TypeId} {size n : Nat} {v : Value} {xs : List Value} (h : Below X.heap.size X W) (ho : W.ownsRow X.heap.size e size v n xs) (hg : W.grownBy V v.ownBlock) : Below X.heap.size X V :=
  h.grown hg h.size (fun k e => (ho.lt k e).1)
theorem src_grown {W V : World} {b c m n : Nat} {row : Option Nat} {news : List Value} (h : SrcAt W (.slice (some ⟨b, 0, none⟩) m c) m n news) (hg : W.grownBy V row) (hne : some b ≠ row) : SrcAt V (.slice (some ⟨b, 0, none⟩) m c) m n news := by
  obtain ⟨h1, h2, h3⟩ := h
  refine ⟨h1, h2, ?_⟩
  rcases h3 with ⟨h3, h4⟩ | ⟨ad, c', h3, h4⟩
  · cases h3
  · cases h3
    refine .inr ⟨_, _, rfl, fun j u hj => ?_⟩
    have := h4 j u hj
    rw [Addr.add_lit] at this ⊢
    exact hg.cell this hne
end Go.Proofs.YtelmponkmmfffaaGreat
namespace Go.Proofs.YtelmponkmmfffaaGreat
open Go Go.RowKit Go.Shelf

end Go.Proofs.YtelmponkmmfffaaGreat
namespace Go.Proofs.YtelmponkmmfffaaGreat
open Go Go.RowKit Go.Shelf

end Go.Proofs.YtelmponkmmfffaaGreat
namespace Go.Proofs.YtelmponkmmfffaaGreat
open Go Go.RowKit Go.Shelf

end Go.Proofs.YtelmponkmmfffaaGreat
