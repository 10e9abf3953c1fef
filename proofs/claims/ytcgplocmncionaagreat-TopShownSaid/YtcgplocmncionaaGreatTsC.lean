/- What is proved here: plain facts for TopShown's walk; copies of layer 10 as cells in a row. No condition. -/
import Derived.Test.YtcgplocmncionaaGreatTsG
import Derived.Test.YtcgplocmncionaaGreatChLost
import Derived.Test.YtcgplocmncionaaGreatSrG
import Derived.Test.YtcgplocmncionaaGreatSwAG
import Derived.Test.YtcgplocmncionaaGreatSrA
set_option linter.unusedVariables false
set_option linter.unusedSimpArgs false
namespace Go.Proofs.YtcgplocmncionaaGreat
open Go Go.RowKit

theorem none_knows {r : SeRoom} (h : seErr r ≠ 0 ∨ r.writers.length = 0 ∨ r.kept.length = 0) : ∃ m e, knowsOf r 0 0 0 = (m, e) ∧ e ≠ 0 := by
  have h2 : knowsErr r 0 0 0 ≠ 0 := fun hk => by
    unfold knowsErr at hk
    have hw : whoErr r 0 0 ≠ 0 := fun hw => by
      unfold whoErr indexErr at hw
      by_cases h0 : seErr r = 0
      · rw [if_pos h0, if_pos h0] at hw
        rcases h with h | h | h
        · exact h h0
        · rw [h] at hw
          simp [inB] at hw
        · rw [h] at hw
          by_cases hi : inB 0 0 ((r.writers.length : Int) - 1) = true
          · rw [if_pos hi] at hw; simp [inB] at hw
          · rw [if_neg hi] at hw; simp at hw
      · rw [if_neg h0, if_neg h0] at hw; exact h0 hw
    unfold knownErr at hk
    split at hk
    · next h3 => exact hw h3
    · exact hw hk
  exact ⟨_, _, by unfold knowsOf; rw [if_neg h2], h2⟩
theorem find_all (c : ChH) (p : Nat) : findN c p 0 = viewN c p := by
  refine Nat.eq_of_testBit_eq fun i => ?_
  unfold findN
  rw [maskTo_bit]
  have : wordedB c i 0 = true := by unfold wordedB; simp
  rw [this, Bool.and_true]
  unfold viewN
  rw [maskTo_bit]
  cases decide (i < c.copies.length) <;> simp
theorem numI_rises {s n : Nat} (h : s < 2 ^ n) (hn : n ≤ 64) : Rises (numI s) n := by
  have hl : ∀ x ∈ numI s, 0 ≤ x ∧ x < (n : Int) := fun x hx => by
    have h1 := (bits_mem s 64 x).1 hx
    have h2 := h1.2.2
    rcases Nat.lt_or_ge x.toNat n with h3 | h3
    · omega
    · rw [Nat.testBit_lt_two_pow (Nat.lt_of_lt_of_le h (Nat.pow_le_pow_right (by decide) h3))] at h2; cases h2
  refine ⟨fun i hi => hl _ (List.getElem_mem hi), fun i hi => ?_⟩
  have hp : (numI s).Pairwise (· < ·) := by
    rw [numI_is, List.pairwise_map]
    refine List.Pairwise.imp (fun {a b} (hab : a < b) => by omega) ?_
    exact List.Pairwise.filter _ List.pairwise_lt_range
  exact List.pairwise_iff_getElem.1 hp i (i + 1) (by omega) hi (by omega)
theorem numI_len (s : Nat) : (numI s).length ≤ 64 := by
  rw [numI_is, List.length_map]
  have := List.length_filter_le (fun i => s.testBit i) (List.range 64)
  simpa [numbersN] using this
theorem copyCells_one (x : ChC) : ∀ u ∈ copyCells x, u.oneCell' = true := by
  intro u hu; simp [copyCells] at hu; rcases hu with rfl | rfl | rfl | rfl <;> rfl
theorem flat_copies {w : World} {a : Option Addr} {l : List ChC} (h : FlatAt copyCells 4 w a l) : ChCopiesC w a l := fun i hi => by
  obtain ⟨b, off, e, hb, hc⟩ := h i hi
  exact ⟨b, off, e, hb, hc 0 _ (by omega) rfl, hc 1 _ (by omega) rfl, hc 2 _ (by omega) rfl, hc 3 _ (by omega) rfl⟩
theorem SrcAt.chcopies {w : World} {a : Option Addr} {l : List ChC} {c : Nat} (hn : a = none → c = 0) (h : ChCopiesC w a l) : SrcAt w (.slice a l.length c) l.length 4 (flatC copyCells l) :=
  SrcAt.flat copyCells_len (by decide) copyCells_one hn (copies_flat h)
theorem chcopies_own {w : World} {base : Nat} {e : TypeId} {v : Value} {k : Nat} {l : List ChC} (h : w.ownsRow base e 4 v k (flatC copyCells l)) : k = l.length ∧ ∃ a c, v = .slice a l.length c ∧ SlOk a l.length c ∧ ChCopiesC w a l := by
  obtain ⟨h1, a, c, h2, h3, h4⟩ := flat_own copyCells_len (by decide) h
  exact ⟨h1, a, c, h2, h3, flat_copies h4⟩
theorem chcopy_snoc (l : List ChC) (a b c d : Int) : flatC copyCells l ++ [.int .i64 a, .int .i64 b, .int .i64 c, .int .i64 d] = flatC copyCells (l ++ [⟨a, b, c, d⟩]) := flatC_snoc l ⟨a, b, c, d⟩
theorem SrcAt.chcopy1 (W : World) (a b c d : Int) (t : TypeId) : SrcAt (W.alloc (.cells #[.int .i64 a, .int .i64 b, .int .i64 c, .int .i64 d] t)) (.slice (some ⟨W.heap.size, 0, none⟩) 1 1) 1 4 [.int .i64 a, .int .i64 b, .int .i64 c, .int .i64 d] :=
  SrcAt.box (vs := [.int .i64 a, .int .i64 b, .int .i64 c, .int .i64 d]) W (copyCells_one ⟨a, b, c, d⟩) t
theorem copiesTo_succ {r : SeRoom} {who k : Nat} (hk : k < r.letters.length) : copiesTo r who (k + 1) = copiesTo r who k ++ [chCopyOf r who k r.letters[k]] := by
  rw [copiesTo, List.getElem?_eq_getElem hk]
theorem manyTo_succ {r : SeRoom} {who s k : Nat} (hk : k < r.letters.length) : manyTo r who s (k + 1) = manyTo r who s k + (if (visB r who r.letters[k] && bitB r.letters[k].secrets s) = true then 1 else 0) := by
  rw [manyTo, shownB_at hk]
theorem sureT_step {r : SeRoom} {k : Nat} (hk : k < r.leaks.length) : sureT r (k + 1) = if r.leaks[k].sure = true then sureT r k ++ [(k : Int)] else sureT r k := by
  rw [sureT]
  have : sureAt r k = r.leaks[k].sure := by unfold sureAt; rw [List.getElem?_eq_getElem hk]
  rw [this]
theorem sureT_len (r : SeRoom) : ∀ k, (sureT r k).length ≤ k
  | 0 => by simp [sureT]
  | k + 1 => by
    rw [sureT]
    have := sureT_len r k
    split
    · rw [List.length_append, List.length_singleton]; omega
    · omega
theorem manyTo_le (r : SeRoom) (who s : Nat) : ∀ k, manyTo r who s k ≤ k
  | 0 => Nat.le_refl _
  | k + 1 => by
    rw [manyTo]
    have := manyTo_le r who s k
    split <;> omega
/-- From, of one letter in a block of its own. -/
theorem From_one (a1 a2 a3 a4 a5 : Option Addr) (k1 k2 k3 k4 k5 : Nat) (r : SeRoom) (day sec wr : Int) (aS : Option Addr) (T : List Int) (cS s who : Nat) (D : Int) (w : World) (hm : RoomC w a1 a2 a3 a4 a5 k1 k2 k3 k4 k5 r) (hv : SeValid r) (hd : 0 ≤ day ∧ day ≤ 10) (hsec : 0 ≤ sec ∧ sec ≤ 8) (hto : SlOk aS T.length cS) (htc : IntsC w aS T) (htb : ∀ x ∈ T, 0 ≤ x ∧ x < r.leaks.length) (hs : s ≤ 3) (hu : who < r.writers.length) (hD : fromD r [⟨day, sec, wr⟩] T s who = D) :
    Calls Tryz.prog 8 #[(.agg #[.slice a1 r.writers.length k1, .slice a2 r.kept.length k2, .slice a3 r.leaks.length k3, .slice a4 r.letters.length k4, .slice a5 r.heard.length k5]), .slice (some ⟨w.heap.size, 0, none⟩) 1 1, .slice aS T.length cS, .int .i64 (s : Int)] (w.alloc (.cells #[.int .i64 day, .int .i64 sec, .int .i64 wr] 43)) fun e w' => ∃ g, e = .returned (.slice (some ⟨g, 0, none⟩) r.writers.length r.writers.length) ∧ w'.cell? ⟨g, who, none⟩ = some (.int .i64 D) ∧ g < w'.heap.size ∧ Below w.heap.size w w' := by
  have hal := (Below.refl w.heap.size w).alloc (Nat.le_refl _) (.cells #[.int .i64 day, .int .i64 sec, .int .i64 wr] 43)
  have hlc : LettersC (w.alloc (.cells #[.int .i64 day, .int .i64 sec, .int .i64 wr] 43)) (some ⟨w.heap.size, 0, none⟩) [⟨day, sec, wr⟩] := fun i hi => by
    have e : i = 0 := by simp at hi; omega
    subst e
    have h := heap_alloc_new w (.cells #[.int .i64 day, .int .i64 sec, .int .i64 wr] 43)
    exact ⟨_, 0, rfl, by simp, blk_cell 0 h rfl, blk_cell 1 h rfl, blk_cell 2 h rfl⟩
  have hlb : ∀ x ∈ [(⟨day, sec, wr⟩ : SeLetter)], 0 ≤ x.day ∧ x.day ≤ 10 ∧ 0 ≤ x.secrets ∧ x.secrets ≤ 8 := fun x hx => by
    rw [List.mem_singleton.1 hx]
    exact ⟨hd.1, hd.2, hsec.1, hsec.2⟩
  have C := RFrom_any a1 a2 a3 a4 a5 k1 k2 k3 k4 k5 r (some ⟨w.heap.size, 0, none⟩) aS [⟨day, sec, wr⟩] T 1 cS s _ (hm.mono hal) hv ⟨by simp, by omega, fun h => by cases h⟩ hlc hlb hto (htc.mono hal) htb hs
  refine C.mono ?_
  rintro e w' ⟨h1, h2⟩
  have hc := h2.cell who hu
  rw [hD] at hc
  exact ⟨_, h1, hc, lt_of_cell hc, hal.trans (h2.1.mono (by simp))⟩
/-- A list below a block. -/
def IntsB (B : Nat) (w : World) (a : Option Addr) (l : List Int) : Prop := ∀ i (_ : i < l.length), ∃ b off, a = some ⟨b, off, none⟩ ∧ b < B ∧ w.cell? ⟨b, off + i, none⟩ = some (.int .i64 l[i])
theorem IntsB.below {B : Nat} {w W : World} {a : Option Addr} {l : List Int} (h : IntsB B w a l) (hb : Below B w W) : IntsB B W a l := fun i hi => by
  obtain ⟨b, off, e, h1, h2⟩ := h i hi
  exact ⟨b, off, e, h1, (hb.cell (p := ⟨b, off + i, none⟩) h1).trans h2⟩
theorem IntsB.ints {B : Nat} {w : World} {a : Option Addr} {l : List Int} (h : IntsB B w a l) (hB : B ≤ w.heap.size) : IntsC w a l := fun i hi => by
  obtain ⟨b, off, e, h1, h2⟩ := h i hi
  exact ⟨b, off, e, Nat.lt_of_lt_of_le h1 hB, h2⟩
theorem IntsB.of {w : World} {a : Option Addr} {l : List Int} (h : IntsC w a l) : IntsB w.heap.size w a l := fun i hi => by
  obtain ⟨b, off, e, h1, h2⟩ := h i hi
  exact ⟨b, off, e, h1, h2⟩
/-- The memory of TopShown's second loop. -/
structure TsI (Y V : World) (ps pc : Nat) (aS : Option Addr) (T : List Int) (R : SeRoom) (who k : Nat) (a : Option Addr) (c : Nat) : Prop where
  q : Below Y.heap.size Y V
  sh : V.heap[ps]? = some (.cells #[.string ⟨#[115, 104, 101]⟩] 9 (0, 0))
  ch : V.heap[pc]? = some (.cells #[.int .i64 1, .int .i64 (R.kept.length : Int), .slice (some ⟨ps, 0, none⟩) 1 1, .int .i64 (R.letters.length : Int), .slice a (copiesTo R who k).length c, .slice none 0 0] 41 (0, 0))
  ok : SlOk a (copiesTo R who k).length c
  cp : ChCopiesC V a (copiesTo R who k)
  su : IntsB ps V aS T
theorem TsI.sz {Y V : World} {ps pc : Nat} {aS : Option Addr} {T : List Int} {R : SeRoom} {who k : Nat} {a : Option Addr} {c : Nat} (h : TsI Y V ps pc aS T R who k a c) : ps ≤ V.heap.size := Nat.le_of_lt (lt_of_block h.sh)
theorem TsI.on {Y V V' : World} {ps pc : Nat} {aS : Option Addr} {T : List Int} {R : SeRoom} {who k : Nat} {a : Option Addr} {c : Nat} (h : TsI Y V ps pc aS T R who k a c) (hb : Below V.heap.size V V') : TsI Y V' ps pc aS T R who k a c :=
  ⟨q_on h.q hb, (hb.block _ (lt_of_block h.sh)).trans h.sh, (hb.block _ (lt_of_block h.ch)).trans h.ch, h.ok, h.cp.mono hb, h.su.below (hb.mono h.sz)⟩
/-- Behind the append. -/
theorem TsI.app {Y V V2 : World} {ps : Nat} {aS : Option Addr} {T : List Int} {R : SeRoom} {who k : Nat} {a a9 : Option Addr} {c c9 : Nat} (h : TsI Y V ps (ps + 1) aS T R who k a c) (hy : Y.heap.size ≤ ps) (hb : Below V.heap.size V V2) (hs9 : SlOk a9 (copiesTo R who (k + 1)).length c9)
    (ho : V2.ownsRow V.heap.size 45 4 (.slice a9 (copiesTo R who (k + 1)).length c9) (copiesTo R who (k + 1)).length (flatC copyCells (copiesTo R who (k + 1)))) :
    TsI Y (V2.setCell ⟨ps + 1, 4, none⟩ (.slice a9 (copiesTo R who (k + 1)).length c9)) ps (ps + 1) aS T R who (k + 1) a9 c9 := by
  have h2 := h.on hb
  have hz := lt_of_block h.ch
  have hps : Below ps V2 (V2.setCell ⟨ps + 1, 4, none⟩ (.slice a9 (copiesTo R who (k + 1)).length c9)) := (Below.refl _ _).setCell (by simp only; omega) _
  refine ⟨h2.q.trans (hps.mono hy), (Below.heap_setCell _ _ _ _ (by simp only; omega)).trans h2.sh, ?_, hs9, ?_, h2.su.below hps⟩
  · have := blk_set 4 (.slice a9 (copiesTo R who (k + 1)).length c9) h2.ch
    exact this
  · have h3 := ownsRow_setCell_other ho (a := ⟨ps + 1, 4, none⟩) (fun e => by have h1 := (ho.lt _ e).1; simp only at h1; omega) (.slice a9 (copiesTo R who (k + 1)).length c9)
    obtain ⟨_, a8, c8, e8, hs8, hw8⟩ := chcopies_own h3
    cases e8
    exact hw8
end Go.Proofs.YtcgplocmncionaaGreat
