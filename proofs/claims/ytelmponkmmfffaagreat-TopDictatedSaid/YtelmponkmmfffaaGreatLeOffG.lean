/- What is proved here: plain Lean functions for layer 2 (letter), as its program reckons. No program. No condition. -/
/- What is proved here: how a shelf of layer 2 lies in memory, and that it stays while memory grows. No condition. -/
/- What is proved here: plain facts on letters that are made of forms: they are of them, their words are words, and there are as many as the form says. No program. -/
/- What is proved here: a region that draws its order and ends in one operation z for which the others are waited: what holds of the world all along need not hold behind z. Over any program. -/
/- What is proved here: the contract of letter.look: the form that is looked at lies in memory with its rooms. Conditions: the form lies in memory, and has at most five parts. -/
/- What is proved here: contracts of letter.off, with its closure and the search of slices. No condition but lengths. -/
import Derived.Test.YtelmponkmmfffaaGreatFirstG
import Derived.Test.YtelmponkmmfffaaGreatBlkG
import Derived.Test.YtelmponkmmfffaaGreatDeFlawG
import Derived.Test.YtelmponkmmfffaaGreatDrRG
import Derived.Deep.RegionHeld
import Derived.StillTail
import Derived.Test.YtelmponkmmfffaaGreatDrJG
import Derived.OneCell
import Derived.Test.YtelmponkmmfffaaGreatCmpG
set_option linter.unusedVariables false
set_option linter.unusedSimpArgs false
namespace Go.Proofs.YtelmponkmmfffaaGreat
/-- A part: its words, and its room. -/
structure LeP where
  words : List ByteArray
  lo : Int
  hi : Int
structure LeF where
  name : ByteArray
  parts : List LeP
structure LeS where
  width : Int
  forms : List LeF
def wordB (s : ByteArray) : Bool := decide (1 ≤ s.size) && decide (s.size ≤ 8) && s.data.toList.all fun c => decide (97 ≤ c.toNat) && decide (c.toNat ≤ 122)
/-- A part in which nothing is wrong. -/
structure LePOk (p : LeP) : Prop where
  many : p.words.length ≤ 3
  word : ∀ i (hi : i < p.words.length), wordB p.words[i] = true
  given : p.words ≠ [] → p.lo = 0 ∧ p.hi = 0
  room : p.words = [] → 0 ≤ p.lo ∧ p.lo ≤ p.hi ∧ 1 ≤ p.hi ∧ p.hi ≤ 3
structure LeFOk (f : LeF) : Prop where
  many : f.parts.length ≤ 5
  part : ∀ i (hi : i < f.parts.length), LePOk f.parts[i]
/-- A shelf in which nothing is wrong. -/
structure LeValid (s : LeS) : Prop where
  width : 8 ≤ s.width ∧ s.width ≤ 30
  many : s.forms.length ≤ 4
  form : ∀ i (hi : i < s.forms.length), nameB s.forms[i].name = true ∧ (∀ j (hj : j < i), s.forms[j].name ≠ s.forms[i].name) ∧ LeFOk s.forms[i]
/-- A letter in which nothing is wrong. -/
def letB (l : List ByteArray) : Bool := decide (l.length ≤ 15) && l.all wordB
/-- The rooms of a form. -/
def roomsF : List LeP → List (Int × Int)
  | [] => []
  | p :: ps => if p.words.length = 0 then (p.lo, p.hi) :: roomsF ps else roomsF ps
/-- All that can be in rooms, in order. -/
def countsF : List (Int × Int) → List (List Int)
  | [] => [[]]
  | r :: rs => (List.range (r.2 - r.1 + 1).toNat).flatMap fun (k : Nat) => (countsF rs).map fun m => (r.1 + k) :: m
def noW : ByteArray := ⟨#[]⟩
/-- The words of a form, the empty one for each one in rooms. -/
def shapeF : List LeP → List Int → List ByteArray
  | [], _ => []
  | p :: ps, m => if p.words.length = 0 then List.replicate (m.headD 0).toNat noW ++ shapeF ps m.tail else p.words ++ shapeF ps m
def fitB (a b : ByteArray) : Bool := decide (a = noW) || decide (a = b)
/-- Whether a letter is of a shape. -/
def fitL : List ByteArray → List ByteArray → Bool
  | [], [] => true
  | a :: s, b :: l => fitB a b && fitL s l
  | _, _ => false
def waysF (ps : List LeP) (l : List ByteArray) : List (List Int) := (countsF (roomsF ps)).filter fun m => fitL (shapeF ps m) l
/-- The letter of a form and of what is put into its rooms. -/
def makeF : List LeP → List (List ByteArray) → List ByteArray
  | [], _ => []
  | p :: ps, fs => if p.words.length = 0 then fs.headD [] ++ makeF ps fs.tail else p.words ++ makeF ps fs
/-- What a letter has in rooms that have so many. -/
def fillsF : List LeP → List Int → List ByteArray → List (List ByteArray)
  | [], _, _ => []
  | p :: ps, m, l => if p.words.length = 0 then l.take (m.headD 0).toNat :: fillsF ps m.tail (l.drop (m.headD 0).toNat) else fillsF ps m (l.drop p.words.length)
/-- What can be put into rooms. -/
def PutOk (rs : List (Int × Int)) (fs : List (List ByteArray)) : Prop := fs.length = rs.length ∧ ∀ i (hi : i < fs.length) (hr : i < rs.length), rs[i].1 ≤ (fs[i].length : Int) ∧ (fs[i].length : Int) ≤ rs[i].2 ∧ fs[i].all wordB = true
/-- The place behind a mark of a kind, and how many corrections this is. -/
def stepF (kind : Nat) (a s : List ByteArray) : Option (List ByteArray × List ByteArray × Int) :=
  match kind, a, s with
  | 0, x :: a, y :: s => if fitB y x = true then some (a, s, 0) else none
  | 1, x :: a, y :: s => if fitB y x = true then none else some (a, s, 1)
  | 2, _ :: a, s => some (a, s, 1)
  | 3, a, _ :: s => some (a, s, 1)
  | _, _, _ => none
/-- The first one of some numbers that is least; those below 0 are left out. -/
def leastF (of : Nat → Int) : List Nat → Nat × Int → Nat × Int
  | [], b => b
  | k :: l, b => leastF of l (if 0 ≤ of k ∧ (b.2 < 0 ∨ of k < b.2) then (k, of k) else b)
/-- The kind of the next mark, and how many corrections are left. -/
def leftF : Nat → List ByteArray → List ByteArray → Nat × Int
  | 0, _, _ => (4, 0)
  | n + 1, a, s => if a.length = 0 ∧ s.length = 0 then (4, 0) else leastF (fun k => match stepF k a s with | none => -1 | some (a', s', c) => c + (leftF n a' s').2) [0, 1, 2, 3] (0, -1)
def corrF (a s : List ByteArray) : Int := (leftF (a.length + s.length) a s).2
def mendF (l : List ByteArray) : List (List ByteArray) → Int → Int
  | [], b => b
  | s :: ss, b => mendF l ss (if b < 0 ∨ corrF l s < b then corrF l s else b)
def mendsF (ps : List LeP) (l : List ByteArray) : Int := mendF l ((countsF (roomsF ps)).map (shapeF ps)) (-1)
/-- The examples' shelf and letters. -/
def w1 (s : String) : ByteArray := s.toUTF8
end Go.Proofs.YtelmponkmmfffaaGreat
namespace Go.Proofs.YtelmponkmmfffaaGreat
open Go Go.RowKit
def PartsC (w : World) (a : Option Addr) (l : List LeP) : Prop :=
  ∀ i (_ : i < l.length), ∃ b off, a = some ⟨b, off, none⟩ ∧ b < w.heap.size ∧ (∃ aw cw, w.cell? ⟨b, off + i * 3, none⟩ = some (.slice aw l[i].words.length cw) ∧ SlOk aw l[i].words.length cw ∧ StrsC w aw l[i].words) ∧ w.cell? ⟨b, off + i * 3 + 1, none⟩ = some (.int .i64 l[i].lo) ∧ w.cell? ⟨b, off + i * 3 + 2, none⟩ = some (.int .i64 l[i].hi)
theorem PartsC.keep {w W : World} {a : Option Addr} {l : List LeP} (h : PartsC w a l) (hb : Keeps w W) : PartsC W a l := fun i hi => by
  obtain ⟨b, off, e, hlt, ⟨aw, cw, h0, h1, h2⟩, h3, h4⟩ := h i hi
  exact ⟨b, off, e, Nat.lt_of_lt_of_le hlt hb.1, ⟨aw, cw, hb.2 _ _ h0, h1, h2.keep hb⟩, hb.2 _ _ h3, hb.2 _ _ h4⟩
theorem PartsC.mono {w W : World} {a : Option Addr} {l : List LeP} (h : PartsC w a l) (hb : Below w.heap.size w W) : PartsC W a l := h.keep (.of_below hb)
def FormsC (w : World) (a : Option Addr) (l : List LeF) : Prop :=
  ∀ i (_ : i < l.length), ∃ b off, a = some ⟨b, off, none⟩ ∧ b < w.heap.size ∧ w.cell? ⟨b, off + i * 2, none⟩ = some (.string l[i].name) ∧ ∃ ap kp, w.cell? ⟨b, off + i * 2 + 1, none⟩ = some (.slice ap l[i].parts.length kp) ∧ SlOk ap l[i].parts.length kp ∧ PartsC w ap l[i].parts
theorem FormsC.keep {w W : World} {a : Option Addr} {l : List LeF} (h : FormsC w a l) (hb : Keeps w W) : FormsC W a l := fun i hi => by
  obtain ⟨b, off, e, hlt, h0, ap, kp, h1, h2, h3⟩ := h i hi
  exact ⟨b, off, e, Nat.lt_of_lt_of_le hlt hb.1, hb.2 _ _ h0, ap, kp, hb.2 _ _ h1, h2, h3.keep hb⟩
theorem FormsC.mono {w W : World} {a : Option Addr} {l : List LeF} (h : FormsC w a l) (hb : Below w.heap.size w W) : FormsC W a l := h.keep (.of_below hb)
theorem FormsC.take {w : World} {a : Option Addr} {l : List LeF} (h : FormsC w a l) (k : Nat) : FormsC w a (l.take k) := fun i hi => by
  rw [List.length_take] at hi
  have hg : (l.take k)[i]'(by rw [List.length_take]; omega) = l[i]'(by omega) := List.getElem_take ..
  rw [hg]
  exact h i (by omega)
/-- A shelf in memory: a slice of forms, for each of these one of parts, for each of these one of words. -/
structure ShelfC (w : World) (af : Option Addr) (kf : Nat) (s : LeS) : Prop where
  okf : SlOk af s.forms.length kf
  forms : FormsC w af s.forms
  nsize : ∀ x ∈ s.forms, x.name.size ≤ 9223372036854775807
variable {w W : World} {af : Option Addr} {kf : Nat} {s : LeS}
theorem ShelfC.keep (k : ShelfC w af kf s) (hb : Keeps w W) : ShelfC W af kf s := ⟨k.okf, k.forms.keep hb, k.nsize⟩
theorem ShelfC.mono (k : ShelfC w af kf s) (hb : Below w.heap.size w W) : ShelfC W af kf s := k.keep (.of_below hb)
end Go.Proofs.YtelmponkmmfffaaGreat
namespace Go.Proofs.YtelmponkmmfffaaGreat
theorem counts_mem : ∀ (rs : List (Int × Int)) (m : List Int), m.length = rs.length → (∀ i (h1 : i < rs.length) (h2 : i < m.length), rs[i].1 ≤ m[i] ∧ m[i] ≤ rs[i].2) → m ∈ countsF rs
  | [], [], _, _ => by simp [countsF]
  | [], _ :: _, hl, _ => by simp at hl
  | _ :: _, [], hl, _ => by simp at hl
  | r :: rs, x :: m, hl, hb => by
    have h0 := hb 0 (by simp) (by simp)
    simp only [List.getElem_cons_zero] at h0
    simp only [countsF, List.mem_flatMap, List.mem_range, List.mem_map]
    refine ⟨(x - r.1).toNat, by omega, m, counts_mem rs m (by simpa using hl) (fun i h1 h2 => by have := hb (i + 1) (by simpa using h1) (by simpa using h2); simpa using this), ?_⟩
    congr 1
    omega
theorem fitB_refl (a : ByteArray) : fitB a a = true := by simp [fitB]
theorem fit_refl : ∀ l : List ByteArray, fitL l l = true
  | [] => rfl
  | a :: l => by simp [fitL, fitB_refl, fit_refl l]
theorem fit_app : ∀ {a b c d : List ByteArray}, fitL a b = true → fitL c d = true → fitL (a ++ c) (b ++ d) = true
  | [], [], _, _, _, h => by simpa using h
  | [], _ :: _, _, _, h, _ => by simp [fitL] at h
  | _ :: _, [], _, _, h, _ => by simp [fitL] at h
  | x :: a, y :: b, c, d, h, h2 => by
    simp only [fitL, Bool.and_eq_true] at h
    simp only [List.cons_append, fitL, h.1, Bool.true_and]
    exact fit_app h.2 h2
theorem fit_rep : ∀ l : List ByteArray, fitL (List.replicate l.length noW) l = true
  | [] => rfl
  | a :: l => by simp [List.replicate_succ, fitL, fitB, fit_rep l]
theorem fit_make : ∀ (ps : List LeP) (fs : List (List ByteArray)), fs.length = (roomsF ps).length → fitL (shapeF ps (fs.map fun f => (f.length : Int))) (makeF ps fs) = true
  | [], _, _ => by simp [shapeF, makeF, fitL]
  | p :: ps, fs, h => by
    by_cases h0 : p.words.length = 0
    · cases fs with
      | nil => simp [roomsF, h0] at h
      | cons f fs =>
        simp only [roomsF, if_pos h0, List.length_cons] at h
        simp only [shapeF, makeF, if_pos h0, List.map_cons, List.headD_cons, List.tail_cons, Int.toNat_natCast]
        exact fit_app (fit_rep f) (fit_make ps fs (by omega))
    · simp only [roomsF, if_neg h0] at h
      simp only [shapeF, makeF, if_neg h0]
      exact fit_app (fit_refl _) (fit_make ps fs h)
theorem PutOk.head {r : Int × Int} {rs : List (Int × Int)} {f : List ByteArray} {fs : List (List ByteArray)} (h : PutOk (r :: rs) (f :: fs)) : (r.1 ≤ (f.length : Int) ∧ (f.length : Int) ≤ r.2 ∧ f.all wordB = true) ∧ PutOk rs fs :=
  ⟨by have := h.2 0 (by simp) (by simp); simpa using this, by have := h.1; simp at this; exact this, fun i hi hr => by have := h.2 (i + 1) (by simpa using hi) (by simpa using hr); simpa using this⟩
def howLo (ps : List LeP) : Int := (ps.map fun p => (p.words.length : Int) + p.lo).sum
def howHi (ps : List LeP) : Int := (ps.map fun p => (p.words.length : Int) + p.hi).sum
theorem make_len : ∀ (ps : List LeP) (fs : List (List ByteArray)), (∀ p ∈ ps, LePOk p) → PutOk (roomsF ps) fs → howLo ps ≤ ((makeF ps fs).length : Int) ∧ ((makeF ps fs).length : Int) ≤ howHi ps ∧ (makeF ps fs).all wordB = true
  | [], _, _, _ => by simp [howLo, howHi, makeF]
  | p :: ps, fs, hp, h => by
    have hpp := hp p (by simp)
    have hq : ∀ q ∈ ps, LePOk q := fun q hq => hp q (by simp [hq])
    by_cases h0 : p.words.length = 0
    · cases fs with
      | nil => have := h.1; simp [roomsF, h0] at this
      | cons f fs =>
        simp only [roomsF, if_pos h0] at h
        obtain ⟨⟨a1, a2, a3⟩, h2⟩ := h.head
        obtain ⟨b1, b2, b3⟩ := make_len ps fs hq h2
        simp only [howLo, howHi] at b1 b2 ⊢
        simp only [makeF, if_pos h0, List.headD_cons, List.tail_cons, List.map_cons, List.sum_cons, List.length_append, List.all_append, a3, b3]
        simp only at a1 a2
        refine ⟨?_, ?_, rfl⟩ <;> omega
    · simp only [roomsF, if_neg h0] at h
      obtain ⟨b1, b2, b3⟩ := make_len ps fs hq h
      have hg := hpp.given (fun e => h0 (by rw [e]; rfl))
      have hw : p.words.all wordB = true := by
        rw [List.all_eq_true]
        intro x hx
        obtain ⟨i, hi, rfl⟩ := List.getElem_of_mem hx
        exact hpp.word i hi
      simp only [howLo, howHi] at b1 b2 ⊢
      simp only [makeF, if_neg h0, List.map_cons, List.sum_cons, List.length_append, List.all_append, hw, b3]
      refine ⟨?_, ?_, rfl⟩ <;> omega
theorem how_bd : ∀ (ps : List LeP), (∀ p ∈ ps, LePOk p) → 0 ≤ howLo ps ∧ howLo ps ≤ howHi ps ∧ howHi ps ≤ 3 * ps.length
  | [], _ => by simp [howLo, howHi]
  | p :: ps, hp => by
    have hpp := hp p (by simp)
    obtain ⟨b1, b2, b3⟩ := how_bd ps (fun q hq => hp q (by simp [hq]))
    have hm := hpp.many
    simp only [howLo, howHi] at b1 b2 b3 ⊢
    simp only [List.map_cons, List.sum_cons, List.length_cons]
    by_cases h0 : p.words = []
    · have := hpp.room h0
      have h1 : p.words.length = 0 := by rw [h0]; rfl
      omega
    · have := hpp.given h0
      omega
theorem rooms_len (ps : List LeP) : (roomsF ps).length ≤ ps.length := by
  induction ps with
  | nil => simp [roomsF]
  | cons p ps ih => simp only [roomsF]; split <;> simp <;> omega
/-- A letter that is made of a form is of it. -/
theorem make_ways {ps : List LeP} {fs : List (List ByteArray)} (h : PutOk (roomsF ps) fs) : 1 ≤ (waysF ps (makeF ps fs)).length := by
  have hm : (fs.map fun f => (f.length : Int)) ∈ waysF ps (makeF ps fs) := by
    refine List.mem_filter.2 ⟨counts_mem _ _ (by simp [h.1]) (fun i h1 h2 => ?_), fit_make ps fs h.1⟩
    have := h.2 i (by simpa using h2) h1
    simp only [List.getElem_map]
    exact ⟨this.1, this.2.1⟩
  exact List.length_pos_of_mem hm
theorem make_let {f : LeF} (hf : LeFOk f) {fs : List (List ByteArray)} (h : PutOk (roomsF f.parts) fs) : letB (makeF f.parts fs) = true := by
  have hp : ∀ p ∈ f.parts, LePOk p := fun p hp => by obtain ⟨i, hi, rfl⟩ := List.getElem_of_mem hp; exact hf.part i hi
  obtain ⟨a1, a2, a3⟩ := make_len f.parts fs hp h
  have := how_bd f.parts hp
  have := hf.many
  unfold letB
  rw [a3]
  simp
  omega
/-- Fills by turns. -/
def saidL : List ByteArray := ["a".toUTF8, "i".toUTF8, "ask".toUTF8, "to".toUTF8, "the".toUTF8, "b".toUTF8, "judge".toUTF8, "mercy".toUTF8]
def turnL (x : List Int) (n : Nat) : Int := if x.length = 0 then 0 else x[n % x.length]?.getD 0
def saidW (x : List Int) (n : Nat) : ByteArray := saidL[(turnL x n % 8).toNat]?.getD noW
def anyN (x : List Int) (r : Int × Int) (n : Nat) : Nat := (r.1 + turnL x n % (r.2 - r.1 + 1)).toNat
def anyFill (x : List Int) (n k : Nat) : List ByteArray := (List.range k).map fun j => saidW x (n + 1 + j)
def anyFrom (x : List Int) : List (Int × Int) → Nat → List (List ByteArray)
  | [], _ => []
  | r :: rs, n => anyFill x n (anyN x r n) :: anyFrom x rs (n + 1 + anyN x r n)
theorem said_word : ∀ k : Nat, k < 8 → wordB (saidL[k]?.getD noW) = true := by decide
theorem saidW_word (x : List Int) (n : Nat) : wordB (saidW x n) = true := said_word _ (by omega)
theorem any_put (x : List Int) : ∀ (rs : List (Int × Int)) (n : Nat), (∀ r ∈ rs, 0 ≤ r.1 ∧ r.1 ≤ r.2) → PutOk rs (anyFrom x rs n)
  | [], _, _ => ⟨rfl, fun i hi => by simp [anyFrom] at hi⟩
  | r :: rs, n, h => by
    have h0 := h r (by simp)
    have ih := any_put x rs (n + 1 + anyN x r n) (fun q hq => h q (by simp [hq]))
    have hb : 0 ≤ turnL x n % (r.2 - r.1 + 1) ∧ turnL x n % (r.2 - r.1 + 1) < r.2 - r.1 + 1 := ⟨Int.emod_nonneg _ (by omega), Int.emod_lt_of_pos _ (by omega)⟩
    refine ⟨by simp only [anyFrom, List.length_cons, ih.1], fun i hi hr => ?_⟩
    cases i with
    | zero =>
      simp only [anyFrom, List.getElem_cons_zero, anyFill, List.length_map, List.length_range, List.all_map]
      refine ⟨?_, ?_, ?_⟩
      · unfold anyN; omega
      · unfold anyN; omega
      · rw [List.all_eq_true]; intro j _; exact saidW_word x _
    | succ i => exact ih.2 i (by simpa [anyFrom] using hi) (by simpa using hr)
theorem rooms_ok : ∀ (ps : List LeP), (∀ p ∈ ps, LePOk p) → ∀ r ∈ roomsF ps, 0 ≤ r.1 ∧ r.1 ≤ r.2 ∧ r.2 ≤ 3
  | [], _, r, hr => by simp [roomsF] at hr
  | p :: ps, hp, r, hr => by
    have ih := rooms_ok ps (fun q hq => hp q (by simp [hq])) r
    simp only [roomsF] at hr
    split at hr
    · rename_i h0
      have hpp := (hp p (by simp)).room (List.eq_nil_of_length_eq_zero h0)
      rcases List.mem_cons.1 hr with rfl | hr
      · exact ⟨hpp.1, hpp.2.1, hpp.2.2.2⟩
      · exact ih hr
    · exact ih hr
end Go.Proofs.YtelmponkmmfffaaGreat
namespace Go.Proofs.YtelmponkmmfffaaGreat
open Go Go.RowKit
section
variable {P : Program} {ops : Array Oper} {Q : Exit → Act → World → Prop} {md : Region.Mode} {S : World → Prop} {z : Nat}
/-- Whatever comes up next; S holds behind it, unless it is z. -/
def wpZ (P : Program) (md : Region.Mode) (ops : Array Oper) (Q : Exit → Act → World → Prop) (S : World → Prop) (z : Nat) : Nat → Array Bool → Act → World → Prop
  | 0, listed, a, w => Region.ready md ops listed = [] ∧ Q .normal a w
  | g + 1, listed, a, w => (Region.ready md ops listed = [] → Q .normal a w) ∧ ∀ i ∈ Region.ready md ops listed, wpOp P ops Q i (fun b v => (i ≠ z → S v) ∧ wpZ P md ops Q S z g (listed.setIfInBounds i true) b v) a w
theorem wpZ_any : ∀ (g : Nat) (listed : Array Bool) (a : Act) (w : World), wpZ P md ops Q S z g listed a w → wpAny P md ops Q g listed a w
  | 0, _, _, _, h => h
  | g + 1, _, _, _, h => ⟨h.1, fun i hi => wpOp_mono (fun b v k => wpZ_any g _ b v k.2) (h.2 i hi)⟩
theorem listed_getD {listed : Array Bool} {i : Nat} (h0 : listed.getD i true = false) (h1 : listed.getD i false = true) : False := by
  rcases Nat.lt_or_ge i listed.size with h | h
  · simp [h] at h0 h1
    rw [h0] at h1; cases h1
  · simp [Array.getElem?_eq_none h] at h1
/-- What z waits for and has not come up keeps z from coming up. -/
theorem z_waits {listed : Array Bool} {i : Nat} (hw : Region.waitsFor md ops z i = true) (hi : i ∈ Region.ready md ops listed) : ∀ j ∈ Region.ready md ops listed, j ≠ z := by
  rintro j hj rfl
  obtain ⟨oz, hoz, e, he, hb, rfl⟩ := Region.waitsFor_spec hw
  obtain ⟨_, oj, hoj, hall⟩ := mem_ready.1 hj
  rw [hoz] at hoj
  cases hoj
  exact listed_getD (mem_ready.1 hi).1 (hall e he hb)
theorem wpZ_first {i : Nat} {oi : Oper} {v : Value} (hi : ops[i]? = some oi) (hsel : ∀ (j : Nat) (o : Oper) cs b, ops[j]? = some o → o.op ≠ .select cs b)
    (hQ : ∀ c a w, Q (.panic c) (a.put oi.dst v) w → Q (.panic c) a w) (hw : Region.waitsFor md ops z i = true) :
    ∀ (g : Nat) (listed : Array Bool) (a : Act) (w : World),
      (∀ j oj, ops[j]? = some oj → j ≠ i → listed.getD j true = false → (∀ e ∈ oj.after, Region.binds md e = true → e.on ≠ i) → oi.apart ops oj = true) →
      i ∈ Region.ready md ops listed → YieldsIf P ops S oi v a → S w →
      wpZ P md ops Q S z g (listed.setIfInBounds i true) (a.put oi.dst v) w → wpZ P md ops Q S z (g + 1) listed a w
  | 0, listed, a, w, _, hr, hy, hS, H => ⟨fun h => by rw [h] at hr; exact absurd hr (by simp), fun j hj => by
      by_cases e : j = i
      · subst e
        exact hy.wpOp hi hS ⟨fun _ => hS, H⟩
      · have k := ready_mono hj e
        rw [H.1] at k
        exact absurd k (by simp)⟩
  | g + 1, listed, a, w, hfree, hr, hy, hS, H => ⟨fun h => by rw [h] at hr; exact absurd hr (by simp), fun j hj => by
      by_cases e : j = i
      · subst e
        exact hy.wpOp hi hS ⟨fun _ => hS, H⟩
      · have hjz := z_waits hw hr j hj
        obtain ⟨hjun, oj, hoj, hall⟩ := mem_ready.1 hj
        have hnot : ∀ e ∈ oj.after, Region.binds md e = true → e.on ≠ i := fun e he hb heq => listed_getD (mem_ready.1 hr).1 (by rw [← heq]; exact hall e he hb)
        have k := wpOp_putIf hoj (hfree j oj hoj e hjun hnot) (fun cs b => hsel i oi cs b hi) (fun cs b => hsel j oj cs b hoj) hQ hy (H.2 j (ready_mono hj e))
        refine wpOp_mono (fun b v k2 => ⟨k2.2.1, wpZ_first hi hsel hQ hw g (listed.setIfInBounds j true) b v (fun q oq hq hqi hun hno => hfree q oq hq hqi ?_ hno) (ready_mono hr (Ne.symm e)) k2.1 (k2.2.1 hjz) ?_⟩) k
        · by_cases hjq : j = q
          · subst hjq; exact hjun
          · rwa [getD_set_ne true hjq] at hun
        · rw [Array.setIfInBounds_comm _ _ e]
          exact k2.2.2⟩
theorem wpZ_take {i : Nat} {oi : Oper} {v : Value} {g : Nat} {listed : Array Bool} {a : Act} {w : World} (hi : ops[i]? = some oi)
    (hs : Region.noSelect ops = true) (hf : Region.free md ops listed i = true) (hr : (Region.ready md ops listed).contains i = true) (hw : Region.waitsFor md ops z i = true)
    (hQ : ∀ c a w, Q (.panic c) (a.put oi.dst v) w → Q (.panic c) a w) (hy : YieldsIf P ops S oi v a) (hS : S w)
    (h : wpZ P md ops Q S z g (listed.setIfInBounds i true) (a.put oi.dst v) w) : wpZ P md ops Q S z (g + 1) listed a w :=
  wpZ_first hi (Region.noSelect_spec hs) hQ hw g listed a w (Region.free_spec hi hf) (by simpa using hr) hy hS h
/-- Each of rs comes up next. -/
def AllZ (P : Program) (md : Region.Mode) (ops : Array Oper) (Q : Exit → Act → World → Prop) (S : World → Prop) (z : Nat) (g : Nat) (listed : Array Bool) (a : Act) (w : World) (rs : List Nat) : Prop :=
  ∀ i ∈ rs, wpOp P ops Q i (fun b v => (i ≠ z → S v) ∧ wpZ P md ops Q S z g (listed.setIfInBounds i true) b v) a w
theorem AllZ.nil {g : Nat} {listed : Array Bool} {a : Act} {w : World} : AllZ P md ops Q S z g listed a w [] := fun i h => absurd h (by simp)
theorem AllZ.cons {g : Nat} {listed : Array Bool} {a : Act} {w : World} {i : Nat} {o : Oper} {rs : List Nat} (ho : ops[i]? = some o)
    (h : ∀ K' : Act → World → Prop, Shut (∀ b v, (i ≠ z → S v) → wpZ P md ops Q S z g (listed.setIfInBounds i true) b v → K' b v) → if Region.wanted o (yielded ops a.tmps) = true then Oper.wp P o a w K' Q else K' (a.put o.dst undef) w)
    (hs : AllZ P md ops Q S z g listed a w rs) : AllZ P md ops Q S z g listed a w (i :: rs) := fun j hj => by
  rcases List.mem_cons.1 hj with rfl | hj
  · exact wpOp_step ho fun K' hK => h K' fun b v h1 h2 => hK b v ⟨h1, h2⟩
  · exact hs j hj
theorem wpZ_ready {rs : List Nat} {g : Nat} {listed : Array Bool} {a : Act} {w : World} (hr : Region.ready md ops listed = rs) (hne : rs ≠ []) (h : AllZ P md ops Q S z g listed a w rs) : wpZ P md ops Q S z (g + 1) listed a w :=
  ⟨fun h0 => absurd (hr ▸ h0) hne, hr ▸ h⟩
theorem wpZ_done {listed : Array Bool} {a : Act} {w : World} (hr : Region.ready md ops listed = []) (h : Q .normal a w) : ∀ g, wpZ P md ops Q S z g listed a w
  | 0 => ⟨hr, h⟩
  | _ + 1 => ⟨fun _ => h, by rw [hr]; simp⟩
theorem wp_region_z {id : Nat} {a : Act} {w : World} (S : World → Prop) (z : Nat) (hm : P.follows .mixedOrders = true) (hS : S w.drew) (h : S w.drew → wpZ P .any ops Q S z ops.size (Array.replicate ops.size false) a w.drew) : (Code.region id ops true).wp P Q a w :=
  wp_region_any hm (wpZ_any _ _ _ _ (h hS))
end
theorem cell_same {W W' : World} {b o : Nat} {v : Value} (hh : W'.heap[b]? = W.heap[b]?) (h : W.cell? ⟨b, o, none⟩ = some v) : W'.cell? ⟨b, o, none⟩ = some v := (World.cell?_of_block (a := ⟨b, o, none⟩) hh).trans h
end Go.Proofs.YtelmponkmmfffaaGreat
namespace Go.Proofs.YtelmponkmmfffaaGreat
open Go Go.RowKit Go.Shelf
theorem E_spanL : ElemInfo Tryz.prog 85 37 (.agg #[.int .i64 0, .int .i64 0]) 2 16 := ⟨by kernel_rfl, by kernel_rfl, rfl, by decide⟩
def spanCellsL (x : Int × Int) : List Value := [.int .i64 x.1, .int .i64 x.2]
theorem spanCellsL_len (x : Int × Int) : (spanCellsL x).length = 2 := rfl
theorem SrcAt.spanL (W : World) (a b : Int) (t : TypeId) : SrcAt (W.alloc (.cells #[.int .i64 a, .int .i64 b] t)) (.slice (some ⟨W.heap.size, 0, none⟩) 1 1) 1 2 (spanCellsL (a, b)) := by
  refine ⟨rfl, by intro u hu; simp [spanCellsL] at hu; rcases hu with rfl | rfl <;> rfl, .inr ⟨⟨W.heap.size, 0, none⟩, 1, rfl, fun j u hj => ?_⟩⟩
  match j, hj with
  | 0, hj => simp [spanCellsL] at hj; subst hj; exact blk_cell 0 (alloc_at W _ rfl) rfl
  | 1, hj => simp [spanCellsL] at hj; subst hj; exact blk_cell 1 (alloc_at W _ rfl) rfl
  | j + 2, hj => simp [spanCellsL] at hj
theorem rooms_app (a b : List LeP) : roomsF (a ++ b) = roomsF a ++ roomsF b := by
  induction a with
  | nil => rfl
  | cons p a ih => simp only [List.cons_append, roomsF]; split <;> simp [ih]
theorem rooms_yes {l : List LeP} {k : Nat} (h : k < l.length) (h0 : l[k].words.length = 0) : roomsF (l.take (k + 1)) = roomsF (l.take k) ++ [(l[k].lo, l[k].hi)] := by
  rw [← List.take_append_getElem h, rooms_app]
  simp [roomsF, h0]
theorem rooms_no {l : List LeP} {k : Nat} (h : k < l.length) (h0 : l[k].words.length ≠ 0) : roomsF (l.take (k + 1)) = roomsF (l.take k) := by
  rw [← List.take_append_getElem h, rooms_app]
  simp [roomsF, h0]
/-- What the call has collected reads as spans. -/
theorem SpansC.of_own {w : World} {base : Nat} {e : TypeId} {v : Value} {n : Nat} {l : List (Int × Int)} (h : w.ownsRow base e 2 v n (flatC spanCellsL l)) : ∃ a c, v = .slice a l.length c ∧ SlOk a l.length c ∧ SpansC w a l := by
  have hn : l.length = n := by have := h.1; rw [flatC_len spanCellsL_len] at this; omega
  subst hn
  rcases h.2 with ⟨rfl, h0⟩ | ⟨g, cap, cur, rfl, _, hg, h1, h2, h3, h4⟩
  · have : l = [] := List.eq_nil_of_length_eq_zero h0
    subst this
    exact ⟨none, 0, rfl, ⟨Nat.le_refl _, by omega, fun _ => rfl⟩, fun i hi => absurd hi (Nat.not_lt_zero i)⟩
  · have hm : maxLen = 9223372036854775807 := rfl
    refine ⟨some ⟨g, 0, none⟩, cap, rfl, ⟨h1, by omega, fun h => by cases h⟩, fun i hi => ⟨g, 0, rfl, (Array.getElem?_eq_some_iff.1 hg).1, ?_, ?_⟩⟩
    · have := h.cells (g := g) rfl (i * 2 + 0) (.int .i64 l[i].1) (by rw [flatC_get spanCellsL_len l i hi 0 (by decide)]; rfl)
      simpa [Addr.add_lit] using this
    · have := h.cells (g := g) rfl (i * 2 + 1) (.int .i64 l[i].2) (by rw [flatC_get spanCellsL_len l i hi 1 (by decide)]; rfl)
      simpa [Addr.add_lit] using this
/-- A form that is looked at, in memory. -/
def FormW (w : World) (p : Nat) (f : LeF) : Prop := ∃ ap kp ar kr, w.heap[p]? = some (.cells #[.string f.name, .slice ap f.parts.length kp, .slice ar (roomsF f.parts).length kr] 99 (0, 0)) ∧ SlOk ap f.parts.length kp ∧ PartsC w ap f.parts ∧ SlOk ar (roomsF f.parts).length kr ∧ SpansC w ar (roomsF f.parts)
theorem FormW.mono {w W : World} {p : Nat} {f : LeF} (h : FormW w p f) (hb : Below w.heap.size w W) : FormW W p f := by
  obtain ⟨ap, kp, ar, kr, h0, h1, h2, h3, h4⟩ := h
  exact ⟨ap, kp, ar, kr, (hb.block _ (lt_of_block h0)).trans h0, h1, h2.mono hb, h3, h4.mono hb⟩
set_option maxRecDepth 100000 in
set_option maxHeartbeats 4000000 in
theorem LLook_any (ap : Option Addr) (kp : Nat) (f : LeF) (w : World) (ho : SlOk ap f.parts.length kp) (hp : PartsC w ap f.parts) (hn : f.parts.length ≤ 5) :
    Calls Tryz.prog 69 #[.agg #[.string f.name, .slice ap f.parts.length kp]] w fun e w' => ∃ p, e = .returned (.pointer (some ⟨p, 0, none⟩)) ∧ w.heap.size ≤ p ∧ FormW w' p f ∧ Below w.heap.size w w' := by
  obtain ⟨X, hX⟩ : ∃ X : World, X = (w.alloc (.cells #[.string f.name, .slice ap f.parts.length kp] 43)).alloc (.cells #[.string f.name, .slice ap f.parts.length kp, .slice none 0 0] 99) := ⟨_, rfl⟩
  have hwX : Below w.heap.size w X := by rw [hX]; exact ((Below.refl _ w).alloc (Nat.le_refl _) _).alloc (by simp) _
  have g0 : X.heap[w.heap.size]? = some (.cells #[.string f.name, .slice ap f.parts.length kp] 43 (0, 0)) := by rw [hX]; exact (heap_alloc_old _ _ (by simp)).trans (alloc_at _ _ rfl)
  have g1 : X.heap[w.heap.size + 1]? = some (.cells #[.string f.name, .slice ap f.parts.length kp, .slice none 0 0] 99 (0, 0)) := by rw [hX]; exact alloc_at _ _ (by simp)
  have hXs : X.heap.size = w.heap.size + 2 := by rw [hX]; simp
  have hl := ho.len
  have hHP := Lib.hid (fun (V : World) (h : Below w.heap.size w V) => hp.mono h)
  have HX := Lib.hid hX
  have c1 := blk_cell 1 g0 rfl
  simp only [List.getElem_toArray, List.getElem_cons_zero, List.getElem_cons_succ] at c1
  have z1 := lt_of_block g0
  clear hX hp
  go_enter Tryz.func69, Tryz.ntmps69
  go_upto_region 2 with (fail)
  rw [← HX.out]
  clear HX
  go_upto_region 3 with (fail)
  go_loopw [12] (fun i wr => ∃ k : Nat, k ≤ f.parts.length ∧ i = .int .i64 k ∧ Below w.heap.size w wr ∧ wr.heap[w.heap.size]? = some (.cells #[.string f.name, .slice ap f.parts.length kp] 43 (0, 0)) ∧ ∃ v, wr.heap[w.heap.size + 1]? = some (.cells #[.string f.name, .slice ap f.parts.length kp, v] 99 (0, 0)) ∧ wr.ownsRow (w.heap.size + 2) 37 2 v (roomsF (f.parts.take k)).length (flatC spanCellsL (roomsF (f.parts.take k)))) (fun i _ => f.parts.length - (intOf i).toNat)
  case atStart => exact ⟨0, Nat.zero_le _, rfl, hwX, g0, _, g1, by rw [List.take_zero]; exact ⟨rfl, .inl ⟨rfl, rfl⟩⟩⟩
  case round =>
    clear g0 g1 c1 z1
    obtain ⟨k, hk, rfl, hbw, g0, v, g1, hown⟩ := hrel
    have c1 := blk_cell 1 g0 rfl
    simp only [List.getElem_toArray, List.getElem_cons_zero, List.getElem_cons_succ] at c1
    have z1 := lt_of_block g0
    by_cases hlt : k < f.parts.length
    · obtain ⟨b, off, e0, hb, ⟨aw, cw, r0, r1, r2⟩, r3, r4⟩ := hHP.out wr hbw k hlt
      obtain ⟨Y, hY⟩ : ∃ Y : World, Y = wr.alloc (.cells #[.slice aw f.parts[k].words.length cw, .int .i64 f.parts[k].lo, .int .i64 f.parts[k].hi] 62) := ⟨_, rfl⟩
      have hYw : Below wr.heap.size wr Y := by rw [hY]; exact (Below.refl _ wr).alloc (Nat.le_refl _) _
      have g2 : Y.heap[wr.heap.size]? = some (.cells #[.slice aw f.parts[k].words.length cw, .int .i64 f.parts[k].lo, .int .i64 f.parts[k].hi] 62 (0, 0)) := by rw [hY]; exact alloc_at _ _ rfl
      have hYs := Lib.hid (show Y.heap.size = wr.heap.size + 1 by rw [hY]; simp)
      have hwY := hbw.trans (hYw.mono hbw.size)
      have G0 := (hYw.block _ z1).trans g0
      have G1 := (hYw.block _ (lt_of_block g1)).trans g1
      have HO : Hid _ := Lib.hid (own_below hown hYw)
      have y0 := blk_cell 0 g2 rfl
      have y1 := blk_cell 1 g2 rfl
      have y2 := blk_cell 2 g2 rfl
      simp only [List.getElem_toArray, List.getElem_cons_zero, List.getElem_cons_succ] at y0 y1 y2
      have HRY := Lib.hid (rooms_yes hlt)
      have HRN := Lib.hid (rooms_no hlt)
      subst e0
      generalize f.parts[k] = p at *
      have HY := Lib.hid hY
      have hown2 := Lib.hid hown
      have hbx := Lib.hid (lt_of_block g1)
      clear hY hown
      by_cases h0 : p.words.length = 0
      · rw [h0] at r0 y0 HY
        have hry := Lib.hid (HRY.out h0)
        clear HRY HRN
        go_upto_region 5 with (fail)
        rw [← HY.out]
        clear HY
        go_upto_region 6 with (fail)
        have hvl : ∀ g, v.ownBlock = some g → w.heap.size + 2 ≤ g ∧ g < wr.heap.size := fun g e => (hown2.out.lt g e)
        have k2 : Y.cell? ⟨w.heap.size + 1, 2, none⟩ = some v := blk_cell 2 G1 rfl
        have hlk : (roomsF (f.parts.take k)).length ≤ 5 := Nat.le_trans (rooms_len _) (by rw [List.length_take]; omega)
        have hwYs : w.heap.size + 2 ≤ wr.heap.size := by have := hbx.out; omega
        have SF : Hid (∀ U, Below Y.heap.size Y U → U.cell? ⟨w.heap.size + 1, 2, none⟩ = some v ∧ U.cell? ⟨wr.heap.size, 1, none⟩ = some (.int .i64 p.lo) ∧ U.cell? ⟨wr.heap.size, 2, none⟩ = some (.int .i64 p.hi) ∧ w.heap.size + 1 < U.heap.size ∧ wr.heap.size < U.heap.size) := Lib.hid (fun U h => ⟨cell_below h k2, cell_below h y1, cell_below h y2, lt_of_cell (cell_below h k2), lt_of_cell (cell_below h y1)⟩)
        refine wp_region_z (fun U => U.cell? ⟨w.heap.size + 1, 2, none⟩ = some v ∧ U.cell? ⟨wr.heap.size, 1, none⟩ = some (.int .i64 p.lo) ∧ U.cell? ⟨wr.heap.size, 2, none⟩ = some (.int .i64 p.hi) ∧ w.heap.size + 1 < U.heap.size ∧ wr.heap.size < U.heap.size) 11 (by kernel_rfl) (SF.out Y.drew (by (repeat' (first | assumption | exact Below.refl _ _ | refine Below.drew ?_ | refine Below.alloc ?_ (by first | omega | (simp <;> omega)) _)))) (fun hHeld => ?_)
        (refine wpZ_take (i := 0) (v := ?_) rfl (by kernel_rfl) (by kernel_rfl) (by kernel_rfl) (by kernel_rfl) (fun _ _ _ h => h) (Or.inl ⟨by kernel_rfl, ?_⟩) (by assumption) ?_; rotate_left 1; (focus (intro w hSw; (try dsimp only at hSw); go_simp; first | done | with_reducible rfl)); simp only [Act.put, List.getElem_toArray, List.getElem_cons_succ, List.getElem_cons_zero, List.setIfInBounds_toArray, List.set_cons_succ, List.set_cons_zero])
        (refine wpZ_take (i := 1) (v := ?_) rfl (by kernel_rfl) (by kernel_rfl) (by kernel_rfl) (by kernel_rfl) (fun _ _ _ h => h) (Or.inl ⟨by kernel_rfl, ?_⟩) (by assumption) ?_; rotate_left 1; (focus (intro w hSw; (try dsimp only at hSw); go_simp; first | done | with_reducible rfl)); simp only [Act.put, List.getElem_toArray, List.getElem_cons_succ, List.getElem_cons_zero, List.setIfInBounds_toArray, List.set_cons_succ, List.set_cons_zero])
        (refine wpZ_take (i := 2) (v := ?_) rfl (by kernel_rfl) (by kernel_rfl) (by kernel_rfl) (by kernel_rfl) (fun _ _ _ h => h) (Or.inl ⟨by kernel_rfl, ?_⟩) (by assumption) ?_; rotate_left 1; (focus (intro w hSw; (try dsimp only at hSw); go_simp; first | done | with_reducible rfl)); simp only [Act.put, List.getElem_toArray, List.getElem_cons_succ, List.getElem_cons_zero, List.setIfInBounds_toArray, List.set_cons_succ, List.set_cons_zero])
        (refine wpZ_take (i := 3) (v := ?_) rfl (by kernel_rfl) (by kernel_rfl) (by kernel_rfl) (by kernel_rfl) (fun _ _ _ h => h) (Or.inl ⟨by kernel_rfl, ?_⟩) (by assumption) ?_; rotate_left 1; (focus (intro w hSw; (try dsimp only at hSw); go_simp; first | done | with_reducible rfl)); simp only [Act.put, List.getElem_toArray, List.getElem_cons_succ, List.getElem_cons_zero, List.setIfInBounds_toArray, List.set_cons_succ, List.set_cons_zero])
        (refine wpZ_take (i := 4) (v := ?_) rfl (by kernel_rfl) (by kernel_rfl) (by kernel_rfl) (by kernel_rfl) (fun _ _ _ h => h) (Or.inl ⟨by kernel_rfl, ?_⟩) (by assumption) ?_; rotate_left 1; (focus (intro w hSw; (try dsimp only at hSw); go_simp; first | done | with_reducible rfl)); simp only [Act.put, List.getElem_toArray, List.getElem_cons_succ, List.getElem_cons_zero, List.setIfInBounds_toArray, List.set_cons_succ, List.set_cons_zero])
        (refine wpZ_take (i := 5) (v := ?_) rfl (by kernel_rfl) (by kernel_rfl) (by kernel_rfl) (by kernel_rfl) (fun _ _ _ h => h) (Or.inl ⟨by kernel_rfl, ?_⟩) (by assumption) ?_; rotate_left 1; (focus (intro w hSw; (try dsimp only at hSw); go_simp; first | done | with_reducible rfl)); simp only [Act.put, List.getElem_toArray, List.getElem_cons_succ, List.getElem_cons_zero, List.setIfInBounds_toArray, List.set_cons_succ, List.set_cons_zero])
        (refine wpZ_take (i := 6) (v := ?_) rfl (by kernel_rfl) (by kernel_rfl) (by kernel_rfl) (by kernel_rfl) (fun _ _ _ h => h) (Or.inl ⟨by kernel_rfl, ?_⟩) (by assumption) ?_; rotate_left 1; (focus (intro w hSw; (try dsimp only at hSw); go_simp; first | done | with_reducible rfl)); simp only [Act.put, List.getElem_toArray, List.getElem_cons_succ, List.getElem_cons_zero, List.setIfInBounds_toArray, List.set_cons_succ, List.set_cons_zero])
        refine wpZ_ready (rs := [7]) (by kernel_rfl) (by simp) (AllZ.cons rfl (fun K hK => ?_) AllZ.nil)
        (go_simp; refine hK.out _ _ (fun _ => SF.out _ (by (repeat' (first | assumption | exact Below.refl _ _ | refine Below.drew ?_ | refine Below.alloc ?_ (by first | omega | (simp <;> omega)) _)))) ?_; (try simp only [Act.put, List.getElem_toArray, List.getElem_cons_succ, List.getElem_cons_zero, List.setIfInBounds_toArray, List.set_cons_succ, List.set_cons_zero]); clear hK)
        refine wpZ_ready (rs := [8]) (by kernel_rfl) (by simp) (AllZ.cons rfl (fun K hK => ?_) AllZ.nil)
        refine step_app (.tmp 24) (.tmp 27) (v := v) E_spanL (by rfl) (by rfl) (by rfl) (by rfl) (w.heap.size + 2) (roomsF (f.parts.take k)).length 1 _ (spanCellsL (p.lo, p.hi)) (HO.out.drew.alloc _) (SrcAt.spanL Y.drew p.lo p.hi 37) (by omega) (by decide) (by have := hYs.out; simp [drew_heap]; omega) ?_
        intro v1 V1 ho1 hg1 _
        have hYs2 := hYs.out
        obtain ⟨g3, cap3, rfl⟩ := ownsRow_succ ho1
        have hgb := fun (b : Nat) (hb : b < Y.heap.size) (hne : v.ownBlock ≠ some b) => hg1.block b (by simp [drew_heap]; omega) (Ne.symm hne)
        have hgo := fun (b : Nat) (hb : b < Y.heap.size) => (show (Y.drew.alloc (.cells #[.int .i64 p.lo, .int .i64 p.hi] 37)).heap[b]? = Y.heap[b]? from heap_alloc_old _ _ hb)
        have q1 : V1.heap[w.heap.size + 1]? = some (.cells #[.string f.name, .slice (some ⟨b, off, none⟩) f.parts.length kp, v] 99 (0, 0)) := ((hgb _ (by omega) (fun e => by have := (hvl _ e).1; omega)).trans (hgo _ (by omega))).trans G1
        have q0 : V1.heap[w.heap.size]? = some (.cells #[.string f.name, .slice (some ⟨b, off, none⟩) f.parts.length kp] 43 (0, 0)) := ((hgb _ (by omega) (fun e => by have := (hvl _ e).1; omega)).trans (hgo _ (by omega))).trans G0
        have q2 := ((hgb wr.heap.size (by omega) (fun e => by have := (hvl _ e).2; omega)).trans (hgo _ (by omega))).trans g2
        have hBV : Below w.heap.size w V1 := app_next (hwY.drew) (Nat.le_refl _) (by omega) HO.out.drew hg1
        have hS1 : V1.cell? ⟨w.heap.size + 1, 2, none⟩ = some v ∧ V1.cell? ⟨wr.heap.size, 1, none⟩ = some (.int .i64 p.lo) ∧ V1.cell? ⟨wr.heap.size, 2, none⟩ = some (.int .i64 p.hi) ∧ w.heap.size + 1 < V1.heap.size ∧ wr.heap.size < V1.heap.size := ⟨blk_cell 2 q1 rfl, blk_cell 1 q2 rfl, blk_cell 2 q2 rfl, lt_of_block q1, lt_of_block q2⟩
        refine hK.out _ _ (fun _ => hS1) ?_
        (try simp only [Act.put, List.getElem_toArray, List.getElem_cons_succ, List.getElem_cons_zero, List.setIfInBounds_toArray, List.set_cons_succ, List.set_cons_zero])
        clear hK
        clear hYs2
        have f2 := blk_free 2 q1
        have d2 : V1.cell? ⟨w.heap.size + 1, 2, none⟩ = some v := blk_cell 2 q1 rfl
        have zq := lt_of_block q1
        refine wpZ_ready (rs := [9]) (by kernel_rfl) (by simp) (AllZ.cons rfl (fun K hK => ?_) AllZ.nil)
        (go_simp; refine hK.out _ _ (fun _ => hS1) ?_; (try simp only [Act.put, List.getElem_toArray, List.getElem_cons_succ, List.getElem_cons_zero, List.setIfInBounds_toArray, List.set_cons_succ, List.set_cons_zero]); clear hK)
        refine wpZ_ready (rs := [10]) (by kernel_rfl) (by simp) (AllZ.cons rfl (fun K hK => ?_) AllZ.nil)
        (go_simp; refine hK.out _ _ (fun _ => hS1) ?_; (try simp only [Act.put, List.getElem_toArray, List.getElem_cons_succ, List.getElem_cons_zero, List.setIfInBounds_toArray, List.set_cons_succ, List.set_cons_zero]); clear hK)
        refine wpZ_ready (rs := [11]) (by kernel_rfl) (by simp) (AllZ.cons rfl (fun K hK => ?_) AllZ.nil)
        (go_simp; refine hK.out _ _ (fun h => absurd rfl h) ?_; (try simp only [Act.put, List.getElem_toArray, List.getElem_cons_succ, List.getElem_cons_zero, List.setIfInBounds_toArray, List.set_cons_succ, List.set_cons_zero]); clear hK; refine wpZ_done (by kernel_rfl) ?_ _)
        go_wp2
        go_roundw
        case rel =>
          refine ⟨k + 1, by omega, by go_num, hBV.setCell (by simp) _, (Below.heap_setCell _ _ _ _ (by simp)).trans q0, _, blk_set 2 _ q1, ?_⟩
          rw [hry.out, ← flatC_snoc, List.length_append]
          exact ownsRow_setCell_other ho1 (fun e => by have := (ho1.lt _ e).1; simp only at this; omega) _
        case measure => simp [intOf]; omega
      · have hz : ((p.words.length : Int) == 0) = false := eqi_f (by omega)
        have hrn := Lib.hid (HRN.out h0)
        go_upto_region 5 with (fail)
        rw [← HY.out]
        clear HY
        go_wp2
        go_roundw
        case rel => exact ⟨k + 1, by omega, by go_num, hwY, G0, v, G1, by rw [hrn.out]; exact HO.out⟩
        case measure => simp [intOf]; omega
    · obtain rfl : k = f.parts.length := by omega
      rw [List.take_length] at hown
      obtain ⟨ar, cr, rfl, s1, s2⟩ := SpansC.of_own hown
      go_wp2
      go_ret
      exact ⟨_, rfl, by omega, ⟨ap, kp, ar, cr, g1, ho, hHP.out wr hbw, s1, s2⟩, hbw⟩
end Go.Proofs.YtelmponkmmfffaaGreat
namespace Go.Proofs.YtelmponkmmfffaaGreat
open Go Go.RowKit
set_option maxHeartbeats 1000000 in
theorem LOff1_any (n lo hi : Int) (p q : Nat) (w : World) (h1 : w.cell? ⟨p, 0, none⟩ = some (.int .i64 lo)) (h2 : w.cell? ⟨q, 0, none⟩ = some (.int .i64 hi)) :
    Calls Tryz.prog 93 #[.int .i64 n, .pointer (some ⟨p, 0, none⟩), .pointer (some ⟨q, 0, none⟩)] w fun e w' => e = .returned (.bool (outB lo hi n)) ∧ w' = w := by
  have hp := lt_of_cell h1
  have hq := lt_of_cell h2
  have HO : Hid (outB lo hi n = (decide (n < lo) || decide (hi < n))) := rfl
  generalize outB lo hi n = r at HO ⊢
  by_cases a1 : n < lo
  · go_enter Tryz.func93, Tryz.ntmps93
    go_wp2
    go_ret
    exact ⟨ret_bool (by rw [HO.out]; simp [a1]), rfl⟩
  · by_cases a2 : hi < n
    all_goals
      go_enter Tryz.func93, Tryz.ntmps93
      go_wp2
      go_ret
      exact ⟨ret_bool (by rw [HO.out]; simp [a1, a2] <;> omega), rfl⟩
set_option maxHeartbeats 1000000 in
theorem LOffIndex_any (a : Option Addr) (l : List Int) (c : Nat) (lo hi : Int) (p q : Nat) (w : World) (hl : l.length ≤ 9223372036854775807) (hi' : IntsC w a l) (h1 : w.cell? ⟨p, 0, none⟩ = some (.int .i64 lo)) (h2 : w.cell? ⟨q, 0, none⟩ = some (.int .i64 hi)) :
    Calls Tryz.prog 130 #[.slice a l.length c, .func (.func 93) #[] #[.pointer (some ⟨p, 0, none⟩), .pointer (some ⟨q, 0, none⟩)]] w fun e w' => ∃ k : Int, e = .returned (.int .i64 k) ∧ Hid (decide (0 ≤ k) = l.any (outB lo hi)) ∧ w' = w := by
  go_enter Tryz.func130, Tryz.ntmps130
  go_wp2
  go_loop [8] (fun i => ∃ k : Nat, k ≤ l.length ∧ i = .int .i64 k ∧ Hid (∀ j (_ : j < k) (h : j < l.length), outB lo hi l[j] = false)) (fun i => l.length - (intOf i).toNat)
  case atStart => exact ⟨0, Nat.zero_le _, rfl, Lib.hid (fun j h => absurd h (Nat.not_lt_zero j))⟩
  case round =>
    obtain ⟨k, hk, rfl, HR⟩ := hrel
    by_cases hlt : k < l.length
    · obtain ⟨b, off, rfl, hb, hx⟩ := hi' k hlt
      have B := LOff1_any l[k] lo hi p q w h1 h2
      have HT := Lib.hid (fun (h : outB lo hi l[k] = true) => (any_lt hlt h : l.any (outB lo hi) = true))
      have HN := Lib.hid (fun (h : outB lo hi l[k] = false) => show ∀ j (_ : j < k + 1) (h : j < l.length), outB lo hi l[j] = false from fun j hj hjl => if hjk : j < k then HR.out j hjk hjl else (by have e : j = k := (by omega); subst e; exact h))
      generalize outB lo hi l[k] = br at B HT HN
      have B := Lib.hid B
      cases br
      · go_wp2_with (go_at_call 93; go_must (refine B.out.mono ?_; rintro e w2 ⟨rfl, hw2⟩; obtain rfl := hw2.symm; dsimp only))
        go_round
        case rel => exact ⟨k + 1, by omega, by go_num, Lib.hid (HN.out (by trivial))⟩
        case measure => simp [intOf]; omega
      · go_wp2_with (go_at_call 93; go_must (refine B.out.mono ?_; rintro e w2 ⟨rfl, hw2⟩; obtain rfl := hw2.symm; dsimp only))
        go_ret
        exact ⟨_, rfl, Lib.hid (by rw [HT.out (by trivial)]; simp), rfl⟩
    · obtain rfl : k = l.length := by omega
      go_wp2
      go_ret
      exact ⟨_, rfl, Lib.hid (by rw [any_not (fun j h => HR.out j h h)]; simp), rfl⟩
set_option maxHeartbeats 1000000 in
theorem LOffContains_any (a : Option Addr) (l : List Int) (c : Nat) (lo hi : Int) (p q : Nat) (w : World) (hl : l.length ≤ 9223372036854775807) (hi' : IntsC w a l) (h1 : w.cell? ⟨p, 0, none⟩ = some (.int .i64 lo)) (h2 : w.cell? ⟨q, 0, none⟩ = some (.int .i64 hi)) :
    Calls Tryz.prog 92 #[.slice a l.length c, .func (.func 93) #[] #[.pointer (some ⟨p, 0, none⟩), .pointer (some ⟨q, 0, none⟩)]] w fun e w' => e = .returned (.bool (l.any (outB lo hi))) ∧ w' = w := by
  have I := Lib.hid (LOffIndex_any a l c lo hi p q w hl hi' h1 h2)
  go_enter Tryz.func92, Tryz.ntmps92
  by_cases ha : l.any (outB lo hi) = true
  · go_wp2_with (go_at_call 130; go_must (refine I.out.mono ?_; rintro e w2 ⟨k, rfl, hk, hw2⟩; obtain rfl := hw2.symm; have hk2 : 0 ≤ k := of_decide_eq_true (hk.out.trans ha); dsimp only))
    go_ret
    exact ⟨rfl, rfl⟩
  · go_wp2_with (go_at_call 130; go_must (refine I.out.mono ?_; rintro e w2 ⟨k, rfl, hk, hw2⟩; obtain rfl := hw2.symm; have hk2 : ¬ 0 ≤ k := of_decide_eq_false (hk.out.trans (Bool.eq_false_iff.2 ha)); dsimp only))
    go_ret
    exact ⟨rfl, rfl⟩
set_option maxHeartbeats 1000000 in
theorem LOff_any (a : Option Addr) (l : List Int) (c : Nat) (lo hi : Int) (w : World) (hl : l.length ≤ 9223372036854775807) (hi' : IntsC w a l) :
    Calls Tryz.prog 45 #[.int .i64 lo, .int .i64 hi, .slice a l.length c] w fun e w' => e = .returned (.bool (l.any (outB lo hi))) ∧ Below w.heap.size w w' := by
  have g1 : ((w.alloc (.cells #[.int .i64 lo] 3)).alloc (.cells #[.int .i64 hi] 3)).cell? ⟨w.heap.size, 0, none⟩ = some (.int .i64 lo) := blk_cell 0 (blk_below ((Below.refl (w.heap.size + 1) _).alloc (by simp) _) (by omega) (blk_new w _)) rfl
  have g2 : ((w.alloc (.cells #[.int .i64 lo] 3)).alloc (.cells #[.int .i64 hi] 3)).cell? ⟨w.heap.size + 1, 0, none⟩ = some (.int .i64 hi) := by simp
  have C := Lib.hid (LOffContains_any a l c lo hi _ _ _ hl (hi'.mono (((Below.refl _ w).alloc (Nat.le_refl _) _).alloc (by simp) _)) g1 g2)
  clear g1 g2
  go_enter Tryz.func45, Tryz.ntmps45
  go_wp2_with (go_at_call 92; go_must (refine C.out.mono ?_; rintro e w2 ⟨rfl, hw2⟩; obtain rfl := hw2.symm; dsimp only))
  go_ret
  exact ⟨rfl, by go_grown⟩
theorem LOffOne_any (x lo hi : Int) (a : Nat) (w : World) (h : w.cell? ⟨a, 0, none⟩ = some (.int .i64 x)) :
    Calls Tryz.prog 45 #[.int .i64 lo, .int .i64 hi, .slice (some ⟨a, 0, none⟩) 1 1] w fun e w' => e = .returned (.bool (!inB x lo hi)) ∧ Below w.heap.size w w' := by
  have := LOff_any (some ⟨a, 0, none⟩) [x] 1 lo hi w (by simp) (fun i hi => by have e : i = 0 := (by simp at hi; omega); subst e; exact ⟨a, 0, rfl, lt_of_cell h, by simpa using h⟩)
  simpa [outB_eq] using this
theorem LOffTwo_any (x y lo hi : Int) (a : Nat) (w : World) (h : w.cell? ⟨a, 0, none⟩ = some (.int .i64 x)) (h2 : w.cell? ⟨a, 1, none⟩ = some (.int .i64 y)) :
    Calls Tryz.prog 45 #[.int .i64 lo, .int .i64 hi, .slice (some ⟨a, 0, none⟩) 2 2] w fun e w' => e = .returned (.bool (!(inB x lo hi && inB y lo hi))) ∧ Below w.heap.size w w' := by
  have := LOff_any (some ⟨a, 0, none⟩) [x, y] 2 lo hi w (by simp) (fun i hi => by
    have e : i = 0 ∨ i = 1 := (by simp at hi; omega)
    rcases e with rfl | rfl
    · exact ⟨a, 0, rfl, lt_of_cell h, by simpa using h⟩
    · exact ⟨a, 0, rfl, lt_of_cell h, by simpa using h2⟩)
  simpa [outB_eq, Bool.not_and] using this
end Go.Proofs.YtelmponkmmfffaaGreat
