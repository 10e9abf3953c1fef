/- What is proved here: plain Lean functions for layer 3 (person), as its program reckons. No program. No condition. -/
/- What is proved here: how a town of layer 3 lies in memory, and that it stays while memory grows, or turns in a block that holds no cells. No condition. -/
/- What is proved here: a block of cells, whole: what its cells hold, behind a store, behind other memory's turns. Over any program. -/
/- What is proved here: a map that the call has made, as the list of its entries; a store of a new key; a range over it, in whatever order. Over any program. -/
/- What is proved here: a look-up, with ok, in a map that is known as the list of its entries. Over any program. -/
/- What is proved here: small facts on worlds for layers 1 and 3. Over any program. -/
import Derived.Test.YtklconegomgjaaaGreatEaRepG
import Derived.Test.YtklconegomgjaaaGreatChkG
import Derived.OneCell
import Derived.Laws.ResultCell
import Derived.Maps.OwnIn
import Derived.Maps.RangeWalk
import Derived.DeepKeys5
import Derived.Carry
import Derived.Maps.OwnOps
set_option linter.unusedVariables false
set_option linter.unusedSimpArgs false
namespace Go.Proofs.YtklconegomgjaaaGreat
structure PeM where
  spell : Int
  vill : Int
  lo : Int
  hi : Int
  par : Int
structure PeT where
  a : Int
  b : Int
  same : Bool
structure PeW where
  ear : EaB
  vills : Int
  ments : List PeM
  ties : List PeT
def noM : PeM := ⟨0, -1, 0, 0, -1⟩
def mentAt (t : PeW) (i : Nat) : PeM := t.ments[i]?.getD noM
theorem mentAt_is {t : PeW} {i : Nat} (hi : i < t.ments.length) : mentAt t i = t.ments[i] := by unfold mentAt; rw [List.getElem?_eq_getElem hi]; rfl
/-- The error of a mention. -/
def mentErr (t : PeW) (at_ : Int) (x : PeM) : Int :=
  if (inB x.spell 0 ((t.ear.spells.length : Int) - 1) && inB x.vill (-1) (t.vills - 1) && inB x.par (-1) ((t.ments.length : Int) - 1)) = true then
    if (inB x.lo 0 199 && inB x.hi 0 199) = true then (if x.lo ≤ x.hi ∧ x.par ≠ at_ then 0 else 2) else 7
  else 4
/-- A town in which nothing is wrong. -/
structure PeValid (t : PeW) : Prop where
  ear : EaValid t.ear
  vills : 1 ≤ t.vills ∧ t.vills ≤ 4
  nm : t.ments.length ≤ 5
  ment : ∀ i (hi : i < t.ments.length), mentErr t i t.ments[i] = 0
  nt : t.ties.length ≤ 4
  tie : ∀ i (hi : i < t.ties.length), 0 ≤ t.ties[i].a ∧ t.ties[i].a < t.ments.length ∧ 0 ≤ t.ties[i].b ∧ t.ties[i].b < t.ments.length ∧ t.ties[i].a ≠ t.ties[i].b
/-- A town that can be looked at: with one more mention, perhaps. -/
structure PeOk (t : PeW) : Prop where
  ear : EaValid t.ear
  nm : t.ments.length ≤ 6
  ment : ∀ i (hi : i < t.ments.length), 0 ≤ t.ments[i].spell ∧ t.ments[i].spell < t.ear.spells.length ∧ -1 ≤ t.ments[i].vill ∧ t.ments[i].vill ≤ 3 ∧ -1 ≤ t.ments[i].par ∧ t.ments[i].par < t.ments.length ∧ 0 ≤ t.ments[i].lo ∧ t.ments[i].lo ≤ t.ments[i].hi ∧ t.ments[i].hi ≤ 199 ∧ t.ments[i].par ≠ i
  nt : t.ties.length ≤ 4
  tie : ∀ i (hi : i < t.ties.length), 0 ≤ t.ties[i].a ∧ t.ties[i].a < t.ments.length ∧ 0 ≤ t.ties[i].b ∧ t.ties[i].b < t.ments.length
theorem mentErr_ok {t : PeW} {at_ : Int} {x : PeM} (h : mentErr t at_ x = 0) : 0 ≤ x.spell ∧ x.spell < t.ear.spells.length ∧ -1 ≤ x.vill ∧ x.vill < t.vills ∧ -1 ≤ x.par ∧ x.par < t.ments.length ∧ 0 ≤ x.lo ∧ x.lo ≤ x.hi ∧ x.hi ≤ 199 ∧ x.par ≠ at_ := by
  unfold mentErr at h
  split at h
  · next h1 =>
    split at h
    · next h2 =>
      split at h
      · next h3 =>
        simp only [Bool.and_eq_true, inB_iff] at h1 h2
        omega
      · cases h
    · cases h
  · cases h
theorem PeValid.ok {t : PeW} (h : PeValid t) : PeOk t := by
  have hv := h.vills
  have hn := h.nm
  refine ⟨h.ear, by omega, fun i hi => ?_, h.nt, fun i hi => ?_⟩
  · have := mentErr_ok (h.ment i hi)
    omega
  · have := h.tie i hi
    omega
/-- A town with one more mention. -/
def withM (t : PeW) (x : PeM) : PeW := { t with ments := t.ments ++ [x] }
theorem PeValid.with {t : PeW} (h : PeValid t) {x : PeM} (hx : mentErr t t.ments.length x = 0) : PeOk (withM t x) := by
  have hv := h.vills
  have hn := h.nm
  refine ⟨h.ear, by simp [withM]; omega, fun i hi => ?_, h.nt, fun i hi => ?_⟩
  · by_cases e : i < t.ments.length
    · have := mentErr_ok (h.ment i e)
      have hg : (withM t x).ments[i] = t.ments[i] := List.getElem_append_left e
      rw [hg]
      simp only [withM, List.length_append, List.length_singleton]
      omega
    · have := mentErr_ok hx
      have hi' : i < t.ments.length + 1 := by simpa [withM] using hi
      have hg : (withM t x).ments[i] = x := by
        simp only [withM]
        rw [List.getElem_append_right (by omega)]
        simp
      rw [hg]
      simp only [withM, List.length_append, List.length_singleton]
      omega
  · have h1 := h.tie i hi
    show 0 ≤ t.ties[i].a ∧ t.ties[i].a < ((t.ments ++ [x]).length : Nat) ∧ 0 ≤ t.ties[i].b ∧ t.ties[i].b < ((t.ments ++ [x]).length : Nat)
    simp only [List.length_append, List.length_singleton]
    omega
/-- Whether a set of spellings has a sound string in common. -/
def aliveB (t : PeW) (set : Nat) : Bool := !(comN t.ear set).isEmpty
def spOf (t : PeW) (i : Nat) : Nat := (mentAt t i).spell.toNat
/-- What keeps two mentions apart. -/
def whyN (t : PeW) (a b : Nat) : Int :=
  if aliveB t (2 ^ spOf t a ||| 2 ^ spOf t b) = false then 1
  else if (mentAt t a).vill ≠ (mentAt t b).vill ∧ (mentAt t a).vill ≠ -1 ∧ (mentAt t b).vill ≠ -1 then 2
  else if min (mentAt t a).hi (mentAt t b).hi < max (mentAt t a).lo (mentAt t b).lo then 3
  else if (mentAt t a).par = b ∨ (mentAt t b).par = a then 4 else 0
/-- Of which person a mention is. -/
def pAt (p : List Int) (i : Nat) : Int := p[i]?.getD 0
def tieB (t : PeW) (p : List Int) (x : PeT) : Bool := decide (pAt p x.a.toNat = pAt p x.b.toNat) == x.same
def tiedTo (t : PeW) (but : Nat) (p : List Int) (k : Nat) : Bool := (List.range k).all fun i => but.testBit i || (match t.ties[i]? with | some x => tieB t p x | none => true)
def tiedB (t : PeW) (but : Nat) (p : List Int) : Bool := tiedTo t but p t.ties.length
/-- The spellings of a person's first mentions. -/
def setTo' (t : PeW) (p : List Int) (n : Nat) : Nat → Nat
  | 0 => 0
  | k + 1 => if pAt p k = (n : Int) then setTo' t p n k ||| 2 ^ spOf t k else setTo' t p n k
def namedTo (t : PeW) (p : List Int) (k : Nat) : Bool := (List.range k).all fun n => setTo' t p n t.ments.length == 0 || aliveB t (setTo' t p n t.ments.length)
def namedB (t : PeW) (p : List Int) : Bool := namedTo t p 6
def noOf : List Int := [0, 0, 0, 0, 0, 0]
/-- The parents of persons, by the first mentions. -/
def fatherTo (t : PeW) (p : List Int) : Nat → Option (List Int)
  | 0 => some noOf
  | k + 1 => match fatherTo t p k with
    | none => none
    | some f => if (mentAt t k).par = -1 then some f else if pAt p k = pAt p (mentAt t k).par.toNat ∨ ((f[(pAt p k).toNat]?.getD 0) ≠ 0 ∧ (f[(pAt p k).toNat]?.getD 0) ≠ pAt p (mentAt t k).par.toNat + 1) then none else some (f.set (pAt p k).toNat (pAt p (mentAt t k).par.toNat + 1))
def fatheredB (t : PeW) (p : List Int) : Bool := (fatherTo t p t.ments.length).isSome
/-- The years in which persons can be born. -/
def sp0 : Int × Int := (0, 0)
def bAt (b : List (Int × Int)) (i : Nat) : Int × Int := b[i]?.getD sp0
def allYears : List (Int × Int) := [(0, 199), (0, 199), (0, 199), (0, 199), (0, 199), (0, 199)]
def bornTo (t : PeW) (p : List Int) : Nat → List (Int × Int)
  | 0 => allYears
  | k + 1 => (bornTo t p k).set (pAt p k).toNat (max (bAt (bornTo t p k) (pAt p k).toNat).1 (mentAt t k).lo, min (bAt (bornTo t p k) (pAt p k).toNat).2 (mentAt t k).hi)
def older (x y : Int × Int) : Int × Int := (max x.1 (y.1 - 60), min x.2 (y.2 - 15))
def younger (x y : Int × Int) : Int × Int := (max y.1 (x.1 + 15), min y.2 (x.2 + 60))
def fewB (b : List (Int × Int)) (par ch : Nat) : List (Int × Int) × Bool :=
  ((b.set par (older (bAt b par) (bAt b ch))).set ch (younger (bAt b par) (bAt b ch)), decide (older (bAt b par) (bAt b ch) ≠ bAt b par) || decide (younger (bAt b par) (bAt b ch) ≠ bAt b ch))
def yearTo (t : PeW) (p : List Int) (b : List (Int × Int)) : Nat → List (Int × Int) × Bool
  | 0 => (b, false)
  | k + 1 => if (mentAt t k).par = -1 then yearTo t p b k else ((fewB (yearTo t p b k).1 (pAt p (mentAt t k).par.toNat).toNat (pAt p k).toNat).1, (yearTo t p b k).2 || (fewB (yearTo t p b k).1 (pAt p (mentAt t k).par.toNat).toNat (pAt p k).toNat).2)
def emptyB (b : List (Int × Int)) : Bool := b.any fun s => decide (s.2 < s.1)
def yearsF (t : PeW) (p : List Int) : Nat → List (Int × Int) → Option (List (Int × Int))
  | 0, _ => none
  | f + 1, b => if emptyB (yearTo t p b t.ments.length).1 = true then none else if (yearTo t p b t.ments.length).2 = true then yearsF t p f (yearTo t p b t.ments.length).1 else some (yearTo t p b t.ments.length).1
def yearsN (t : PeW) (p : List Int) : Option (List (Int × Int)) := yearsF t p 1300 (bornTo t p t.ments.length)
/-- All truths, but for names and ties, in order, and how many persons there are. -/
def fitsB (t : PeW) (pre : List Int) (n : Nat) : Bool := (List.range pre.length).all fun k => !decide (pAt pre k = (n : Int)) || whyN t k pre.length == 0
def truthsF (t : PeW) : Nat → List Int → Nat → List (List Int × Nat)
  | 0, pre, many => if ((yearsN t pre).isSome && fatheredB t pre) = true then [(pre, many)] else []
  | k + 1, pre, many => (List.range (many + 1)).flatMap fun n => if fitsB t pre n = true then truthsF t k (pre ++ [(n : Int)]) (max many (n + 1)) else []
def truthsT (t : PeW) : List (List Int × Nat) := truthsF t t.ments.length [] 0
def fairB (t : PeW) (but : Nat) (x : List Int × Nat) : Bool := namedB t x.1 && tiedB t but x.1
def fairL (t : PeW) (but : Nat) : List (List Int × Nat) := (truthsT t).filter (fairB t but)
/-- What is told of something that is so in some of all truths. -/
def settledN (some all : Nat) : Int := if some = all then 1 else if some = 0 then 2 else 0
def sameN (t : PeW) (a b : Nat) : Nat := ((fairL t 0).filter fun x => pAt x.1 a == pAt x.1 b).length
def hullTo : List (Int × Int) → Int × Int
  | [] => sp0
  | x :: l => l.foldl (fun s y => (min s.1 y.1, max s.2 y.2)) x
def personsN (t : PeW) : Int × Int := hullTo ((fairL t 0).map fun x => ((x.2 : Int), (x.2 : Int)))
def bornN (t : PeW) (m : Nat) : Int × Int := hullTo ((fairL t 0).map fun x => bAt ((yearsN t x.1).getD []) (pAt x.1 m).toNat)
def whoBits (n : Nat) (l : List (List Int × Nat)) : Nat := eaBits (fun i => l.any fun x => pAt x.1 i == pAt x.1 n) n
def whoN (t : PeW) (x : PeM) : List Int := bitsList (whoBits t.ments.length (fairL (withM t x) 0)) t.ments.length
/-- The examples' towns. -/
def exTown (k : Nat) : PeW := ⟨exBook, 2, [⟨0, 0, 100, 110, -1⟩, ⟨1, -1, 105, 120, -1⟩, ⟨2, 1, 100, 130, -1⟩, ⟨3, -1, 130, 140, 0⟩], [⟨0, 1, true⟩, ⟨0, 1, false⟩].take k⟩
theorem exTown_first : fairL (exTown 0) 0 = [([0, 0, 1, 1], 2), ([0, 0, 1, 2], 3), ([0, 1, 2, 2], 3), ([0, 1, 2, 3], 4)] := by decide +kernel
theorem exTown_first1 : fairL (exTown 1) 0 = [([0, 0, 1, 1], 2), ([0, 0, 1, 2], 3)] := by decide +kernel
theorem exTown_first2 : fairL (exTown 2) 0 = [] := by decide +kernel
theorem exTown_born : bornN (exTown 1) 0 = (105, 110) := by decide +kernel
theorem exTown_why : whyN (exTown 0) 0 2 = 2 ∧ whyN (exTown 0) 0 3 = 3 ∧ whyN (exTown 0) 1 2 = 1 := by decide +kernel
theorem exTown_wrong : fairL (exTown 2) 1 ≠ [] := by decide +kernel
theorem exTown_who : whoN (exTown 0) ⟨0, 1, 120, 120, -1⟩ = [1, 2] := by decide +kernel
end Go.Proofs.YtklconegomgjaaaGreat
namespace Go.Proofs.YtklconegomgjaaaGreat
open Go Go.RowKit
def PeMentsC (w : World) (a : Option Addr) (l : List PeM) : Prop :=
  ∀ i (_ : i < l.length), ∃ b off, a = some ⟨b, off, none⟩ ∧ b < w.heap.size ∧ w.cell? ⟨b, off + i * 5, none⟩ = some (.int .i64 l[i].spell) ∧ w.cell? ⟨b, off + i * 5 + 1, none⟩ = some (.int .i64 l[i].vill) ∧ w.cell? ⟨b, off + i * 5 + 2, none⟩ = some (.int .i64 l[i].lo) ∧ w.cell? ⟨b, off + i * 5 + 3, none⟩ = some (.int .i64 l[i].hi) ∧ w.cell? ⟨b, off + i * 5 + 4, none⟩ = some (.int .i64 l[i].par)
theorem PeMentsC.keep {w W : World} {a : Option Addr} {l : List PeM} (h : PeMentsC w a l) (hb : Keeps w W) : PeMentsC W a l := fun i hi => by
  obtain ⟨b, off, e, hlt, h0, h1, h2, h3, h4⟩ := h i hi
  exact ⟨b, off, e, Nat.lt_of_lt_of_le hlt hb.1, hb.2 _ _ h0, hb.2 _ _ h1, hb.2 _ _ h2, hb.2 _ _ h3, hb.2 _ _ h4⟩
theorem PeMentsC.mono {w W : World} {a : Option Addr} {l : List PeM} (h : PeMentsC w a l) (hb : Below w.heap.size w W) : PeMentsC W a l := h.keep (.of_below hb)
theorem PeMentsC.nil (w : World) (a : Option Addr) : PeMentsC w a [] := fun i hi => absurd hi (Nat.not_lt_zero i)
def PeTiesC (w : World) (a : Option Addr) (l : List PeT) : Prop :=
  ∀ i (_ : i < l.length), ∃ b off, a = some ⟨b, off, none⟩ ∧ b < w.heap.size ∧ w.cell? ⟨b, off + i * 3, none⟩ = some (.int .i64 l[i].a) ∧ w.cell? ⟨b, off + i * 3 + 1, none⟩ = some (.int .i64 l[i].b) ∧ w.cell? ⟨b, off + i * 3 + 2, none⟩ = some (.bool l[i].same)
theorem PeTiesC.keep {w W : World} {a : Option Addr} {l : List PeT} (h : PeTiesC w a l) (hb : Keeps w W) : PeTiesC W a l := fun i hi => by
  obtain ⟨b, off, e, hlt, h0, h1, h2⟩ := h i hi
  exact ⟨b, off, e, Nat.lt_of_lt_of_le hlt hb.1, hb.2 _ _ h0, hb.2 _ _ h1, hb.2 _ _ h2⟩
theorem PeTiesC.mono {w W : World} {a : Option Addr} {l : List PeT} (h : PeTiesC w a l) (hb : Below w.heap.size w W) : PeTiesC W a l := h.keep (.of_below hb)
theorem PeTiesC.nil (w : World) (a : Option Addr) : PeTiesC w a [] := fun i hi => absurd hi (Nat.not_lt_zero i)
@[reducible] def peMentV (x : PeM) : Value := .agg #[.int .i64 x.spell, .int .i64 x.vill, .int .i64 x.lo, .int .i64 x.hi, .int .i64 x.par]
@[reducible] def peTieV (x : PeT) : Value := .agg #[.int .i64 x.a, .int .i64 x.b, .bool x.same]
/-- A town in memory. -/
structure TownC (w : World) (a1 a2 a3 a4 : Option Addr) (k1 k2 k3 k4 : Nat) (t : PeW) : Prop where
  book : BookC w a1 a2 k1 k2 t.ear
  okm : SlOk a3 t.ments.length k3
  okt : SlOk a4 t.ties.length k4
  ments : PeMentsC w a3 t.ments
  ties : PeTiesC w a4 t.ties
variable {w W : World} {a1 a2 a3 a4 : Option Addr} {k1 k2 k3 k4 : Nat} {t : PeW}
theorem TownC.keep (k : TownC w a1 a2 a3 a4 k1 k2 k3 k4 t) (hb : Keeps w W) : TownC W a1 a2 a3 a4 k1 k2 k3 k4 t := ⟨k.book.keep hb, k.okm, k.okt, k.ments.keep hb, k.ties.keep hb⟩
theorem TownC.mono (k : TownC w a1 a2 a3 a4 k1 k2 k3 k4 t) (hb : Below w.heap.size w W) : TownC W a1 a2 a3 a4 k1 k2 k3 k4 t := k.keep (.of_below hb)
end Go.Proofs.YtklconegomgjaaaGreat
namespace Go.Proofs.YtklconegomgjaaaGreat
open Go Go.RowKit
theorem blk_cell {w : World} {b : Nat} {cs : Array Value} {t : TypeId} (j : Nat) {v : Value} (h : w.heap[b]? = some (.cells cs t (0, 0))) (hj : cs[j]? = some v) : w.cell? ⟨b, j, none⟩ = some v := by
  simp only [World.cell?, h]; simpa using hj
theorem blk_free {w : World} {b : Nat} {cs : Array Value} {t : TypeId} (j : Nat) (h : w.heap[b]? = some (.cells cs t (0, 0))) : w.frozen? ⟨b, j, none⟩ = false := by simp [World.frozen?, h]
theorem blk_set {w : World} {b : Nat} {cs : Array Value} {t : TypeId} (j : Nat) (u : Value) (h : w.heap[b]? = some (.cells cs t (0, 0))) : (w.setCell ⟨b, j, none⟩ u).heap[b]? = some (.cells (cs.setIfInBounds j u) t (0, 0)) := by
  have hlt := lt_of_block h
  have h' : w.heap[b] = .cells cs t (0, 0) := by simpa [Array.getElem?_eq_getElem hlt] using h
  show (w.heap.modify b _)[b]? = _
  rw [Array.getElem?_eq_getElem (by simpa using hlt), Array.getElem_modify_self, h']
  rfl
theorem blk_new (w : World) (o : Obj) : (w.alloc o).heap[w.heap.size]? = some o := heap_alloc_new w o
theorem blk_below {B b : Nat} {w W : World} {o : Obj} (hb : Below B w W) (hlt : b < B) (h : w.heap[b]? = some o) : W.heap[b]? = some o := (hb.block b hlt).trans h
theorem results_one {fn : Func} {p : Tmp} {ty : TypeId} (h : fn.results = #[.cell p ty]) (tmps : Array Value) (P : Program) (w : World) :
    (results fn tmps).run P w = ((asAddr (tmps.getD p undef)).run P w).andThen fun a w₁ => ((loadVar ty a).run P w₁) := by
  simp only [results, h]
  simp [Sem.run_bind, Result.andThen]
end Go.Proofs.YtklconegomgjaaaGreat
namespace Go.Proofs.YtklconegomgjaaaGreat
open Go Go.RowKit Go.ChangeMaps Go.MapKept
open Go.Maps (Keyed)

/-- Block b is a map whose entries are, in the order in which they were made, T. -/
def MapV (w : World) (P : Program) (k : TypeId) (b : Nat) (T : List (Value × Value)) : Prop :=
  ∃ es clock, w.heap[b]? = some (.map es clock) ∧ Stamped es clock ∧ (∀ e ∈ es.toList, ∃ l, keyOf P k e.key = some l) ∧ es.toList.map (fun e => (e.key, e.val)) = T

/-- A range over it is under way (block r); what is still to come is rem. -/
def RngV (w : World) (P : Program) (k : TypeId) (b r : Nat) (T rem : List (Value × Value)) : Prop :=
  ∃ es clock since seen c0, w.heap[b]? = some (.map es clock) ∧ Stamped es clock ∧ (∀ e ∈ es.toList, ∃ l, keyOf P k e.key = some l) ∧ es.toList.map (fun e => (e.key, e.val)) = T ∧
    w.heap[r]? = some (.mapIter (some b) since seen c0) ∧ (∀ x ∈ es.toList, x.born < since) ∧ since ≤ c0 ∧ since ≤ clock ∧ ((leftOf es seen).toList.map (fun e => (e.key, e.val))).Perm rem

variable {P : Program} {k : TypeId} {w : World} {b r : Nat} {T rem : List (Value × Value)}

theorem MapV.lt (h : MapV w P k b T) : b < w.heap.size := by
  obtain ⟨es, clock, hb, _⟩ := h
  exact (Array.getElem?_eq_some_iff.1 hb).1
theorem MapV.same {w' : World} (h : MapV w P k b T) (he : w'.heap[b]? = w.heap[b]?) : MapV w' P k b T := by
  obtain ⟨es, clock, hb, h2⟩ := h
  exact ⟨es, clock, he.trans hb, h2⟩
theorem MapV.kept {w' : World} {row : Option Nat} (h : MapV w P k b T) (hg : w.grownBy w' row) (hne : some b ≠ row) : MapV w' P k b T := h.same (hg.block b h.lt hne)
theorem MapV.below {w' : World} {B : Nat} (h : MapV w P k b T) (hb : Below B w w') (hlt : b < B) : MapV w' P k b T := h.same (hb.block b hlt)
theorem MapV.made (w : World) (P : Program) (k : TypeId) : MapV (w.alloc (.map #[] 0)) P k w.heap.size [] :=
  ⟨#[], 0, (MapKept.heap_alloc w _).1, stamped_empty 0, by simp, rfl⟩
theorem RngV.lt (h : RngV w P k b r T rem) : r < w.heap.size := by
  obtain ⟨es, clock, since, seen, c0, _, _, _, _, hr, _⟩ := h
  exact (Array.getElem?_eq_some_iff.1 hr).1
theorem RngV.map (h : RngV w P k b r T rem) : MapV w P k b T := by
  obtain ⟨es, clock, since, seen, c0, hb, h1, h2, h3, _⟩ := h
  exact ⟨es, clock, hb, h1, h2, h3⟩
theorem RngV.same {w' : World} (h : RngV w P k b r T rem) (he : w'.heap[b]? = w.heap[b]?) (he2 : w'.heap[r]? = w.heap[r]?) : RngV w' P k b r T rem := by
  obtain ⟨es, clock, since, seen, c0, hb, h1, h2, h3, hr, h4⟩ := h
  exact ⟨es, clock, since, seen, c0, he.trans hb, h1, h2, h3, he2.trans hr, h4⟩
theorem RngV.below {w' : World} {B : Nat} (h : RngV w P k b r T rem) (hb : Below B w w') (hlt : b < B) (hlt2 : r < B) : RngV w' P k b r T rem := h.same (hb.block b hlt) (hb.block r hlt2)

/-- 'm[k] = v' at a key that is not there. -/
theorem MapV.update {t e : TypeId} (h : MapV w P k b T) (K : Keyed P k) (ht : P.underlying t = some (.map k e)) (hroom : T.length < maxLen) {key val : Value} {kl : Lit} (hkey : keyOf P k key = some kl) (hnew : ∀ p ∈ T, p.1 ≠ key) :
    ∃ w', (Instr.mapUpdate t (.map (some b)) key val).run P w = .ok () w' ∧ MapV w' P k b (T ++ [(key, val)]) ∧ w.grownBy w' (some b) ∧ w'.heap.size = w.heap.size := by
  obtain ⟨es, clock, hb, hst, hk, rfl⟩ := h
  have hroom' : es.size < maxLen := by simpa using hroom
  rcases K.find w hkey es.toList hk with ⟨h1, h2⟩ | ⟨j, e0, h1, h2, h3⟩
  · refine ⟨setBlock w b (.map (es.push ⟨key, val, clock⟩) (clock + 1)), ?_, ⟨es.push ⟨key, val, clock⟩, clock + 1, heap_setBlock_same hb _, stamped_push hst h2, ?_, by simp⟩, ⟨rfl, rfl, rfl, by simp [setBlock], fun i _ hi => heap_setBlock_other hb _ (fun e => hi (by rw [e]))⟩, by simp [setBlock]⟩
    · simp [Instr.mapUpdate, run_underlying ht, MapKept.run_getObj_map hb, K.check w false hkey, h1, MapKept.run_setObj_map _ hb, Result.andThen, setBlock]
    · intro x hx
      simp only [Array.toList_push, List.mem_append, List.mem_singleton] at hx
      rcases hx with hx | rfl
      · exact hk x hx
      · exact ⟨kl, hkey⟩
  · exact absurd h3 (hnew (e0.key, e0.val) (List.mem_map.2 ⟨e0, List.mem_of_getElem? h2, rfl⟩))

theorem wpListIn_mapUpdate_new {F : Fence} {nF : Nat} {ops : Array Oper} {rest : List Oper} {o : Oper} {a : Act} {Q : Exit → Act → World → Prop}
    (hg : o.guard = none) (m x v : Operand) (t : TypeId) (hop : o.op = Op.mapUpdate t m x v)
    (k e : TypeId) (K : Keyed P k) (ht : P.underlying t = some (.map k e)) (b : Nat) (T : List (Value × Value))
    (hm : a.eval m = .map (some b)) (hown : MapV w P k b T) (hn : T.length < maxLen) (key val : Value) (kl : Lit) (hx : a.eval x = key) (hv : a.eval v = val) (hkey : keyOf P k key = some kl) (hnew : ∀ p ∈ T, p.1 ≠ key)
    (hK : ∀ w', MapV w' P k b (T ++ [(key, val)]) → w.grownBy w' (some b) → w'.heap.size = w.heap.size → wpListIn F nF P ops Q rest (a.put o.dst undef) w') :
    wpListIn F nF P ops Q (o :: rest) a w := by
  refine wpListIn_plain hg fun K' hK' => ?_
  obtain ⟨w', hrun, r1, r2, r3⟩ := hown.update K ht hn hkey hnew (val := val)
  unfold Oper.wpIn
  refine ⟨by simp [Oper.about, hop], ?_⟩
  rw [Oper.semAt_plain F _ _ (by rw [hop]; intro c hc'; cases hc')]
  simp [execOp, hop, hm, hx, hv, hrun, Result.andThen]
  exact hK' _ _ (hK w' r1 r2 r3)

/-- 'range m'. -/
theorem MapV.range {t e : TypeId} (h : MapV w P k b T) (ht : P.underlying t = some (.map k e)) :
    (Instr.range t (.map (some b))).run P w = .ok (.pointer (some ⟨w.heap.size, 0, none⟩)) (w.alloc (.mapIter (some b) ((match w.heap[b]? with | some (.map _ c) => c | _ => 0)) #[] ((match w.heap[b]? with | some (.map _ c) => c | _ => 0)))) ∧
    RngV (w.alloc (.mapIter (some b) ((match w.heap[b]? with | some (.map _ c) => c | _ => 0)) #[] ((match w.heap[b]? with | some (.map _ c) => c | _ => 0)))) P k b w.heap.size T T := by
  have hlt := h.lt
  obtain ⟨es, clock, hb, hst, hk, rfl⟩ := h
  simp only [hb]
  refine ⟨run_range_map w t k e b es clock ht hb, es, clock, clock, #[], clock, ((MapKept.heap_alloc w _).2 b hlt).trans hb, hst, hk, rfl, (MapKept.heap_alloc w _).1, hst.1, Nat.le_refl _, Nat.le_refl _, ?_⟩
  have : leftOf es #[] = es := Array.filter_eq_self.2 (fun x _ => by simp)
  rw [this]
theorem wpList_range_v {ops : Array Oper} {rest : List Oper} {o : Oper} {a : Act} {Q : Exit → Act → World → Prop} (hg : o.guard = none) (m : Operand) (t : TypeId) (hop : o.op = Op.range t m) (k e : TypeId) (ht : P.underlying t = some (.map k e)) (b : Nat) (T : List (Value × Value))
    (hm : a.eval m = .map (some b)) (hown : MapV w P k b T)
    (hK : ∀ o', RngV (w.alloc o') P k b w.heap.size T T → wpList P ops Q rest (a.put o.dst (.pointer (some ⟨w.heap.size, 0, none⟩))) (w.alloc o')) :
    wpList P ops Q (o :: rest) a w := by
  refine wpList_plain hg fun K' hK' => ?_
  obtain ⟨hrun, r1⟩ := hown.range ht
  unfold Oper.wp
  simp only [execOp, hop, hm, hrun, Result.andThen, Sem.run_bind, Sem.run_pure]
  exact hK' _ _ (hK _ r1)

theorem left_step (es : Array MapEntry) (seen : Array Nat) (e : MapEntry) (hn : (es.toList.map (·.born)).Nodup) (he : e ∈ (leftOf es seen).toList) :
    ((leftOf es seen).toList.map (fun e => (e.key, e.val))).Perm ((e.key, e.val) :: (leftOf es (seen.push e.born)).toList.map (fun e => (e.key, e.val))) := by
  have h1 : (leftOf es (seen.push e.born)).toList = (leftOf es seen).toList.filter fun x => x.born != e.born := by
    simp only [leftOf, Array.toList_filter, List.filter_filter]
    apply List.filter_congr
    intro x _
    rw [contains_push]
    cases hx : (x.born == e.born) <;> simp [bne, hx]
  have hn2 : (((leftOf es seen).toList).map (·.born)).Nodup := by
    simp only [leftOf, Array.toList_filter]
    exact (List.Sublist.map _ List.filter_sublist).nodup hn
  rw [h1]
  generalize (leftOf es seen).toList = L at he hn2
  clear h1 hn
  induction L with
  | nil => simp at he
  | cons a L ih =>
    simp only [List.map_cons, List.nodup_cons] at hn2
    rcases List.mem_cons.1 he with rfl | he
    · have : L.filter (fun x => x.born != e.born) = L := List.filter_eq_self.2 fun x hx => by
        have : x.born ≠ e.born := fun h => hn2.1 (List.mem_map.2 ⟨x, hx, h⟩)
        simpa using this
      simp [this]
    · have hne : (a.born != e.born) = true := by
        have : a.born ≠ e.born := fun h => hn2.1 (List.mem_map.2 ⟨e, he, h.symm⟩)
        simpa using this
      have : (a :: L).filter (fun x => x.born != e.born) = a :: L.filter (fun x => x.born != e.born) := List.filter_cons_of_pos hne
      rw [this]
      simp only [List.map_cons]
      exact ((ih he hn2.2).cons _).trans (List.Perm.swap _ _ _)

/-- The step. -/
theorem RngV.next (h : RngV w P k b r T rem) (hne : r ≠ b) (ty : TypeId) :
    (rem = [] ∧ (Instr.next (.pointer (some ⟨r, 0, none⟩)) false ty).run P w = .ok (.tuple #[.bool false]) w) ∨
    ∃ key v rem' w', rem.Perm ((key, v) :: rem') ∧ (Instr.next (.pointer (some ⟨r, 0, none⟩)) false ty).run P w = .ok (.tuple #[.bool true, key, v]) w' ∧
      RngV w' P k b r T rem' ∧ w.grownBy w' (some r) ∧ w'.heap.size = w.heap.size ∧ (Instr.entry (.pointer (some ⟨r, 0, none⟩))).run P w' = .ok (.tuple #[key, v]) w' := by
  obtain ⟨es, clock, since, seen, c0, hb, hst, hk, hT, hr, hold, hsc, hsk, hrem⟩ := h
  have hst2 := (stamped_iff es clock).1 hst
  rcases run_next_at (P := P) w ty r b since c0 seen es clock hr hb hold hsc with ⟨h0, hrun⟩ | ⟨e, he, w1, hal, hrun⟩
  · refine .inl ⟨?_, hrun⟩
    have : leftOf es seen = #[] := Array.eq_empty_of_size_eq_zero h0
    rw [this] at hrem
    exact List.nil_perm.1 hrem
  · obtain ⟨hem, hes⟩ := mem_left he
    have hr1 : w1.heap[r]? = some (.mapIter (some b) since seen c0) := by rcases hal with rfl | rfl <;> exact hr
    have hb1 : w1.heap[b]? = some (.map es clock) := by rcases hal with rfl | rfl <;> exact hb
    have hset := heap_set (o' := .mapIter (some b) since (seen.push e.born) clock) hr1
    have hb' : (setBlock w1 r (.mapIter (some b) since (seen.push e.born) clock)).heap[b]? = some (.map es clock) := (hset.2 b (fun e1 => hne e1.symm)).trans hb1
    refine .inr ⟨e.key, e.val, _, _, ?_, hrun, ⟨es, clock, since, seen.push e.born, clock, hb', hst, hk, hT, hset.1, hold, hsk, hsk, .refl _⟩, ?_, ?_, run_entry_at _ r b since seen es clock e hset.1 hb' hem hst2.2.1⟩
    · refine hrem.symm.trans ?_
      exact left_step es seen e hst2.2.1 he
    · rcases hal with rfl | rfl <;> exact ⟨rfl, rfl, rfl, by simp [setBlock], fun i _ hi => hset.2 i (fun e1 => hi (by rw [e1]))⟩
    · rcases hal with rfl | rfl <;> simp [setBlock]
theorem RngV.ne (h : RngV w P k b r T rem) : r ≠ b := by
  obtain ⟨es, clock, since, seen, c0, hb, _, _, _, hr, _⟩ := h
  intro e
  rw [e, hb] at hr
  cases hr

theorem RngV.perm {rem' : List (Value × Value)} (h : RngV w P k b r T rem) (hp : rem.Perm rem') : RngV w P k b r T rem' := by
  obtain ⟨es, clock, since, seen, c0, hb, h1, h2, h3, hr, h4, h5, h6, h7⟩ := h
  exact ⟨es, clock, since, seen, c0, hb, h1, h2, h3, hr, h4, h5, h6, h7.trans hp⟩
theorem RngV.left_eq (h : RngV w P k b r T rem) : w.rangeLeft b r = rem.length := by
  obtain ⟨es, clock, since, seen, c0, hb, _, _, _, hr, _, _, _, h7⟩ := h
  simp only [World.rangeLeft, hb, hr]
  have := h7.length_eq
  simpa using this

/-- The step, at entries of known shapes. -/
theorem wpList_next_v {α : Type} {ops : Array Oper} {rest : List Oper} {o : Oper} {a : Act} {Q : Exit → Act → World → Prop} (hg : o.guard = none) (it : Operand) (hop : o.op = Op.next it false) (k : TypeId) (mkK mkV : α → Value) (b r : Nat) (T : List (Value × Value)) (rem : List α)
    (hit : a.eval it = .pointer (some ⟨r, 0, none⟩)) (h : RngV w P k b r T (rem.map fun x => (mkK x, mkV x)))
    (hDone : rem = [] → wpList P ops Q rest (a.put o.dst (.tuple #[.bool false])) w)
    (hMore : ∀ (x : α) (rem' : List α) (w' : World), rem.Perm (x :: rem') → RngV w' P k b r T (rem'.map fun x => (mkK x, mkV x)) → w.grownBy w' (some r) → w'.heap.size = w.heap.size →
      (Instr.entry (.pointer (some ⟨r, 0, none⟩))).run P w' = .ok (.tuple #[mkK x, mkV x]) w' → wpList P ops Q rest (a.put o.dst (.tuple #[.bool true, mkK x, mkV x])) w') :
    wpList P ops Q (o :: rest) a w := by
  refine wpList_plain hg fun K' hK' => ?_
  unfold Oper.wp
  rcases h.next h.ne o.type with ⟨h0, hrun⟩ | ⟨key, v, rem', w', hp, hrun, hrg, hgr, hsz, hen⟩
  · simp only [execOp, hop, hit, hrun, Result.andThen, Sem.run_bind, Sem.run_pure]
    exact hK' _ _ (hDone (by simpa using h0))
  · obtain ⟨x, hx, e⟩ := List.mem_map.1 (hp.mem_iff.2 (List.mem_cons_self (a := (key, v))))
    have e1 : mkK x = key := congrArg Prod.fst e
    have e2 : mkV x = v := congrArg Prod.snd e
    subst e1
    subst e2
    obtain ⟨s, t, rfl⟩ := List.append_of_mem hx
    have hp2 : (s ++ x :: t).Perm (x :: (s ++ t)) := List.perm_middle
    have hp3 := ((hp2.map fun x => (mkK x, mkV x)).symm.trans hp)
    simp only [List.map_cons] at hp3
    have hp4 := hp3.cons_inv
    simp only [execOp, hop, hit, hrun, Result.andThen, Sem.run_bind, Sem.run_pure]
    exact hK' _ _ (hMore x (s ++ t) w' hp2 (hrg.perm hp4.symm) hgr hsz hen)
end Go.Proofs.YtklconegomgjaaaGreat
namespace Go.Proofs.YtklconegomgjaaaGreat
open Go Go.RowKit Go.ChangeMaps Go.MapKept
open Go.Maps (Keyed)
variable {P : Program} {k : TypeId} {w : World} {b r : Nat} {T rem : List (Value × Value)}

theorem MapV.lookup {t e : TypeId} (h : MapV w P k b T) (K : Keyed P k) (ht : P.underlying t = some (.map k e)) {key zero : Value} {kl : Lit} (hkey : keyOf P k key = some kl) (hz : (zeroValue e).run P w = .ok zero w) :
    ((∀ p ∈ T, p.1 ≠ key) ∧ (Instr.lookup t (.map (some b)) key true).run P w = .ok (.tuple #[zero, .bool false]) w) ∨ ∃ v, (key, v) ∈ T ∧ (Instr.lookup t (.map (some b)) key true).run P w = .ok (.tuple #[v, .bool true]) w := by
  obtain ⟨es, clock, hb, hst, hk, rfl⟩ := h
  rcases K.find w hkey es.toList hk with ⟨h1, h2⟩ | ⟨j, e0, h1, h2, h3⟩
  · left
    refine ⟨fun p hp => ?_, ?_⟩
    · obtain ⟨e1, he1, rfl⟩ := List.mem_map.1 hp
      exact h2 e1 he1
    · simp [Instr.lookup, run_underlying ht, MapKept.run_getObj_map hb, K.check w _ hkey, h1, hz, Result.andThen]
  · right
    refine ⟨e0.val, List.mem_map.2 ⟨e0, List.mem_of_getElem? h2, by rw [h3]⟩, ?_⟩
    simp [Instr.lookup, run_underlying ht, MapKept.run_getObj_map hb, K.check w _ hkey, h1, Result.andThen]
theorem MapV.lookup_no {t e : TypeId} (h : MapV w P k b T) (K : Keyed P k) (ht : P.underlying t = some (.map k e)) {key zero : Value} {kl : Lit} (hkey : keyOf P k key = some kl) (hz : (zeroValue e).run P w = .ok zero w) (hn : ∀ p ∈ T, p.1 ≠ key) :
    (Instr.lookup t (.map (some b)) key true).run P w = .ok (.tuple #[zero, .bool false]) w := by
  rcases h.lookup K ht hkey hz with ⟨_, h1⟩ | ⟨v, h1, _⟩
  · exact h1
  · exact absurd rfl (hn _ h1)
theorem MapV.lookup_yes {t e : TypeId} (h : MapV w P k b T) (K : Keyed P k) (ht : P.underlying t = some (.map k e)) {key zero v : Value} {kl : Lit} (hkey : keyOf P k key = some kl) (hz : (zeroValue e).run P w = .ok zero w) (hn : ∃ p ∈ T, p.1 = key) (hv : ∀ v', (key, v') ∈ T → v' = v) :
    (Instr.lookup t (.map (some b)) key true).run P w = .ok (.tuple #[v, .bool true]) w := by
  rcases h.lookup K ht hkey hz with ⟨h1, _⟩ | ⟨v', h1, h2⟩
  · obtain ⟨p, hp, he⟩ := hn
    exact absurd he (h1 p hp)
  · rw [hv v' h1] at h2; exact h2
theorem wpList_lookup_v {ops : Array Oper} {rest : List Oper} {o : Oper} {a : Act} {Q : Exit → Act → World → Prop} (hg : o.guard = none) (m x : Operand) (t : TypeId) (hop : o.op = Op.lookup t m x true)
    (k e : TypeId) (K : Keyed P k) (ht : P.underlying t = some (.map k e)) (b : Nat) (T : List (Value × Value)) (zero : Value) (hz : (zeroValue e).run P w = .ok zero w)
    (hm : a.eval m = .map (some b)) (hown : MapV w P k b T) (key : Value) (kl : Lit) (hx : a.eval x = key) (hkey : keyOf P k key = some kl)
    (hN : (∀ p ∈ T, p.1 ≠ key) → wpList P ops Q rest (a.put o.dst (.tuple #[zero, .bool false])) w)
    (hY : ∀ v, (key, v) ∈ T → wpList P ops Q rest (a.put o.dst (.tuple #[v, .bool true])) w) :
    wpList P ops Q (o :: rest) a w := by
  refine wpList_plain hg fun K' hK' => ?_
  unfold Oper.wp
  rcases hown.lookup K ht hkey hz with ⟨h1, hrun⟩ | ⟨v, h1, hrun⟩
  · simp only [execOp, hop, hm, hx, hrun, Result.andThen, Sem.run_bind, Sem.run_pure]
    exact hK' _ _ (hN h1)
  · simp only [execOp, hop, hm, hx, hrun, Result.andThen, Sem.run_bind, Sem.run_pure]
    exact hK' _ _ (hY v h1)
end Go.Proofs.YtklconegomgjaaaGreat
namespace Go.Proofs.YtklconegomgjaaaGreat
open Go Go.RowKit
theorem alloc_atE (w : World) (o : Obj) {n : Nat} (h : n = w.heap.size) : (w.alloc o).heap[n]? = some o := by subst h; exact heap_alloc_new w o
theorem q_onE {X V V' : World} (h : Below X.heap.size X V) (h2 : Below V.heap.size V V') : Below X.heap.size X V' := h.trans (h2.mono h.size)
theorem grown_transE {A B C : World} {bo : Nat} (h : A.grownBy B (some bo)) (k : B.grownBy C (some bo)) : A.grownBy C (some bo) := h.andThen k (fun j e => .inr (by simpa using e))
theorem grown_belowE {w A A' : World} {row : Option Nat} {B : Nat} (h : w.grownBy A row) (hb : Below B A A') (hB : w.heap.size ≤ B) : w.grownBy A' row :=
  ⟨hb.os.trans h.os, hb.tape.trans h.tape, hb.output.trans h.output, Nat.le_trans h.size hb.size, fun i hi hr => (hb.block i (by omega)).trans (h.block i hi hr)⟩
end Go.Proofs.YtklconegomgjaaaGreat
