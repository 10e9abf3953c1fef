/- What is proved here: laws for the built-in append onto a slice that the call itself owns, whatever is appended; a growing slice of slices of ints. Over any program. -/
/- What is proved here: what the call itself owns, seen as a slice of ints. Over any program. -/
/- What is proved here: facts on the program's types, by the kernel. No condition. -/
/- What is proved here: a slice of ints from a block on; bits. No condition. -/
/- What is proved here: the contracts of gives, can and silent of layer 1. Conditions: the book lies in memory, is looked at and valid. -/
import Derived.Test.YtklconegomgjaaaGreatChkG
import Derived.Test.YtklconegomgjaaaGreatProg
import Derived.Test.YtklconegomgjaaaGreatFirstG
import Derived.Test.YtklconegomgjaaaGreatEaChk2G
set_option linter.unusedVariables false
set_option linter.unusedSimpArgs false
namespace Go.Proofs.YtklconegomgjaaaGreat
open Go Go.RowKit

/-- What a slice type is made of: the element's type, zero value, cells and bytes. -/
structure ElemInfo (P : Program) (t e : TypeId) (z : Value) (size bytes : Nat) : Prop where
  und : P.underlying t = some (.slice e)
  info : (P.info? e).map (fun i => (i.zero, i.size, i.bytes)) = some (some z, size, bytes)
  zsz : z.cells.size = size
  pos : 0 < size

/-- The cells that an argument of append yields: m elements. -/
def SrcAt (w : World) (y : Value) (m size : Nat) (news : List Value) : Prop :=
  news.length = m * size ∧ (∀ u ∈ news, u.oneCell' = true) ∧
  ((y = .slice none 0 0 ∧ m = 0) ∨ ∃ ad c, y = .slice (some ad) m c ∧ ∀ j u, news[j]? = some u → w.cell? (ad.add j) = some u)

theorem SrcAt.one (w : World) (u : Value) (t : TypeId) (h : u.oneCell' = true) : SrcAt (w.alloc (.cells #[u] t)) (.slice (some ⟨w.heap.size, 0, none⟩) 1 1) 1 1 [u] :=
  ⟨rfl, by simpa using h, .inr ⟨_, _, rfl, cell_one_new _ _ _⟩⟩

theorem SrcAt.below {w W : World} {y : Value} {m size : Nat} {news : List Value} (h : SrcAt w y m size news) (hb : Below w.heap.size w W) : SrcAt W y m size news := by
  obtain ⟨h1, h2, h3⟩ := h
  refine ⟨h1, h2, ?_⟩
  rcases h3 with h3 | ⟨ad, c, e, hc⟩
  · exact .inl h3
  · refine .inr ⟨ad, c, e, fun j u hj => ?_⟩
    have h := hc j u hj
    exact (hb.cell (p := ad.add j) (lt_of_cell h)).trans h

theorem SrcAt.ints {w : World} {a : Option Addr} {l : List Int} {c : Nat} (hn : a = none → c = 0) (h : IntsC w a l) : SrcAt w (.slice a l.length c) l.length 1 (l.map (Value.int .i64)) := by
  refine ⟨by simp, by intro u hu; obtain ⟨x, _, rfl⟩ := List.mem_map.1 hu; rfl, ?_⟩
  cases a with
  | none =>
    have : l.length = 0 := by
      by_cases h0 : 0 < l.length
      · obtain ⟨b, off, e, _⟩ := h 0 h0
        cases e
      · omega
    left
    rw [hn rfl, this]
    exact ⟨rfl, rfl⟩
  | some ad =>
    refine .inr ⟨ad, c, rfl, fun j u hj => ?_⟩
    rw [List.getElem?_map] at hj
    obtain ⟨x, hx, rfl⟩ := Option.map_eq_some_iff.1 hj
    obtain ⟨hlt, rfl⟩ := List.getElem?_eq_some_iff.1 hx
    obtain ⟨b, off, e, _, hc⟩ := h j hlt
    cases e
    rw [Addr.add_lit]
    exact hc

theorem wpList_app {P : Program} {w : World} {ops : Array Oper} {rest : List Oper} {o : Oper} {a : Act} {Q : Exit → Act → World → Prop} (s x : Operand) {t e : TypeId} {z : Value} {size bytes : Nat}
    (hE : ElemInfo P t e z size bytes) (hgd : o.guard = none) (ho : o.op = .call { callee := .builtin .append, args := #[s, x], argTypes := #[t, t] })
    {v y : Value} (hs : a.eval s = v) (hx : a.eval x = y)
    (base n m : Nat) (xs news : List Value) (hown : w.ownsRow base e size v n xs) (hsrc : SrcAt w y m size news)
    (hnm : n + m ≤ 1000000) (hbt : bytes ≤ 1000000) (hbase : base ≤ w.heap.size)
    (h : ∀ v' w', w'.ownsRow base e size v' (n + m) (xs ++ news) → w.grownBy w' v.ownBlock → (v'.ownBlock = v.ownBlock ∨ v'.ownBlock = some w.heap.size) → wpList P ops Q rest (a.put o.dst v') w') :
    wpList P ops Q (o :: rest) a w := by
  obtain ⟨i, hi, hz, hsz, hby⟩ := info_parts hE.info
  obtain ⟨h1, h2, h3⟩ := hsrc
  rcases h3 with ⟨rfl, rfl⟩ | ⟨ad, c, rfl, hc⟩
  · have hn : news = [] := List.eq_nil_of_length_eq_zero (by simpa using h1)
    subst hn
    refine wpList_append_own_none hgd s x t ho base e i size hE.und hi v n xs hs hown hx ?_
    exact h v w (by simpa using hown) ⟨rfl, rfl, rfl, Nat.le_refl _, fun _ _ _ => rfl⟩ (.inl rfl)
  · have hm : maxLen = 9223372036854775807 := rfl
    have hb : (n + m) * bytes ≤ 1000000 * 1000000 := Nat.mul_le_mul hnm hbt
    exact wpList_append_own_at w hgd s x t ho base e i z size bytes hE.und hi hz hsz hby hE.zsz hE.pos v n xs hs hown ad m c news hx h1 hc h2 (by omega) (by omega) hbase
      fun v' w' h2 h3 _ h5 => h v' w' h2 h3 h5

/-- Behind an append onto a slice that was just made (block w.heap.size). -/
theorem app_fresh {w w1 : World} {o : Obj} {n c : Nat} (hg : (w.alloc o).grownBy w1 (Value.ownBlock (.slice (some ⟨w.heap.size, 0, none⟩) n c))) : Below w.heap.size w w1 :=
  ((Below.refl w.heap.size w).alloc (Nat.le_refl _) o).grown hg (by simp) (fun k e => by
    have : w.heap.size = k := by simpa [Value.ownBlock] using e
    omega)
/-- Behind an append of one cell onto a slice of the call's own. -/
theorem app_next {B base : Nat} {w w1 w2 : World} {o : Obj} {e : TypeId} {size n : Nat} {v : Value} {xs : List Value} (h : Below B w w1) (hB : B ≤ w.heap.size) (hb : B ≤ base) (ho : w1.ownsRow base e size v n xs) (hg : (w1.alloc o).grownBy w2 v.ownBlock) : Below B w w2 :=
  have h1 := h.size
  (h.alloc (by omega) o).grown hg (by simp; omega) (fun k e => Nat.le_trans hb (ho.lt k e).1)
/-- Memory grows: what is owned stays. -/
theorem own_below {w W : World} {base : Nat} {e : TypeId} {size n : Nat} {v : Value} {xs : List Value} (h : w.ownsRow base e size v n xs) (hb : Below w.heap.size w W) : W.ownsRow base e size v n xs :=
  h.kept (row := none) ⟨hb.os, hb.tape, hb.output, hb.size, fun k hk _ => hb.block k hk⟩ (by cases v.ownBlock <;> simp)

/-- A slice that owns an element at least is written out. -/
theorem own_succ {W : World} {base : Nat} {e : TypeId} {size : Nat} {v : Value} {k : Nat} {xs : List Value} (h : W.ownsRow base e size v (k + 1) xs) : ∃ g cap, v = .slice (some ⟨g, 0, none⟩) (k + 1) cap := by
  rcases h.2 with ⟨_, h0⟩ | ⟨g, cap, _, rfl, _⟩
  · omega
  · exact ⟨g, cap, rfl⟩

/-- A growing slice of slices of ints: the call's own; each row lies apart from the growing one. -/
def OwnRows (w : World) (base : Nat) (e : TypeId) (v : Value) (L : List (List Int)) : Prop :=
  ∃ vs : List Value, w.ownsRow base e 1 v L.length vs ∧ ∀ i (_ : i < L.length), ∃ a c, vs[i]? = some (.slice a L[i].length c) ∧ SlOk a L[i].length c ∧
    IntsC w a L[i] ∧ ∀ ad, a = some ad → ad.block < w.heap.size ∧ some ad.block ≠ v.ownBlock

theorem OwnRows.nil (w : World) (base : Nat) (e : TypeId) : OwnRows w base e (.slice none 0 0) [] := ⟨[], World.ownsRow_nil _ _ _ _, fun i hi => absurd hi (Nat.not_lt_zero i)⟩

theorem IntsC.grown {w W : World} {a : Option Addr} {l : List Int} {row : Option Nat} (h : IntsC w a l) (hg : w.grownBy W row) (hne : ∀ ad, a = some ad → some ad.block ≠ row) : IntsC W a l := fun i hi => by
  obtain ⟨b, off, e, hlt, hc⟩ := h i hi
  exact ⟨b, off, e, Nat.lt_of_lt_of_le hlt hg.size, hg.cell (a := ⟨b, off + i, none⟩) hc (show some b ≠ row from hne _ e)⟩

theorem ownBlock_lt {w : World} {base : Nat} {e : TypeId} {size n : Nat} {v : Value} {xs : List Value} (h : w.ownsRow base e size v n xs) : ∀ k, v.ownBlock = some k → k < w.heap.size := fun k hk => (h.lt k hk).2

/-- Other memory turns: the growing slice stays. -/
theorem OwnRows.kept {w W : World} {base : Nat} {e : TypeId} {v : Value} {L : List (List Int)} (h : OwnRows w base e v L) (hb : Below w.heap.size w W) : OwnRows W base e v L := by
  obtain ⟨vs, h1, h2⟩ := h
  have hg : w.grownBy W none := ⟨hb.os, hb.tape, hb.output, hb.size, fun k hk _ => hb.block k hk⟩
  refine ⟨vs, h1.kept hg ?_, fun i hi => ?_⟩
  · cases hv : v.ownBlock <;> simp
  · obtain ⟨a, c, e1, e2, e5, e6⟩ := h2 i hi
    exact ⟨a, c, e1, e2, e5.mono hb, fun ad ead => ⟨Nat.lt_of_lt_of_le (e6 ad ead).1 hb.size, (e6 ad ead).2⟩⟩

/-- Behind 'rows = append(rows, t)': w: where the rows lay; w1: where t was made; w2: behind the append of the one cell. -/
theorem OwnRows.push {w w1 w2 : World} {base : Nat} {e : TypeId} {v v' : Value} {L : List (List Int)} {vs : List Value} {a : Option Addr} {t : List Int} {c : Nat} {tmp : Obj}
    (hvs : w.ownsRow base e 1 v L.length vs)
    (h2 : ∀ i (_ : i < L.length), ∃ a c, vs[i]? = some (.slice a L[i].length c) ∧ SlOk a L[i].length c ∧ IntsC w a L[i] ∧ ∀ ad, a = some ad → ad.block < w.heap.size ∧ some ad.block ≠ v.ownBlock)
    (hb : Below w.heap.size w w1) (ht : IntsC w1 a t) (hc : SlOk a t.length c) (hnew : ∀ ad, a = some ad → w.heap.size ≤ ad.block ∧ ad.block < w1.heap.size)
    (hown : w2.ownsRow base e 1 v' (L.length + 1) (vs ++ [.slice a t.length c])) (hg : (w1.alloc tmp).grownBy w2 v.ownBlock) (hv : v'.ownBlock = v.ownBlock ∨ v'.ownBlock = some (w1.alloc tmp).heap.size) :
    OwnRows w2 base e v' (L ++ [t]) := by
  have hvl := ownBlock_lt hvs
  have hb1 : Below w.heap.size w (w1.alloc tmp) := hb.alloc hb.size _
  have hlen : vs.length = L.length := by simpa using hvs.1
  refine ⟨_, by simpa using hown, fun i hi => ?_⟩
  have hsz := hb1.size
  by_cases h : i < L.length
  · obtain ⟨a', c', e1, e2, e5, e6⟩ := h2 i h
    refine ⟨a', c', ?_, ?_, ?_, ?_⟩
    · rw [List.getElem?_append_left (by omega), List.getElem_append_left h]
      exact e1
    · rw [List.getElem_append_left h]; exact e2
    · rw [List.getElem_append_left h]
      exact (e5.mono hb1).grown hg fun ad ead => (e6 ad ead).2
    · intro ad ead
      have e7 := e6 ad ead
      have := hg.size
      simp at hsz this
      refine ⟨by omega, ?_⟩
      rcases hv with hv | hv
      · rw [hv]; exact e7.2
      · rw [hv]
        intro e'
        simp at e'
        omega
  · have hi' : i = L.length := by simp at hi; omega
    subst hi'
    refine ⟨a, c, ?_, ?_, ?_, ?_⟩
    · rw [List.getElem?_append_right (by omega)]
      simp [hlen]
    · simpa using hc
    · simp
      refine (ht.mono ((Below.refl _ _).alloc (Nat.le_refl _) _)).grown hg fun ad ead e' => ?_
      have := hvl _ e'.symm
      have := (hnew ad ead).1
      omega
    · intro ad ead
      have h1 := hnew ad ead
      have := hg.size
      simp at this
      refine ⟨by omega, fun e' => ?_⟩
      rcases hv with hv | hv
      · have := hvl _ (hv ▸ e'.symm)
        omega
      · rw [hv] at e'
        simp at e'
        omega

theorem OwnRows.rows {w : World} {base : Nat} {e : TypeId} {v : Value} {L : List (List Int)} (h : OwnRows w base e v L) : RowsV w v L := by
  obtain ⟨vs, h1, h2⟩ := h
  have hm : maxLen = 9223372036854775807 := rfl
  rcases h1.2 with ⟨rfl, h0⟩ | ⟨g, cap, cur, rfl, _, hg, h3, h4, h5, h6⟩
  · have : L = [] := List.eq_nil_of_length_eq_zero h0
    subst this
    exact ⟨none, 0, rfl, ⟨Nat.le_refl _, by omega, fun _ => rfl⟩, RowsC.nil _ _⟩
  · refine ⟨some ⟨g, 0, none⟩, cap, rfl, ⟨h3, by omega, fun h => by cases h⟩, fun i hi => ?_⟩
    obtain ⟨a, c, e1, e2, e5, _⟩ := h2 i hi
    refine ⟨g, 0, a, c, rfl, (Array.getElem?_eq_some_iff.1 hg).1, ?_, e2, e5⟩
    have := h1.cells (g := g) rfl i _ e1
    simpa [Addr.add_lit] using this
end Go.Proofs.YtklconegomgjaaaGreat
namespace Go.Proofs.YtklconegomgjaaaGreat
open Go Go.RowKit
theorem ints_ownV {w : World} {base : Nat} {e : TypeId} {v : Value} {n : Nat} {l : List Int} (h : w.ownsRow base e 1 v n (l.map (Value.int .i64))) : IntsV w v l := by
  have hl := h.1
  rcases h.2 with ⟨rfl, h0⟩ | ⟨g, cap, cur, rfl, _⟩
  · have : l = [] := List.eq_nil_of_length_eq_zero (by simp at hl; omega)
    subst this
    exact ⟨none, 0, rfl, ⟨Nat.le_refl _, by omega, fun _ => rfl⟩, IntsC.nil _ _⟩
  · obtain ⟨h1, h2, h3, _⟩ := ints_own h rfl
    subst h1
    exact ⟨_, _, rfl, h3, h2⟩
/-- The step of a list of numbers that pass a test. -/
theorem keep_succ (p : Nat → Bool) (n : Nat) : ((List.range (n+1)).filter p).map (fun (c : Nat) => (c : Int)) = ((List.range n).filter p).map (fun (c : Nat) => (c : Int)) ++ (if p n then [(n : Int)] else []) := by
  rw [List.range_succ, List.filter_append, List.map_append]
  congr 1
  cases h : p n <;> simp [h]
theorem keep_len (p : Nat → Bool) (n : Nat) : (((List.range n).filter p).map (fun (c : Nat) => (c : Int))).length ≤ n := by
  have := List.length_filter_le p (List.range n)
  simpa using this
theorem keep_nil (p : Nat → Bool) : (((List.range 0).filter p).map (fun (c : Nat) => (c : Int))) = [] := rfl
end Go.Proofs.YtklconegomgjaaaGreat
namespace Go.Proofs.YtklconegomgjaaaGreat
open Go Go.RowKit
theorem E_int : ElemInfo Tryz.prog 57 3 (.int .i64 0) 1 8 := ⟨by kernel_rfl, by kernel_rfl, rfl, by decide⟩
theorem E_ints : ElemInfo Tryz.prog 47 57 (.slice none 0 0) 1 24 := ⟨by kernel_rfl, by kernel_rfl, rfl, by decide⟩
theorem E_str : ElemInfo Tryz.prog 49 9 (.string ⟨#[]⟩) 1 16 := ⟨by kernel_rfl, by kernel_rfl, rfl, by decide⟩
end Go.Proofs.YtklconegomgjaaaGreat
namespace Go.Proofs.YtklconegomgjaaaGreat
open Go Go.RowKit

/-- A slice value that holds a list of ints, in memory from B on. -/
def IntsN (B : Nat) (w : World) (v : Value) (l : List Int) : Prop := ∃ a c, v = .slice a l.length c ∧ SlOk a l.length c ∧ IntsC w a l ∧ ∀ ad, a = some ad → B ≤ ad.block
theorem IntsN.val {B : Nat} {w : World} {v : Value} {l : List Int} (h : IntsN B w v l) : IntsV w v l := by
  obtain ⟨a, c, e, h1, h2, _⟩ := h; exact ⟨a, c, e, h1, h2⟩
theorem IntsN.mono {B : Nat} {w W : World} {v : Value} {l : List Int} (h : IntsN B w v l) (hb : Below w.heap.size w W) : IntsN B W v l := by
  obtain ⟨a, c, e, h1, h2, h3⟩ := h; exact ⟨a, c, e, h1, h2.mono hb, h3⟩
theorem IntsN.grown {B : Nat} {w W : World} {v : Value} {l : List Int} {row : Option Nat} (h : IntsN B w v l) (hg : w.grownBy W row) (hr : ∀ r, row = some r → r < B) : IntsN B W v l := by
  obtain ⟨a, c, e, h1, h2, h3⟩ := h
  refine ⟨a, c, e, h1, h2.grown hg (fun ad ea e => ?_), h3⟩
  have := hr _ e.symm
  have := h3 ad ea
  omega
theorem ints_ownN {w : World} {base : Nat} {e : TypeId} {v : Value} {n : Nat} {l : List Int} (h : w.ownsRow base e 1 v n (l.map (Value.int .i64))) : IntsN base w v l := by
  have hl := h.1
  rcases h.2 with ⟨rfl, h0⟩ | ⟨g, cap, cur, rfl, _⟩
  · have : l = [] := List.eq_nil_of_length_eq_zero (by simp at hl; omega)
    subst this
    exact ⟨none, 0, rfl, ⟨Nat.le_refl _, by omega, fun _ => rfl⟩, IntsC.nil _ _, fun _ h => by cases h⟩
  · obtain ⟨h1, h2, h3, h4, _⟩ := ints_own h rfl
    subst h1
    exact ⟨_, _, rfl, h3, h2, fun ad e => by cases e; exact h4⟩
theorem bit_and : ∀ c : Nat, c < 64 → ∀ k : Nat, k < 7 → (bits BinOp.and IntKind.i64 ((c : Int) / 2 ^ k) 1 == 1) = c.testBit k := by decide +kernel
end Go.Proofs.YtklconegomgjaaaGreat
namespace Go.Proofs.YtklconegomgjaaaGreat
open Go Go.RowKit Go.Shelf

theorem gives_bit : ∀ c : Nat, c < 16 → ∀ k : Nat, k < 4 → (bits BinOp.and IntKind.i64 ((c : Int) / 2 ^ k) 1 == 1) = c.testBit k := by decide +kernel
set_option maxHeartbeats 1000000 in
theorem EGives_any (x : EaL) (n : Nat) (w : World) (hx : 0 ≤ x.sounds ∧ x.sounds < 16) (hn : n < 4) :
    Calls Tryz.prog 73 #[.agg #[.int .u8 x.letter, .int .i64 x.sounds, .bool x.silent], .int .i64 (n : Int)] w fun e w' => e = .returned (.bool (bitB x.sounds n)) ∧ Below w.heap.size w w' := by
  obtain ⟨xl, xs, xi⟩ := x
  simp only at *
  obtain ⟨c, rfl⟩ : ∃ c : Nat, xs = (c : Int) := ⟨xs.toNat, by omega⟩
  have hb := gives_bit c (by omega) n hn
  have e1 : bitB (c : Int) n = c.testBit n := by unfold bitB; simp
  rw [e1]
  clear e1
  generalize c.testBit n = tb at hb ⊢
  have hn64 : (n : Int) < 64 := by omega
  go_enter Tryz.func73, Tryz.ntmps73
  go_wp2
  go_ret
  exact ⟨ret_bool (by first | exact hb | rfl), (Below.refl _ w).alloc (Nat.le_refl _) _⟩
/-- A letter of a spelling. -/
def letN (b : EaB) (i j : Nat) : EaL := (ltsOf b (spellAt b i))[j]?.getD noL
/-- Where it lies. -/
structure LetAt (b : EaB) (i j : Nat) (A k : Nat) : Prop where
  ilt : i < b.spells.length
  jlt : j < b.spells[i].text.size
  alpha : b.spells[i].alpha = (A : Int)
  alt : A < b.alphas.length
  klt : k < b.alphas[A].letters.length
  idx : idxL b.alphas[A].letters (byteI b.spells[i].text[j]) = (k : Int)
  is : letN b i j = b.alphas[A].letters[k]
theorem letAt_ex {b : EaB} (hv : EaValid b) {i j : Nat} (hi : i < b.spells.length) (hj : j < b.spells[i].text.size) : ∃ A k, LetAt b i j A k := by
  obtain ⟨g1, g2, g3, g4, g5⟩ := hv.spell i hi
  obtain ⟨A, hA⟩ : ∃ A : Nat, b.spells[i].alpha = (A : Int) := ⟨b.spells[i].alpha.toNat, by omega⟩
  have hlt : A < b.alphas.length := by omega
  have hal : alphaOf b b.spells[i] = (b.alphas[A]'hlt).letters := by unfold alphaOf; rw [hA, Int.toNat_natCast, List.getElem?_eq_getElem hlt]; rfl
  have h5 := g5 j hj
  rw [hal] at h5
  rcases idxL_ge (b.alphas[A]'hlt).letters (byteI b.spells[i].text[j]) with h | ⟨k, hk, h7, _⟩
  · omega
  · refine ⟨A, k, hi, hj, hA, hlt, hk, h7, ?_⟩
    unfold letN ltsOf
    rw [spellAt_is hi, List.getElem?_map, List.getElem?_eq_getElem (by simpa using hj)]
    show letL (alphaOf b b.spells[i]) (byteI (b.spells[i].text.data.toList[j]'_)) = _
    rw [show b.spells[i].text.data.toList[j]'(by simpa using hj) = b.spells[i].text[j] from by simp [ByteArray.getElem_eq_getElem_data], hal]
    unfold letL
    rw [h7, Int.toNat_natCast, List.getElem?_eq_getElem hk]
    rfl
theorem letN_ok {b : EaB} (hv : EaValid b) {i j : Nat} (hi : i < b.spells.length) (hj : j < b.spells[i].text.size) : 0 ≤ (letN b i j).sounds ∧ (letN b i j).sounds < 16 := by
  have hl : j < (ltsOf b b.spells[i]).length := by rw [lts_len]; exact hj
  have h1 := lts_ok hv hi _ (List.getElem_mem hl)
  have e : letN b i j = (ltsOf b b.spells[i])[j] := by unfold letN; rw [spellAt_is hi, List.getElem?_eq_getElem hl]; rfl
  rw [e]
  have hs := hv.sounds
  have h2 : (2 : Int) ^ b.sounds.toNat ≤ 16 := by
    have : b.sounds.toNat = 1 ∨ b.sounds.toNat = 2 ∨ b.sounds.toNat = 3 ∨ b.sounds.toNat = 4 := by omega
    rcases this with h | h | h | h <;> rw [h] <;> decide
  omega
/-- The block of a book that is looked at. -/
def BkB (W : World) (bm bo : Nat) (a1 a2 : Option Addr) (k1 k2 : Nat) (b : EaB) : Prop := W.heap[bm]? = some (.cells #[.int .i64 b.sounds, .slice a1 b.alphas.length k1, .slice a2 b.spells.length k2, .map (some bo)] 144 (0, 0))
section
variable {W W' : World} {bm bo : Nat} {a1 a2 : Option Addr} {k1 k2 : Nat} {b : EaB}
theorem BkB.cells (h : BkB W bm bo a1 a2 k1 k2 b) : W.cell? ⟨bm, 0, none⟩ = some (.int .i64 b.sounds) ∧ W.cell? ⟨bm, 1, none⟩ = some (.slice a1 b.alphas.length k1) ∧ W.cell? ⟨bm, 2, none⟩ = some (.slice a2 b.spells.length k2) ∧ W.cell? ⟨bm, 3, none⟩ = some (.map (some bo)) ∧ bm < W.heap.size :=
  ⟨blk_cell 0 h rfl, blk_cell 1 h rfl, blk_cell 2 h rfl, blk_cell 3 h rfl, lt_of_block h⟩
theorem BkB.same (h : BkB W bm bo a1 a2 k1 k2 b) (e : W'.heap[bm]? = W.heap[bm]?) : BkB W' bm bo a1 a2 k1 k2 b := e.trans h
end
/-- What reading a letter of a spelling meets in memory. -/
structure LetMem (w : World) (a1 a2 : Option Addr) (ns na : Nat) (i j : Nat) (x : EaL) (b1 o1 b2 o2 A k m cl bl ol : Nat) (text : ByteArray) : Prop where
  e2 : a2 = some ⟨b1, o1, none⟩
  e1 : a1 = some ⟨b2, o2, none⟩
  z1 : b1 < w.heap.size
  z2 : b2 < w.heap.size
  zl : bl < w.heap.size
  c0 : w.cell? ⟨b1, o1 + i * 2, none⟩ = some (.int .i64 (A : Int))
  c1 : w.cell? ⟨b1, o1 + i * 2 + 1, none⟩ = some (.string text)
  c2 : w.cell? ⟨b2, o2 + A * 2 + 1, none⟩ = some (.slice (some ⟨bl, ol, none⟩) m cl)
  l0 : w.cell? ⟨bl, ol + k * 3, none⟩ = some (.int .u8 x.letter)
  l1 : w.cell? ⟨bl, ol + k * 3 + 1, none⟩ = some (.int .i64 x.sounds)
  l2 : w.cell? ⟨bl, ol + k * 3 + 2, none⟩ = some (.bool x.silent)
  hi : (i : Int) < (ns : Int)
  hA : (A : Int) < (na : Int)
  hk : (k : Int) < (m : Int)
  hm : m ≤ 9223372036854775807
  hj : (j : Int) < (text.size : Int)
  ix : ∀ (W : World), Below w.heap.size w W → ∀ h : j < text.size, Calls Tryz.prog 121 #[.slice (some ⟨bl, ol, none⟩) m cl, .int .u8 (text[j].toNat : Int)] W fun e w' => e = .returned (.int .i64 (k : Int)) ∧ Below W.heap.size W w'
theorem letMem_ex {a1 a2 : Option Addr} {k1 k2 : Nat} {b : EaB} {i j : Nat} {w : World} (hm : BookC w a1 a2 k1 k2 b) (hv : EaValid b) (hi : i < b.spells.length) (hj : j < b.spells[i].text.size) :
    ∃ b1 o1 b2 o2 A k m cl bl ol, LetMem w a1 a2 b.spells.length b.alphas.length i j (letN b i j) b1 o1 b2 o2 A k m cl bl ol b.spells[i].text := by
  obtain ⟨A, k, L⟩ := letAt_ex hv hi hj
  obtain ⟨b1, o1, h1e, h1b, h1c, h1d⟩ := hm.spells i hi
  obtain ⟨b2, o2, h2e, h2b, _, al, cl, h2c, h2d, h2f⟩ := hm.alphas A L.alt
  obtain ⟨bl, ol, rfl, hlb, hl0, hl1, hl2⟩ := h2f k L.klt
  have hk := L.klt
  have hA := L.alt
  rw [L.alpha] at h1c
  refine ⟨b1, o1, b2, o2, A, k, _, cl, bl, ol, h1e, h2e, h1b, h2b, hlb, h1c, h1d, h2c, ?_, ?_, ?_, by omega, by omega, by omega, h2d.len, by omega, fun W hW h => ?_⟩
  · rw [L.is]; exact hl0
  · rw [L.is]; exact hl1
  · rw [L.is]; exact hl2
  · have := EIndex_any (some ⟨bl, ol, none⟩) b.alphas[A].letters cl (byteI b.spells[i].text[j]) W h2d.len (h2f.mono hW)
    rw [L.idx] at this
    exact this
theorem LetMem.mono {w W : World} {a1 a2 : Option Addr} {ns na i j : Nat} {x : EaL} {b1 o1 b2 o2 A k m cl bl ol : Nat} {text : ByteArray} (h : LetMem w a1 a2 ns na i j x b1 o1 b2 o2 A k m cl bl ol text) (hb : Below w.heap.size w W) : LetMem W a1 a2 ns na i j x b1 o1 b2 o2 A k m cl bl ol text :=
  ⟨h.e2, h.e1, Nat.lt_of_lt_of_le h.z1 hb.size, Nat.lt_of_lt_of_le h.z2 hb.size, Nat.lt_of_lt_of_le h.zl hb.size, cell_below hb h.c0, cell_below hb h.c1, cell_below hb h.c2, cell_below hb h.l0, cell_below hb h.l1, cell_below hb h.l2, h.hi, h.hA, h.hk, h.hm, h.hj, fun V hV => h.ix V (hb.trans (hV.mono hb.size))⟩
set_option maxRecDepth 100000 in
set_option maxHeartbeats 2000000 in
theorem ECan_any (a1 a2 : Option Addr) (k1 k2 : Nat) (b : EaB) (bm bo i j n : Nat) (w : World) (hm : BookC w a1 a2 k1 k2 b) (hb : BkB w bm bo a1 a2 k1 k2 b) (hv : EaValid b) (hi : i < b.spells.length) (hj : j < b.spells[i].text.size) (hn : n < 4) :
    Calls Tryz.prog 171 #[.pointer (some ⟨bm, 0, none⟩), .int .i64 (i : Int), .int .i64 (j : Int), .int .i64 (n : Int)] w fun e w' => e = .returned (.bool (bitB (letN b i j).sounds n)) ∧ Below w.heap.size w w' := by
  obtain ⟨b1, o1, b2, o2, A, k, m, cl, bl, ol, L⟩ := letMem_ex hm hv hi hj
  have hok := letN_ok hv hi hj
  have hl1 := hm.oka.len
  have hl2 := hm.oks.len
  obtain ⟨y0, y1, y2, y3, yz⟩ := hb.cells
  clear hm hb y0 y3
  generalize b.spells[i].text = text at *
  generalize letN b i j = x at *
  generalize b.spells.length = ns at *
  generalize b.alphas.length = na at *
  have HL := Lib.hid (fun (V : World) (h : Below w.heap.size w V) => L.mono h)
  have IX := Lib.hid (fun (V : World) (h : Below w.heap.size w V) => L.ix V h hj)
  have GV := Lib.hid (fun W => EGives_any x n W hok hn)
  obtain ⟨rfl, rfl, z1, z2, zl, c0, c1, c2, l0, l1, l2, hiI, hAI, hkI, hmI, hjI, -⟩ := L
  obtain ⟨xl, xs, xi⟩ := x
  simp only at *
  go_enter Tryz.func171, Tryz.ntmps171
  go_upto_region 2 with (fail)
  have hbX : Below w.heap.size w (w.alloc (.cells #[.int .i64 (A : Int), .string text] 134)) := (Below.refl _ w).alloc (Nat.le_refl _) _
  obtain ⟨X, hX⟩ : ∃ X : World, X = w.alloc (.cells #[.int .i64 (A : Int), .string text] 134) := ⟨_, rfl⟩
  rw [← hX] at hbX ⊢
  have x0 : X.cell? ⟨w.heap.size, 0, none⟩ = some (.int .i64 (A : Int)) := by rw [hX]; exact blk_cell 0 (alloc_atE _ _ rfl) rfl
  have x1 : X.cell? ⟨w.heap.size, 1, none⟩ = some (.string text) := by rw [hX]; exact blk_cell 1 (alloc_atE _ _ rfl) rfl
  have xz : w.heap.size < X.heap.size := by rw [hX]; simp
  clear hX
  replace y1 := cell_below hbX y1
  replace c2 := cell_below hbX c2
  replace yz := Nat.lt_of_lt_of_le yz hbX.size
  replace z2 := Nat.lt_of_lt_of_le z2 hbX.size
  clear y2 c0 c1 l0 l1 l2 z1 zl
  go_quiet (fail)
  obtain ⟨Y, hY⟩ : ∃ Y : World, Y = X.drewN nq := ⟨_, rfl⟩
  rw [← hY]
  have hbY : Below w.heap.size w Y := by rw [hY]; exact below_drewN' hbX _
  replace x1 : Y.cell? ⟨w.heap.size, 1, none⟩ = some (.string text) := by rw [hY, drewN_cell]; exact x1
  replace xz : w.heap.size < Y.heap.size := by rw [hY]; exact xz
  clear hY hbX x0 y1 c2 yz z2
  go_wp2_with (first
    | (go_at_call 73; go_must ((with_reducible refine (GV.out _).mono ?_); rintro e w3 ⟨rfl, hb3⟩; have hB3 := hB2.trans (hb3.mono hB2.size); dsimp only))
    | (go_at_call 121; go_must ((with_reducible refine (IX.out _ hbY).mono ?_); rintro e w2 ⟨rfl, hb2⟩; have hB2 := hbY.trans (hb2.mono hbY.size); obtain ⟨-, -, z1, z2, zl, -, -, -, l0, l1, l2, -⟩ := HL.out _ hB2; (simp only at l0 l1 l2); dsimp only)))
  go_ret
  exact ⟨rfl, hB3⟩
set_option maxRecDepth 100000 in
set_option maxHeartbeats 2000000 in
theorem ESilent_any (a1 a2 : Option Addr) (k1 k2 : Nat) (b : EaB) (bm bo i j : Nat) (w : World) (hm : BookC w a1 a2 k1 k2 b) (hb : BkB w bm bo a1 a2 k1 k2 b) (hv : EaValid b) (hi : i < b.spells.length) (hj : j < b.spells[i].text.size) :
    Calls Tryz.prog 173 #[.pointer (some ⟨bm, 0, none⟩), .int .i64 (i : Int), .int .i64 (j : Int)] w fun e w' => e = .returned (.bool (letN b i j).silent) ∧ Below w.heap.size w w' := by
  obtain ⟨b1, o1, b2, o2, A, k, m, cl, bl, ol, L⟩ := letMem_ex hm hv hi hj
  have hl1 := hm.oka.len
  have hl2 := hm.oks.len
  obtain ⟨y0, y1, y2, y3, yz⟩ := hb.cells
  clear hm hb y0 y3
  generalize b.spells[i].text = text at *
  generalize letN b i j = x at *
  generalize b.spells.length = ns at *
  generalize b.alphas.length = na at *
  have HL := Lib.hid (fun (V : World) (h : Below w.heap.size w V) => L.mono h)
  have IX := Lib.hid (fun (V : World) (h : Below w.heap.size w V) => L.ix V h hj)
  obtain ⟨rfl, rfl, z1, z2, zl, c0, c1, c2, l0, l1, l2, hiI, hAI, hkI, hmI, hjI, -⟩ := L
  obtain ⟨xl, xs, xi⟩ := x
  simp only at *
  go_enter Tryz.func173, Tryz.ntmps173
  go_upto_region 2 with (fail)
  have hbX : Below w.heap.size w (w.alloc (.cells #[.int .i64 (A : Int), .string text] 134)) := (Below.refl _ w).alloc (Nat.le_refl _) _
  obtain ⟨X, hX⟩ : ∃ X : World, X = w.alloc (.cells #[.int .i64 (A : Int), .string text] 134) := ⟨_, rfl⟩
  rw [← hX] at hbX ⊢
  have x0 : X.cell? ⟨w.heap.size, 0, none⟩ = some (.int .i64 (A : Int)) := by rw [hX]; exact blk_cell 0 (alloc_atE _ _ rfl) rfl
  have x1 : X.cell? ⟨w.heap.size, 1, none⟩ = some (.string text) := by rw [hX]; exact blk_cell 1 (alloc_atE _ _ rfl) rfl
  have xz : w.heap.size < X.heap.size := by rw [hX]; simp
  clear hX
  replace y1 := cell_below hbX y1
  replace c2 := cell_below hbX c2
  replace yz := Nat.lt_of_lt_of_le yz hbX.size
  replace z2 := Nat.lt_of_lt_of_le z2 hbX.size
  clear y2 c0 c1 l0 l1 l2 z1 zl
  go_quiet (fail)
  obtain ⟨Y, hY⟩ : ∃ Y : World, Y = X.drewN nq := ⟨_, rfl⟩
  rw [← hY]
  have hbY : Below w.heap.size w Y := by rw [hY]; exact below_drewN' hbX _
  replace x1 : Y.cell? ⟨w.heap.size, 1, none⟩ = some (.string text) := by rw [hY, drewN_cell]; exact x1
  replace xz : w.heap.size < Y.heap.size := by rw [hY]; exact xz
  clear hY hbX x0 y1 c2 yz z2
  go_wp2_with (first
    | (go_at_call 121; go_must ((with_reducible refine (IX.out _ hbY).mono ?_); rintro e w2 ⟨rfl, hb2⟩; have hB2 := hbY.trans (hb2.mono hbY.size); obtain ⟨-, -, z1, z2, zl, -, -, -, l0, l1, l2, -⟩ := HL.out _ hB2; (simp only at l0 l1 l2); dsimp only)))
  go_ret
  exact ⟨rfl, hB2⟩
end Go.Proofs.YtklconegomgjaaaGreat
