/- What is proved here: 'm[k] op= v' on a map that is known as the list of its entries: the entry is found or made, then stored; a look-up without ok. Over any program. -/
/- What is proved here: contracts of beyond (of the layer, and of ear), with their closures and the search of slices. No condition but lengths. -/
/- What is proved here: the contract of ear.beyond at one number. -/
/- What is proved here: contracts of the small helpers of the references (In, Inside, Has, Rising, Bit, Less, Fewer, Ints). Conditions: slices are of lengths that a machine can hold. -/
import Derived.Test.YtklconegomgjaaaGreatPnBaseG
import Derived.WideKeyEntry
import Derived.Test.YtklconegomgjaaaGreatProg
import Derived.Test.YtklconegomgjaaaGreatChkG
set_option linter.unusedVariables false
set_option linter.unusedSimpArgs false
namespace Go.Proofs.YtklconegomgjaaaGreat
open Go Go.RowKit Go.ChangeMaps Go.MapKept
open Go.Maps (Keyed)
variable {P : Program} {k : TypeId} {w : World} {b r : Nat} {T rem : List (Value × Value)}
/-- Entry j of the map b was made when its clock said st. -/
def StampE (w : World) (b j st : Nat) : Prop := ∃ es clock e0, w.heap[b]? = some (.map es clock) ∧ es[j]? = some e0 ∧ e0.born = st
theorem StampE.same {w' : World} {j st : Nat} (h : StampE w b j st) (he : w'.heap[b]? = w.heap[b]?) : StampE w' b j st := by
  obtain ⟨es, clock, e0, hb, h2⟩ := h
  exact ⟨es, clock, e0, he.trans hb, h2⟩
theorem MapV.get {t e : TypeId} (h : MapV w P k b T) (K : Keyed P k) (ht : P.underlying t = some (.map k e)) {key zero : Value} {kl : Lit} (hkey : keyOf P k key = some kl) (hz : (zeroValue e).run P w = .ok zero w) :
    ((∀ p ∈ T, p.1 ≠ key) ∧ (Instr.lookup t (.map (some b)) key false).run P w = .ok zero w) ∨ ∃ (j : Nat) (v : Value), T[j]? = some (key, v) ∧ (Instr.lookup t (.map (some b)) key false).run P w = .ok v w := by
  obtain ⟨es, clock, hb, hst, hk, rfl⟩ := h
  rcases K.find w hkey es.toList hk with ⟨h1, h2⟩ | ⟨j, e0, h1, h2, h3⟩
  · left
    refine ⟨fun p hp => ?_, ?_⟩
    · obtain ⟨e1, he1, rfl⟩ := List.mem_map.1 hp
      exact h2 e1 he1
    · simp [Instr.lookup, run_underlying ht, MapKept.run_getObj_map hb, K.check w _ hkey, h1, hz, Result.andThen]
  · right
    refine ⟨j, e0.val, by rw [List.getElem?_map, h2]; simp [h3], ?_⟩
    simp [Instr.lookup, run_underlying ht, MapKept.run_getObj_map hb, K.check w _ hkey, h1, Result.andThen]
theorem grown_setBlock (w : World) (b : Nat) (o : Obj) : w.grownBy (setBlock w b o) (some b) := ⟨rfl, rfl, rfl, by simp [setBlock], fun i _ hi => by
  simp only [setBlock]
  rw [Array.getElem?_setIfInBounds]
  rw [if_neg (fun e => hi (by rw [e]))]⟩
/-- The entry is found, or made with nothing in it. -/
theorem MapV.entry {t e : TypeId} (h : MapV w P k b T) (K : Keyed P k) (ht : P.underlying t = some (.map k e)) {key zero : Value} {kl : Lit} (hkey : keyOf P k key = some kl) (hz : ∀ u : World, (zeroValue e).run P u = .ok zero u) :
    (∃ (j : Nat) (v0 : Value) (st : Nat) (w' : World), T[j]? = some (key, v0) ∧ (Instr.mapEntry t (.map (some b)) key).run P w = .ok (.tuple #[v0, .int .i64 ((st : Nat) : Int)]) w' ∧ MapV w' P k b T ∧ StampE w' b j st ∧ w.grownBy w' (some b) ∧ w'.heap.size = w.heap.size) ∨
    ((∀ p ∈ T, p.1 ≠ key) ∧ ∃ (st : Nat) (w' : World), (Instr.mapEntry t (.map (some b)) key).run P w = .ok (.tuple #[zero, .int .i64 ((st : Nat) : Int)]) w' ∧ MapV w' P k b (T ++ [(key, zero)]) ∧ StampE w' b T.length st ∧ w.grownBy w' (some b) ∧ w'.heap.size = w.heap.size) := by
  obtain ⟨es, clock, hb, hst, hk, rfl⟩ := h
  rcases K.find w hkey es.toList hk with ⟨h1, h2⟩ | ⟨j, e0, h1, h2, h3⟩
  · right
    refine ⟨fun p hp => ?_, clock, setBlock w b (.map (es.push ⟨key, zero, clock⟩) (clock + 1)), ?_, ⟨es.push ⟨key, zero, clock⟩, clock + 1, heap_setBlock_same hb _, stamped_push hst h2, ?_, by simp⟩, ⟨es.push ⟨key, zero, clock⟩, clock + 1, ⟨key, zero, clock⟩, heap_setBlock_same hb _, by simp, rfl⟩, grown_setBlock _ _ _, by simp [setBlock]⟩
    · obtain ⟨e1, he1, rfl⟩ := List.mem_map.1 hp
      exact h2 e1 he1
    · simp [Instr.mapEntry, run_underlying ht, MapKept.run_getObj_map hb, K.check w false hkey, h1, hz, MapKept.run_setObj_map _ hb, Result.andThen, setBlock, goInt]
    · intro x hx
      simp only [Array.toList_push, List.mem_append, List.mem_singleton] at hx
      rcases hx with hx | rfl
      · exact hk x hx
      · exact ⟨kl, hkey⟩
  · left
    have hj : es[j]? = some e0 := by simpa using h2
    have hsame : es.modify j (fun e => { e with key := key }) = es := by
      apply Array.ext'
      rw [Array.toList_modify, modify_eq_set _ _ _ _ h2]
      have : ({ e0 with key := key } : MapEntry) = e0 := by rw [← h3]
      rw [this]
      exact WideElems.set_self _ _ _ h2
    refine ⟨j, e0.val, e0.born, setBlock w b (.map es clock), by rw [List.getElem?_map, h2]; simp [h3], ?_, ⟨es, clock, heap_setBlock_same hb _, hst, hk, rfl⟩, ⟨es, clock, e0, heap_setBlock_same hb _, hj, rfl⟩, grown_setBlock _ _ _, by simp [setBlock]⟩
    simp [Instr.mapEntry, run_underlying ht, MapKept.run_getObj_map hb, K.check w false hkey, h1, hj, h3, K.stays w hkey, hsame, MapKept.run_setObj_map _ hb, Result.andThen, setBlock, goInt]
/-- The store into it. -/
theorem MapV.entryStore {t : TypeId} {j st : Nat} (h : MapV w P k b T) (hs : StampE w b j st) {key v0 val : Value} (hj : T[j]? = some (key, v0)) :
    ∃ w', (Instr.entryStore t (.map (some b)) (.int .i64 ((st : Nat) : Int)) val).run P w = .ok () w' ∧ MapV w' P k b (T.set j (key, val)) ∧ w.grownBy w' (some b) ∧ w'.heap.size = w.heap.size := by
  obtain ⟨es, clock, hb, hst, hk, rfl⟩ := h
  obtain ⟨es2, clock2, e0, hb2, he, rfl⟩ := hs
  rw [hb] at hb2
  simp only [Option.some.injEq, Obj.map.injEq] at hb2
  obtain ⟨rfl, rfl⟩ := hb2
  have hst2 := (stamped_iff es clock).1 hst
  have hel : es.toList[j]? = some e0 := by simpa using he
  rw [List.getElem?_map, hel] at hj
  simp only [Option.map_some, Option.some.injEq, Prod.mk.injEq] at hj
  obtain ⟨rfl, rfl⟩ := hj
  have hidx : es.findIdx? (fun e => ((e.born : Nat) : Int) == ((e0.born : Nat) : Int)) = some j := by
    rw [WideElems.findIdx_arr]
    exact WideElems.findIdx_born hst2.2.1 hel
  refine ⟨setBlock w b (.map (es.modify j fun e => { e with val := val }) clock), ?_, ⟨es.modify j fun e => { e with val := val }, clock, heap_setBlock_same hb _, stamped_modify hst j _ (fun e _ => rfl) (fun e _ _ => rfl), ?_, ?_⟩, grown_setBlock _ _ _, by simp [setBlock]⟩
  · simp [Instr.entryStore, MapKept.run_getObj_map hb, asInt, asIntOf, hidx, MapKept.run_setObj_map _ hb, Result.andThen, setBlock]
  · intro x hx
    rcases MapFrom.mem_modify hx with h | ⟨e, h1, rfl⟩
    · exact hk x h
    · have : e ∈ es.toList := List.mem_of_getElem? (by simpa using h1)
      exact hk e this
  · rw [Array.toList_modify, modify_eq_set _ _ _ _ hel, List.map_set]
end Go.Proofs.YtklconegomgjaaaGreat
namespace Go.Proofs.YtklconegomgjaaaGreat
open Go Go.RowKit

def outB (lo hi n : Int) : Bool := decide (n < lo) || decide (hi < n)

theorem any_lt {α : Type} {f : α → Bool} {l : List α} {k : Nat} (h : k < l.length) (hf : f l[k] = true) : l.any f = true := by
  rw [List.any_eq_true]; exact ⟨_, List.getElem_mem h, hf⟩
theorem any_not {α : Type} {f : α → Bool} {l : List α} (h : ∀ j (_ : j < l.length), f l[j] = false) : l.any f = false := by
  rw [List.any_eq_false]
  intro x hx
  obtain ⟨i, hi, rfl⟩ := List.getElem_of_mem hx
  simp [h i hi]

set_option maxHeartbeats 1000000 in
theorem MBeyond1_any (n lo hi : Int) (p q : Nat) (w : World) (h1 : w.cell? ⟨p, 0, none⟩ = some (.int .i64 lo)) (h2 : w.cell? ⟨q, 0, none⟩ = some (.int .i64 hi)) :
    Calls Tryz.prog 160 #[.int .i64 n, .pointer (some ⟨p, 0, none⟩), .pointer (some ⟨q, 0, none⟩)] w fun e w' => e = .returned (.bool (outB lo hi n)) ∧ w' = w := by
  have hp := lt_of_cell h1
  have hq := lt_of_cell h2
  have HO : Hid (outB lo hi n = (decide (n < lo) || decide (hi < n))) := rfl
  generalize outB lo hi n = r at HO ⊢
  by_cases a1 : n < lo
  · go_enter Tryz.func160, Tryz.ntmps160
    go_wp2
    go_ret
    exact ⟨ret_bool (by rw [HO.out]; simp [a1]), rfl⟩
  · by_cases a2 : hi < n
    all_goals
      go_enter Tryz.func160, Tryz.ntmps160
      go_wp2
      go_ret
      exact ⟨ret_bool (by rw [HO.out]; simp [a1, a2] <;> omega), rfl⟩
set_option maxHeartbeats 1000000 in
theorem MBeyondIndex_any (a : Option Addr) (l : List Int) (c : Nat) (lo hi : Int) (p q : Nat) (w : World) (hl : l.length ≤ 9223372036854775807) (hi' : IntsC w a l) (h1 : w.cell? ⟨p, 0, none⟩ = some (.int .i64 lo)) (h2 : w.cell? ⟨q, 0, none⟩ = some (.int .i64 hi)) :
    Calls Tryz.prog 164 #[.slice a l.length c, .func (.func 160) #[] #[.pointer (some ⟨p, 0, none⟩), .pointer (some ⟨q, 0, none⟩)]] w fun e w' => ∃ k : Int, e = .returned (.int .i64 k) ∧ Hid (decide (0 ≤ k) = l.any (outB lo hi)) ∧ w' = w := by
  go_enter Tryz.func164, Tryz.ntmps164
  go_wp2
  go_loop [8] (fun i => ∃ k : Nat, k ≤ l.length ∧ i = .int .i64 k ∧ Hid (∀ j (_ : j < k) (h : j < l.length), outB lo hi l[j] = false)) (fun i => l.length - (intOf i).toNat)
  case atStart => exact ⟨0, Nat.zero_le _, rfl, Lib.hid (fun j h => absurd h (Nat.not_lt_zero j))⟩
  case round =>
    obtain ⟨k, hk, rfl, HR⟩ := hrel
    by_cases hlt : k < l.length
    · obtain ⟨b, off, rfl, hb, hx⟩ := hi' k hlt
      have B := MBeyond1_any l[k] lo hi p q w h1 h2
      have HT := Lib.hid (fun (h : outB lo hi l[k] = true) => (any_lt hlt h : l.any (outB lo hi) = true))
      have HN := Lib.hid (fun (h : outB lo hi l[k] = false) => show ∀ j (_ : j < k + 1) (h : j < l.length), outB lo hi l[j] = false from fun j hj hjl => if hjk : j < k then HR.out j hjk hjl else (by have e : j = k := (by omega); subst e; exact h))
      generalize outB lo hi l[k] = br at B HT HN
      have B := Lib.hid B
      cases br
      · go_wp2_with (go_at_call 160; go_must (refine B.out.mono ?_; rintro e w2 ⟨rfl, hw2⟩; obtain rfl := hw2.symm; dsimp only))
        go_round
        case rel => exact ⟨k + 1, by omega, by go_num, Lib.hid (HN.out (by trivial))⟩
        case measure => simp [intOf]; omega
      · go_wp2_with (go_at_call 160; go_must (refine B.out.mono ?_; rintro e w2 ⟨rfl, hw2⟩; obtain rfl := hw2.symm; dsimp only))
        go_ret
        exact ⟨_, rfl, Lib.hid (by rw [HT.out (by trivial)]; simp), rfl⟩
    · obtain rfl : k = l.length := by omega
      go_wp2
      go_ret
      exact ⟨_, rfl, Lib.hid (by rw [any_not (fun j h => HR.out j h h)]; simp), rfl⟩
set_option maxHeartbeats 1000000 in
theorem MBeyondContains_any (a : Option Addr) (l : List Int) (c : Nat) (lo hi : Int) (p q : Nat) (w : World) (hl : l.length ≤ 9223372036854775807) (hi' : IntsC w a l) (h1 : w.cell? ⟨p, 0, none⟩ = some (.int .i64 lo)) (h2 : w.cell? ⟨q, 0, none⟩ = some (.int .i64 hi)) :
    Calls Tryz.prog 122 #[.slice a l.length c, .func (.func 160) #[] #[.pointer (some ⟨p, 0, none⟩), .pointer (some ⟨q, 0, none⟩)]] w fun e w' => e = .returned (.bool (l.any (outB lo hi))) ∧ w' = w := by
  have I := Lib.hid (MBeyondIndex_any a l c lo hi p q w hl hi' h1 h2)
  go_enter Tryz.func122, Tryz.ntmps122
  by_cases ha : l.any (outB lo hi) = true
  · go_wp2_with (go_at_call 164; go_must (refine I.out.mono ?_; rintro e w2 ⟨k, rfl, hk, hw2⟩; obtain rfl := hw2.symm; have hk2 : 0 ≤ k := of_decide_eq_true (hk.out.trans ha); dsimp only))
    go_ret
    exact ⟨rfl, rfl⟩
  · go_wp2_with (go_at_call 164; go_must (refine I.out.mono ?_; rintro e w2 ⟨k, rfl, hk, hw2⟩; obtain rfl := hw2.symm; have hk2 : ¬ 0 ≤ k := of_decide_eq_false (hk.out.trans (Bool.eq_false_iff.2 ha)); dsimp only))
    go_ret
    exact ⟨rfl, rfl⟩
set_option maxHeartbeats 1000000 in
theorem MBeyond_any (a : Option Addr) (l : List Int) (c : Nat) (lo hi : Int) (w : World) (hl : l.length ≤ 9223372036854775807) (hi' : IntsC w a l) :
    Calls Tryz.prog 113 #[.int .i64 lo, .int .i64 hi, .slice a l.length c] w fun e w' => e = .returned (.bool (l.any (outB lo hi))) ∧ Below w.heap.size w w' := by
  have g1 : ((w.alloc (.cells #[.int .i64 lo] 3)).alloc (.cells #[.int .i64 hi] 3)).cell? ⟨w.heap.size, 0, none⟩ = some (.int .i64 lo) := blk_cell 0 (blk_below ((Below.refl (w.heap.size + 1) _).alloc (by simp) _) (by omega) (blk_new w _)) rfl
  have g2 : ((w.alloc (.cells #[.int .i64 lo] 3)).alloc (.cells #[.int .i64 hi] 3)).cell? ⟨w.heap.size + 1, 0, none⟩ = some (.int .i64 hi) := by simp
  have C := Lib.hid (MBeyondContains_any a l c lo hi _ _ _ hl (hi'.mono (((Below.refl _ w).alloc (Nat.le_refl _) _).alloc (by simp) _)) g1 g2)
  clear g1 g2
  go_enter Tryz.func113, Tryz.ntmps113
  go_wp2_with (go_at_call 122; go_must (refine C.out.mono ?_; rintro e w2 ⟨rfl, hw2⟩; obtain rfl := hw2.symm; dsimp only))
  go_ret
  exact ⟨rfl, by go_grown⟩
set_option maxHeartbeats 1000000 in
theorem EBeyond1_any (n lo hi : Int) (p q : Nat) (w : World) (h1 : w.cell? ⟨p, 0, none⟩ = some (.int .i64 lo)) (h2 : w.cell? ⟨q, 0, none⟩ = some (.int .i64 hi)) :
    Calls Tryz.prog 123 #[.int .i64 n, .pointer (some ⟨p, 0, none⟩), .pointer (some ⟨q, 0, none⟩)] w fun e w' => e = .returned (.bool (outB lo hi n)) ∧ w' = w := by
  have hp := lt_of_cell h1
  have hq := lt_of_cell h2
  have HO : Hid (outB lo hi n = (decide (n < lo) || decide (hi < n))) := rfl
  generalize outB lo hi n = r at HO ⊢
  by_cases a1 : n < lo
  · go_enter Tryz.func123, Tryz.ntmps123
    go_wp2
    go_ret
    exact ⟨ret_bool (by rw [HO.out]; simp [a1]), rfl⟩
  · by_cases a2 : hi < n
    all_goals
      go_enter Tryz.func123, Tryz.ntmps123
      go_wp2
      go_ret
      exact ⟨ret_bool (by rw [HO.out]; simp [a1, a2] <;> omega), rfl⟩
set_option maxHeartbeats 1000000 in
theorem EBeyondIndex_any (a : Option Addr) (l : List Int) (c : Nat) (lo hi : Int) (p q : Nat) (w : World) (hl : l.length ≤ 9223372036854775807) (hi' : IntsC w a l) (h1 : w.cell? ⟨p, 0, none⟩ = some (.int .i64 lo)) (h2 : w.cell? ⟨q, 0, none⟩ = some (.int .i64 hi)) :
    Calls Tryz.prog 164 #[.slice a l.length c, .func (.func 123) #[] #[.pointer (some ⟨p, 0, none⟩), .pointer (some ⟨q, 0, none⟩)]] w fun e w' => ∃ k : Int, e = .returned (.int .i64 k) ∧ Hid (decide (0 ≤ k) = l.any (outB lo hi)) ∧ w' = w := by
  go_enter Tryz.func164, Tryz.ntmps164
  go_wp2
  go_loop [8] (fun i => ∃ k : Nat, k ≤ l.length ∧ i = .int .i64 k ∧ Hid (∀ j (_ : j < k) (h : j < l.length), outB lo hi l[j] = false)) (fun i => l.length - (intOf i).toNat)
  case atStart => exact ⟨0, Nat.zero_le _, rfl, Lib.hid (fun j h => absurd h (Nat.not_lt_zero j))⟩
  case round =>
    obtain ⟨k, hk, rfl, HR⟩ := hrel
    by_cases hlt : k < l.length
    · obtain ⟨b, off, rfl, hb, hx⟩ := hi' k hlt
      have B := EBeyond1_any l[k] lo hi p q w h1 h2
      have HT := Lib.hid (fun (h : outB lo hi l[k] = true) => (any_lt hlt h : l.any (outB lo hi) = true))
      have HN := Lib.hid (fun (h : outB lo hi l[k] = false) => show ∀ j (_ : j < k + 1) (h : j < l.length), outB lo hi l[j] = false from fun j hj hjl => if hjk : j < k then HR.out j hjk hjl else (by have e : j = k := (by omega); subst e; exact h))
      generalize outB lo hi l[k] = br at B HT HN
      have B := Lib.hid B
      cases br
      · go_wp2_with (go_at_call 123; go_must (refine B.out.mono ?_; rintro e w2 ⟨rfl, hw2⟩; obtain rfl := hw2.symm; dsimp only))
        go_round
        case rel => exact ⟨k + 1, by omega, by go_num, Lib.hid (HN.out (by trivial))⟩
        case measure => simp [intOf]; omega
      · go_wp2_with (go_at_call 123; go_must (refine B.out.mono ?_; rintro e w2 ⟨rfl, hw2⟩; obtain rfl := hw2.symm; dsimp only))
        go_ret
        exact ⟨_, rfl, Lib.hid (by rw [HT.out (by trivial)]; simp), rfl⟩
    · obtain rfl : k = l.length := by omega
      go_wp2
      go_ret
      exact ⟨_, rfl, Lib.hid (by rw [any_not (fun j h => HR.out j h h)]; simp), rfl⟩
set_option maxHeartbeats 1000000 in
theorem EBeyondContains_any (a : Option Addr) (l : List Int) (c : Nat) (lo hi : Int) (p q : Nat) (w : World) (hl : l.length ≤ 9223372036854775807) (hi' : IntsC w a l) (h1 : w.cell? ⟨p, 0, none⟩ = some (.int .i64 lo)) (h2 : w.cell? ⟨q, 0, none⟩ = some (.int .i64 hi)) :
    Calls Tryz.prog 122 #[.slice a l.length c, .func (.func 123) #[] #[.pointer (some ⟨p, 0, none⟩), .pointer (some ⟨q, 0, none⟩)]] w fun e w' => e = .returned (.bool (l.any (outB lo hi))) ∧ w' = w := by
  have I := Lib.hid (EBeyondIndex_any a l c lo hi p q w hl hi' h1 h2)
  go_enter Tryz.func122, Tryz.ntmps122
  by_cases ha : l.any (outB lo hi) = true
  · go_wp2_with (go_at_call 164; go_must (refine I.out.mono ?_; rintro e w2 ⟨k, rfl, hk, hw2⟩; obtain rfl := hw2.symm; have hk2 : 0 ≤ k := of_decide_eq_true (hk.out.trans ha); dsimp only))
    go_ret
    exact ⟨rfl, rfl⟩
  · go_wp2_with (go_at_call 164; go_must (refine I.out.mono ?_; rintro e w2 ⟨k, rfl, hk, hw2⟩; obtain rfl := hw2.symm; have hk2 : ¬ 0 ≤ k := of_decide_eq_false (hk.out.trans (Bool.eq_false_iff.2 ha)); dsimp only))
    go_ret
    exact ⟨rfl, rfl⟩
set_option maxHeartbeats 1000000 in
theorem EBeyond_any (a : Option Addr) (l : List Int) (c : Nat) (lo hi : Int) (w : World) (hl : l.length ≤ 9223372036854775807) (hi' : IntsC w a l) :
    Calls Tryz.prog 76 #[.int .i64 lo, .int .i64 hi, .slice a l.length c] w fun e w' => e = .returned (.bool (l.any (outB lo hi))) ∧ Below w.heap.size w w' := by
  have g1 : ((w.alloc (.cells #[.int .i64 lo] 3)).alloc (.cells #[.int .i64 hi] 3)).cell? ⟨w.heap.size, 0, none⟩ = some (.int .i64 lo) := blk_cell 0 (blk_below ((Below.refl (w.heap.size + 1) _).alloc (by simp) _) (by omega) (blk_new w _)) rfl
  have g2 : ((w.alloc (.cells #[.int .i64 lo] 3)).alloc (.cells #[.int .i64 hi] 3)).cell? ⟨w.heap.size + 1, 0, none⟩ = some (.int .i64 hi) := by simp
  have C := Lib.hid (EBeyondContains_any a l c lo hi _ _ _ hl (hi'.mono (((Below.refl _ w).alloc (Nat.le_refl _) _).alloc (by simp) _)) g1 g2)
  clear g1 g2
  go_enter Tryz.func76, Tryz.ntmps76
  go_wp2_with (go_at_call 122; go_must (refine C.out.mono ?_; rintro e w2 ⟨rfl, hw2⟩; obtain rfl := hw2.symm; dsimp only))
  go_ret
  exact ⟨rfl, by go_grown⟩
theorem outB_eq (lo hi n : Int) : outB lo hi n = !inB n lo hi := by
  unfold outB inB
  rw [Bool.eq_iff_iff]
  simp
theorem MBeyondOne_any (x lo hi : Int) (a : Nat) (w : World) (h : w.cell? ⟨a, 0, none⟩ = some (.int .i64 x)) :
    Calls Tryz.prog 113 #[.int .i64 lo, .int .i64 hi, .slice (some ⟨a, 0, none⟩) 1 1] w fun e w' => e = .returned (.bool (!inB x lo hi)) ∧ Below w.heap.size w w' := by
  have := MBeyond_any (some ⟨a, 0, none⟩) [x] 1 lo hi w (by simp) (fun i hi => by have e : i = 0 := (by simp at hi; omega); subst e; exact ⟨a, 0, rfl, lt_of_cell h, by simpa using h⟩)
  simpa [outB_eq] using this
end Go.Proofs.YtklconegomgjaaaGreat
namespace Go.Proofs.YtklconegomgjaaaGreat
open Go Go.RowKit
theorem EBeyondOne_any (x lo hi : Int) (a : Nat) (w : World) (h : w.cell? ⟨a, 0, none⟩ = some (.int .i64 x)) :
    Calls Tryz.prog 76 #[.int .i64 lo, .int .i64 hi, .slice (some ⟨a, 0, none⟩) 1 1] w fun e w' => e = .returned (.bool (!inB x lo hi)) ∧ Below w.heap.size w w' := by
  have := EBeyond_any (some ⟨a, 0, none⟩) [x] 1 lo hi w (by simp) (fun i hi => by have e : i = 0 := (by simp at hi; omega); subst e; exact ⟨a, 0, rfl, lt_of_cell h, by simpa using h⟩)
  simpa [outB_eq] using this
end Go.Proofs.YtklconegomgjaaaGreat
namespace Go.Proofs.YtklconegomgjaaaGreat
open Go Go.RowKit

set_option maxHeartbeats 400000 in
theorem In_any (n lo hi : Int) (w : World) : Calls Tryz.prog 19 #[.int .i64 n, .int .i64 lo, .int .i64 hi] w fun e w' => e = .returned (.bool (inB n lo hi)) ∧ w' = w := by
  have h := @inB_iff n lo hi
  have h2 := @inB_no n lo hi
  generalize inB n lo hi = c at h h2 ⊢
  go_enter Tryz.func19, Tryz.ntmps19
  cases c
  · have h3 : n < lo ∨ hi < n := by simpa using h2
    clear h h2
    go_wp2
    all_goals (go_ret; simp <;> omega)
  · have h3 : lo ≤ n ∧ n ≤ hi := by simpa using h
    obtain ⟨h4, h5⟩ := h3
    clear h h2
    go_wp2
    all_goals (go_ret; simp)

set_option maxHeartbeats 400000 in
theorem Has_any (a : Option Addr) (l : List Int) (c : Nat) (n : Int) (w : World) (hl : l.length ≤ 9223372036854775807) (hi : IntsC w a l) :
    Calls Tryz.prog 17 #[.slice a l.length c, .int .i64 n] w fun e w' => e = .returned (.bool (hasB l n)) ∧ w' = w := by
  obtain ⟨F, hF⟩ : ∃ F : Nat → Bool, F = fun j => hasB (l.take j) n := ⟨_, rfl⟩
  have F0 : Hid (F 0 = false) := by rw [hF]; exact (rfl : hasB (l.take 0) n = false)
  have Fs : Hid (∀ j (h : j < l.length), F (j+1) = (F j || (l[j] == n))) := by rw [hF]; exact fun j h => hasB_snoc l j h n
  have Fe : Hid (F l.length = hasB l n) := by rw [hF]; show hasB (l.take l.length) n = hasB l n; rw [List.take_length]
  clear hF
  go_enter Tryz.func17, Tryz.ntmps17
  go_wp2
  go_loop [5, 6] (fun m i => ∃ k : Nat, k ≤ l.length ∧ i = .int .i64 k ∧ m = .bool (F k)) (fun _ i => l.length - (intOf i).toNat)
  case atStart => exact ⟨0, Nat.zero_le _, rfl, val_bool F0.out.symm⟩
  case round =>
    obtain ⟨k, hk, rfl, rfl⟩ := hrel
    by_cases hlt : k < l.length
    · obtain ⟨b, off, rfl, _, h1⟩ := hi k hlt
      have H := Lib.hid (Fs.out k hlt)
      generalize F k = c0 at H ⊢
      generalize l[k] = x at H h1
      cases c0
      all_goals go_wp2
      all_goals go_round
      all_goals try (simp [intOf]; omega; done)
      all_goals exact ⟨k+1, by omega, by go_num, val_bool (by rw [H.out]; simp)⟩
    · go_wp2
      go_ret
      exact ⟨ret_bool (by rw [← Fe.out]; congr 1; omega), rfl⟩

set_option maxHeartbeats 400000 in
theorem Bit_any (n k : Int) (w : World) (hk : 0 ≤ k) (hk2 : k ≤ 1000) (h1 : -9223372036854775808 ≤ n) (h2 : n ≤ 9223372036854775807) :
    Calls Tryz.prog 180 #[.int .i64 n, .int .i64 k] w fun e w' => e = .returned (.bool (bitB n k.toNat)) ∧ w' = w := by
  obtain ⟨r, hr⟩ : ∃ r, r = bitB n k.toNat := ⟨_, rfl⟩
  rw [← hr]
  obtain ⟨K, rfl⟩ := Int.eq_ofNat_of_zero_le hk
  have Hr := Lib.hid hr
  clear hr
  go_enter Tryz.func180, Tryz.ntmps180
  go_wp2
  go_loop [0, 5] (fun m i => ∃ (j : Nat) (x : Int), j ≤ K ∧ i = .int .i64 j ∧ m = .int .i64 x ∧ -9223372036854775808 ≤ x ∧ x ≤ 9223372036854775807 ∧ Hid (r = bitB x (K - j))) (fun _ i => K - (intOf i).toNat)
  case atStart => exact ⟨0, n, Nat.zero_le _, rfl, rfl, h1, h2, Lib.hid (by simpa using Hr.out)⟩
  case round =>
    obtain ⟨j, x, hj, rfl, rfl, hx1, hx2, HR⟩ := hrel
    by_cases hlt : j < K
    · have hb := half_bd x hx1 hx2
      go_wp2
      go_round
      case rel => exact ⟨j+1, x.tdiv 2, by omega, by go_num, rfl, hb.1, hb.2, Lib.hid (by rw [HR.out, show K - j = (K - (j+1)) + 1 from by omega, bit_succ])⟩
      case measure => simp [intOf]; omega
    · go_wp2
      go_ret
      exact ⟨ret_bool (by rw [HR.out, show K - j = 0 from by omega, bit_zero]; exact (Bool.beq_eq_decide_eq _ _)), rfl⟩

theorem rising_drop (below : Int) (l : List Int) (last : Int) (k : Nat) (h : k < l.length) :
    risingFrom last below (l.drop k) = (decide (last < l[k]) && decide (l[k] < below) && risingFrom l[k] below (l.drop (k+1))) := by
  rw [List.drop_eq_getElem_cons h, risingFrom]

set_option maxHeartbeats 800000 in
theorem Less_any (a b : Option Addr) (l m : List Int) (c d : Nat) (w : World) (hl : l.length ≤ 9223372036854775807) (hm : m.length ≤ 9223372036854775807) (hi : IntsC w a l) (hj : IntsC w b m) :
    Calls Tryz.prog 75 #[.slice a l.length c, .slice b m.length d] w fun e w' => e = .returned (.bool (less l m)) ∧ ∃ q, w' = w.drewN q := by
  obtain ⟨r, hr⟩ : ∃ r, r = less l m := ⟨_, rfl⟩
  rw [← hr]
  have Hr := Lib.hid hr
  clear hr
  go_enter Tryz.func75, Tryz.ntmps75
  go_wp2
  go_loopw [5] (fun i wr => ∃ (k q : Nat), k ≤ l.length ∧ k ≤ m.length ∧ i = .int .i64 k ∧ wr = w.drewN q ∧ Hid (r = less (l.drop k) (m.drop k))) (fun i _ => l.length - (intOf i).toNat)
  case atStart => exact ⟨0, 0, Nat.zero_le _, Nat.zero_le _, rfl, rfl, Lib.hid (by rw [Hr.out]; rfl)⟩
  case round =>
    obtain ⟨k, q, hk, hk2, rfl, rfl, HR⟩ := hrel
    by_cases h1 : k < l.length
    · by_cases h2 : k < m.length
      · obtain ⟨b1, off1, rfl, _, g1⟩ := hi k h1
        obtain ⟨b2, off2, rfl, _, g2⟩ := hj k h2
        have H := Lib.hid (less_drop l m k h1 h2)
        generalize l[k] = x at H g1
        generalize m[k] = y at H g2
        by_cases hxy : x = y
        · subst hxy
          have H := Lib.hid (H.out.trans (if_pos rfl))
          go_wp2
          go_quiet (fail)
          go_wp2
          go_roundw
          case rel => exact ⟨k+1, q + nq, by omega, by omega, by go_num, by simp, Lib.hid (HR.out.trans H.out)⟩
          case measure => simp [intOf]; omega
        · have hb : (x == y) = false := by simpa using hxy
          have H := Lib.hid (H.out.trans (if_neg hxy))
          have hd : ((k : Int) == (m.length : Int)) = false := by simp; omega
          have hd2 : ((k : Int) == (l.length : Int)) = false := by simp; omega
          go_wp2
          go_quiet (fail)
          go_wp2
          go_quiet (fail)
          go_wp2
          go_ret
          exact ⟨ret_bool (by rw [HR.out, H.out]), _, by first | rfl | (simp; rfl)⟩
      · have hd : decide ((k : Int) < (m.length : Int)) = false := by simp; omega
        have hd2 : ((k : Int) == (m.length : Int)) = true := by simp; omega
        go_wp2
        go_quiet (fail)
        go_wp2
        go_ret
        exact ⟨ret_bool (by rw [HR.out, less_end _ _ _ (by omega)]), _, by first | rfl | (simp; rfl)⟩
    · have hd0 : decide ((k : Int) < (l.length : Int)) = false := by simp; omega
      by_cases h2 : k < m.length
      · have hd2 : ((k : Int) == (m.length : Int)) = false := by simp; omega
        have hd3 : ((k : Int) == (l.length : Int)) = true := by simp; omega
        go_wp2
        go_quiet (fail)
        go_wp2
        go_quiet (fail)
        go_wp2
        go_ret
        exact ⟨ret_bool (by rw [HR.out, less_short _ _ _ (by omega) h2]), _, by first | rfl | (simp; rfl)⟩
      · have hd2 : ((k : Int) == (m.length : Int)) = true := by simp; omega
        go_wp2
        go_quiet (fail)
        go_wp2
        go_ret
        exact ⟨ret_bool (by rw [HR.out, less_end _ _ _ (by omega)]), _, by first | rfl | (simp; rfl)⟩

theorem Calls.quiet_drewN {P : Program} {f : FuncId} {args : Array Value} {w : World} {n : Nat} {v : Value}
    (h : Calls P f args (w.drewN n) fun e w' => e = .returned v ∧ ∃ q, w' = (w.drewN n).drewN q) : Calls P f args (w.drewN n) fun e w'' => e = .returned v ∧ ∃ q, w'' = w.drewN q := Calls.quiet_of h

set_option maxHeartbeats 800000 in
theorem Ints_any (a b : Option Addr) (l m : List Int) (c d : Nat) (w : World) (hl : l.length ≤ 9223372036854775807) (hm : m.length ≤ 9223372036854775807) (hi : IntsC w a l) (hj : IntsC w b m) :
    Calls Tryz.prog 28 #[.slice a l.length c, .slice b m.length d] w fun e w' => e = .returned (.bool (intsB l m)) ∧ ∃ q, w' = w.drewN q := by
  go_enter Tryz.func28, Tryz.ntmps28
  by_cases h : l.length = m.length
  · have hd := eqn_t h
    have h1 : less l m = less l m := rfl
    have H : Hid (intsB l m = (!less l m && !less m l)) := by show intsB l m = _; simp [intsB, h]
    have C1 := fun w' hi hj => Less_any a b l m c d w' hl hm hi hj
    have C2 := fun w' hi hj => Less_any b a m l d c w' hm hl hi hj
    generalize less l m = b1 at *
    generalize less m l = b2 at *
    have C1 := Lib.hid C1
    have C2 := Lib.hid C2
    clear h h1
    cases b1
    · go_wp2_with fail
      refine (C1.out _ hi hj).mono ?_
      rintro e w' ⟨rfl, q, rfl⟩
      go_wp2_with fail
      refine (C2.out _ (fun i h => by simpa using hj i h) (fun i h => by simpa using hi i h)).mono ?_
      rintro e w' ⟨rfl, q2, rfl⟩
      go_wp2
      go_ret
      exact ⟨ret_bool (by rw [H.out]; simp), q + q2, by simp⟩
    · go_wp2_with fail
      refine (C1.out _ hi hj).mono ?_
      rintro e w' ⟨rfl, q, rfl⟩
      go_wp2
      go_ret
      exact ⟨ret_bool (by rw [H.out]; simp), q, by simp⟩
  · have hd := eqn_f h
    have H : Hid (intsB l m = false) := by show intsB l m = _; simp [intsB, h]
    clear h
    go_wp2
    go_ret
    exact ⟨ret_bool H.out.symm, 0, rfl⟩
end Go.Proofs.YtklconegomgjaaaGreat
