/- What is proved here: plain facts of layer 9: when a hall has no error, how late ships would have to sail, who is sent away, and who is enough. No program. No condition. -/
/- What is proved here: plain facts for TopDictated: the hall whose customers tell letters of forms, these letters, and that all are sealed in time. No program. No condition. -/
/- What is proved here: contracts of ref02's Word, words, Roomy and part: what is said to be fine is fine. Conditions: the part lies in memory; its numbers are numbers of 64 bits. -/
/- What is proved here: contracts of the laws' turn and said of layer 2, of ref02's Rooms; lists of words that a call has made. Conditions: the form and the turns lie in memory. -/
import Derived.Test.YtelmponkmmfffaaGreatDeFlatG
import Derived.Test.YtelmponkmmfffaaGreatLeOffG
import Derived.Test.YtelmponkmmfffaaGreatLeMakeG
import Derived.DeepKeys
import Derived.Test.YtelmponkmmfffaaGreatLeOfG
import Derived.Test.YtelmponkmmfffaaGreatDfOG
set_option linter.unusedVariables false
set_option linter.unusedSimpArgs false
namespace Go.Proofs.YtelmponkmmfffaaGreat

/-- Names in order: each well formed, none twice. -/
def namesOk (l : List ByteArray) : Prop := ∀ i (hi : i < l.length), fresh l[i] (l.take i) = 0
theorem deErr_iff {h : DeH} : deErr h = 0 ↔ DeValid h ∧ namesOk (h.writers.map (·.name)) ∧ namesOk (h.customers.map (·.name)) := by
  constructor
  · intro he
    refine ⟨deValid_of he, ?_⟩
    unfold deErr deCheck at he
    by_cases h0 : inB h.wax 0 5 = true
    · rw [if_pos h0] at he
      obtain ⟨w1, w2, he⟩ := checkPart_zero he
      obtain ⟨c1, c2, _⟩ := checkPart_zero he
      constructor
      · intro i hi
        have hi2 : i < h.writers.length := by simpa using hi
        have := w2 i hi2
        unfold deWErr at this
        rw [List.getElem?_eq_getElem hi2] at this
        simp only at this
        rw [List.getElem_map, ← List.map_take]
        by_cases hf : fresh h.writers[i].name ((h.writers.take i).map (·.name)) = 0
        · exact hf
        · rw [if_neg hf] at this; exact absurd this hf
      · intro i hi
        have hi2 : i < h.customers.length := by simpa using hi
        have := c2 i hi2
        unfold deCErr at this
        rw [List.getElem?_eq_getElem hi2] at this
        simp only at this
        rw [List.getElem_map, ← List.map_take]
        by_cases hf : fresh h.customers[i].name ((h.customers.take i).map (·.name)) = 0
        · exact hf
        · rw [if_neg hf] at this; exact absurd this hf
    · rw [if_neg h0] at he; simp at he
  · rintro ⟨hv, hw, hc⟩
    have e1 : ∀ i, i < h.writers.length → deWErr h i = 0 := fun i hi => by
      have := hw i (by simpa using hi)
      rw [List.getElem_map, ← List.map_take] at this
      unfold deWErr
      rw [List.getElem?_eq_getElem hi]
      simp only
      rw [if_pos this]
      have k := hv.w i hi
      unfold deWErrOf endsE
      rw [if_pos (inB_iff.2 ⟨k.1, k.2.1⟩), if_pos (by rw [Bool.and_eq_true, inB_iff, inB_iff]; omega), if_neg (by omega)]
    have e2 : ∀ i, i < h.customers.length → deCErr h i = 0 := fun i hi => by
      have := hc i (by simpa using hi)
      rw [List.getElem_map, ← List.map_take] at this
      unfold deCErr
      rw [List.getElem?_eq_getElem hi]
      simp only
      rw [if_pos this]
      have k := hv.c i hi
      unfold deCErrOf endsE
      rw [if_pos (by rw [Bool.and_eq_true, inB_iff, inB_iff]; omega), if_pos (by rw [Bool.and_eq_true, inB_iff, inB_iff]; omega), if_neg (by omega)]
    unfold deErr deCheck
    rw [if_pos (inB_iff.2 hv.wax), checkPart_ok hv.nw e1, checkPart_ok hv.nc e2]
end Go.Proofs.YtelmponkmmfffaaGreat
namespace Go.Proofs.YtelmponkmmfffaaGreat
/-- A form by its number. -/
def formAt (s : LeS) (n : Nat) : LeF := s.forms[n]?.getD ⟨noW, []⟩
theorem formAt_is {s : LeS} {n : Nat} (h : n < s.forms.length) : formAt s n = s.forms[n] := by unfold formAt; rw [List.getElem?_eq_getElem h]; rfl
/-- Which form a customer's letter has, and its parts. -/
def whichF (s : LeS) (h : DeH) (i : Nat) : Nat := ((customerAt h i).kind.toNat + i) % s.forms.length
def tParts (s : LeS) (h : DeH) (i : Nat) : List LeP := (formAt s (whichF s h i)).parts
theorem which_lt {s : LeS} (h0 : 0 < s.forms.length) (h : DeH) (i : Nat) : whichF s h i < s.forms.length := Nat.mod_lt _ h0
/-- The customers who tell letters. -/
def toldC (s : LeS) (h : DeH) (i : Nat) : DeC := ⟨(customerAt h i).name, (customerAt h i).kind, 1 + howLo (tParts s h i), 1 + howHi (tParts s h i), (customerAt h i).ship⟩
def toldTo (s : LeS) (h : DeH) (k : Nat) : List DeC := (List.range k).map (toldC s h)
def toldH (s : LeS) (h : DeH) : DeH := ⟨h.wax, h.writers, toldTo s h h.customers.length⟩
theorem toldTo_len (s : LeS) (h : DeH) (k : Nat) : (toldTo s h k).length = k := by unfold toldTo; simp
theorem toldTo_succ (s : LeS) (h : DeH) (k : Nat) : toldTo s h (k + 1) = toldTo s h k ++ [toldC s h k] := by unfold toldTo; rw [List.range_succ, List.map_append]; rfl
theorem toldTo_get (s : LeS) (h : DeH) {k i : Nat} (hi : i < k) : (toldTo s h k)[i]? = some (toldC s h i) := by unfold toldTo; simp [hi]
theorem told_at (s : LeS) (h : DeH) {i : Nat} (hi : i < h.customers.length) : customerAt (toldH s h) i = toldC s h i := by
  show ((toldTo s h h.customers.length)[i]?).getD _ = _
  rw [toldTo_get s h hi]
  rfl
theorem told_get (s : LeS) (h : DeH) {i : Nat} (hi : i < h.customers.length) (h2 : i < (toldH s h).customers.length) : (toldH s h).customers[i] = toldC s h i := by
  have h3 : (toldH s h).customers[i]? = some (toldC s h i) := toldTo_get s h hi
  rw [List.getElem?_eq_getElem h2] at h3
  exact Option.some.inj h3
/-- Bytes from one on, all around. -/
def rotL (x : List Int) (i : Nat) : List Int := (List.range x.length).map fun k => x[(k + i) % x.length]?.getD 0
theorem rotL_len (x : List Int) (i : Nat) : (rotL x i).length = x.length := by unfold rotL; simp
theorem rotL_succ {x : List Int} {i k : Nat} (h : k < x.length) : ∃ h2 : (k + i) % x.length < x.length, (rotL x i).take (k + 1) = (rotL x i).take k ++ [x[(k + i) % x.length]] := by
  have h2 : (k + i) % x.length < x.length := Nat.mod_lt _ (by omega)
  refine ⟨h2, ?_⟩
  rw [List.take_succ_eq_append_getElem (by rw [rotL_len]; exact h)]
  congr 2
  unfold rotL
  simp [h2]
theorem rotL_mem {x : List Int} {i : Nat} (hb : ∀ y ∈ x, 0 ≤ y ∧ y ≤ 255) : ∀ y ∈ rotL x i, 0 ≤ y ∧ y ≤ 255 := fun y hy => by
  unfold rotL at hy
  obtain ⟨k, hk, rfl⟩ := List.mem_map.1 hy
  have hk := List.mem_range.1 hk
  have h2 : (k + i) % x.length < x.length := Nat.mod_lt _ (by omega)
  rw [List.getElem?_eq_getElem h2]
  exact hb _ (List.getElem_mem h2)
/-- What a customer tells. -/
def fillW (s : LeS) (h : DeH) (x : List Int) (i : Nat) : List (List ByteArray) := anyFrom (rotL x i) (roomsF (tParts s h i)) 0
def letW (s : LeS) (h : DeH) (x : List Int) (i : Nat) : List ByteArray := makeF (tParts s h i) (fillW s h x i)
def longTo (s : LeS) (h : DeH) (x : List Int) (k : Nat) : List Int := (List.range k).map fun i => 1 + ((letW s h x i).length : Int)
theorem longTo_len (s : LeS) (h : DeH) (x : List Int) (k : Nat) : (longTo s h x k).length = k := by unfold longTo; simp
theorem longTo_succ (s : LeS) (h : DeH) (x : List Int) (k : Nat) : longTo s h x (k + 1) = longTo s h x k ++ [1 + ((letW s h x k).length : Int)] := by unfold longTo; rw [List.range_succ, List.map_append]; rfl
theorem longTo_at (s : LeS) (h : DeH) (x : List Int) {k i : Nat} (hi : i < k) : ∃ h2 : i < (longTo s h x k).length, (longTo s h x k)[i] = 1 + ((letW s h x i).length : Int) := by
  refine ⟨by rw [longTo_len]; exact hi, ?_⟩
  unfold longTo
  simp
section
variable {s : LeS} {h : DeH} {x : List Int}
theorem tParts_ok (hv : LeValid s) (h0 : 0 < s.forms.length) (i : Nat) : LeFOk (formAt s (whichF s h i)) := by
  have hl := which_lt h0 h i
  rw [formAt_is hl]
  exact (hv.form _ hl).2.2
theorem tPart_ok (hv : LeValid s) (h0 : 0 < s.forms.length) (i : Nat) : ∀ p ∈ tParts s h i, LePOk p := fun p hp => by
  obtain ⟨k, hk, rfl⟩ := List.getElem_of_mem hp
  exact (tParts_ok hv h0 i).part k hk
theorem fill_put (hv : LeValid s) (h0 : 0 < s.forms.length) (i : Nat) : PutOk (roomsF (tParts s h i)) (fillW s h x i) :=
  any_put _ _ _ (fun r hr => by have := rooms_ok _ (tPart_ok hv h0 i) r hr; omega)
theorem let_how (hv : LeValid s) (h0 : 0 < s.forms.length) (i : Nat) : howLo (tParts s h i) ≤ ((letW s h x i).length : Int) ∧ ((letW s h x i).length : Int) ≤ howHi (tParts s h i) := by
  have := make_len _ _ (tPart_ok (h := h) hv h0 i) (fill_put (h := h) (x := x) hv h0 i)
  exact ⟨this.1, this.2.1⟩
theorem how_small (hv : LeValid s) (h0 : 0 < s.forms.length) (i : Nat) : 0 ≤ howLo (tParts s h i) ∧ howLo (tParts s h i) ≤ howHi (tParts s h i) ∧ howHi (tParts s h i) ≤ 15 := by
  have h1 := how_bd _ (tPart_ok (h := h) hv h0 i)
  have h2 := (tParts_ok (h := h) hv h0 i).many
  have h3 : (tParts s h i).length ≤ 5 := h2
  omega
theorem let_ok (hv : LeValid s) (h0 : 0 < s.forms.length) (i : Nat) : letB (letW s h x i) = true := make_let (tParts_ok hv h0 i) (fill_put hv h0 i)
theorem let_ways (hv : LeValid s) (h0 : 0 < s.forms.length) (i : Nat) : 1 ≤ (waysF (tParts s h i) (letW s h x i)).length := make_ways (fill_put hv h0 i)
theorem let_small (hv : LeValid s) (h0 : 0 < s.forms.length) (i : Nat) : (letW s h x i).length ≤ 15 := by
  have h1 := let_how (x := x) (h := h) hv h0 i
  have h2 := how_small (h := h) hv h0 i
  omega
/-- The hall has no error. -/
theorem told_err (he : deErr h = 0) (hv : LeValid s) (h0 : 0 < s.forms.length) : deErr (toldH s h) = 0 := by
  obtain ⟨hd, hw, hc⟩ := deErr_iff.1 he
  refine deErr_iff.2 ⟨⟨hd.nw, ?_, hd.wax, hd.w, fun i hi => ?_⟩, hw, ?_⟩
  · show (toldTo s h _).length ≤ 5
    rw [toldTo_len]
    exact hd.nc
  · have hi2 : i < h.customers.length := by
      have : i < (toldTo s h h.customers.length).length := hi
      rwa [toldTo_len] at this
    have e := told_get s h hi2 hi
    have ec : customerAt h i = h.customers[i] := by unfold customerAt; rw [List.getElem?_eq_getElem hi2]; rfl
    have h1 := hd.c i hi2
    have h2 := how_small (h := h) hv h0 i
    rw [e]
    unfold toldC
    rw [ec]
    simp only
    omega
  · have e : (toldH s h).customers.map (·.name) = h.customers.map (·.name) := by
      show (toldTo s h h.customers.length).map (·.name) = _
      refine List.ext_getElem? (fun i => ?_)
      rw [List.getElem?_map, List.getElem?_map]
      by_cases hi : i < h.customers.length
      · rw [toldTo_get s h hi, List.getElem?_eq_getElem hi]
        show some (customerAt h i).name = _
        unfold customerAt
        rw [List.getElem?_eq_getElem hi]
        rfl
      · rw [List.getElem?_eq_none (by rw [toldTo_len]; omega), List.getElem?_eq_none (by omega)]
    rw [e]
    exact hc
/-- One more letter of a writer is in time. -/
theorem dict_step {H : DeH} {t n v : Int} {l : List Int} {i : Nat} (hi : i < l.length) (hin : inTime H t (l.drop i)) (h0 : n ≤ t) (hv : v ≤ (customerAt H l[i].toNat).hi) :
    n + v + H.wax ≤ (customerAt H l[i].toNat).ship ∧ inTime H (t + (customerAt H l[i].toNat).hi + H.wax) (l.drop (i + 1)) ∧ n + v + H.wax ≤ t + (customerAt H l[i].toNat).hi + H.wax ∧ t + (customerAt H l[i].toNat).hi + H.wax ≤ (customerAt H l[i].toNat).ship := by
  rw [List.drop_eq_getElem_cons hi] at hin
  obtain ⟨h1, h2⟩ := hin
  exact ⟨by omega, h2, by omega, h1⟩
end
end Go.Proofs.YtelmponkmmfffaaGreat
namespace Go.Proofs.YtelmponkmmfffaaGreat
open Go Go.RowKit Go.Shelf Go.PlainAid
/-- What says so only where it is so. -/
def SaysB (P : Prop) (e : Ending) : Prop := ∃ r : Bool, e = .returned (.bool r) ∧ (r = true → P)
theorem says_no {P : Prop} {e : Ending} (h : e = .returned (.bool false)) : SaysB P e := ⟨false, h, fun h => by cases h⟩
theorem says {P : Prop} {e : Ending} (r : Bool) (h : e = .returned (.bool r)) (g : r = true → P) : SaysB P e := ⟨r, h, g⟩
theorem word_of {s : ByteArray} (h1 : 1 ≤ s.size) (h2 : s.size ≤ 8) (h3 : ∀ k (hk : k < s.size), 97 ≤ s[k].toNat ∧ s[k].toNat ≤ 122) : wordB s = true := by
  unfold wordB
  simp only [Bool.and_eq_true, decide_eq_true_eq, List.all_eq_true]
  refine ⟨⟨h1, h2⟩, fun c hc => ?_⟩
  obtain ⟨k, hk, rfl⟩ := List.getElem_of_mem hc
  exact h3 k (by simpa using hk)
set_option maxHeartbeats 1000000 in
theorem LWordR_any (s : ByteArray) (w : World) :
    Calls Tryz.prog 112 #[.string s] w fun e w' => SaysB (wordB s = true) e ∧ w' = w := by
  have C0 := fun W => In_any (s.size : Int) 1 8 W
  have h0 := @inB_iff (s.size : Int) 1 8
  generalize inB (s.size : Int) 1 8 = c0 at C0 h0
  replace C0 := Lib.hid C0
  go_enter Tryz.func112, Tryz.ntmps112
  cases c0
  · clear h0
    go_wp2_with (go_at_call 14; go_must ((with_reducible refine (C0.out _).mono ?_); rintro e w' ⟨rfl, hw9⟩; obtain rfl := hw9.symm; dsimp only))
    go_ret
    exact ⟨says_no rfl, rfl⟩
  · have HL := Lib.hid (h0.1 rfl)
    have hs8 : s.size ≤ 8 := by have := HL.out; omega
    clear h0
    go_wp2_with (go_at_call 14; go_must ((with_reducible refine (C0.out _).mono ?_); rintro e w' ⟨rfl, hw9⟩; obtain rfl := hw9.symm; dsimp only))
    go_loop [3] (fun i => ∃ k : Nat, k ≤ s.size ∧ i = .int .i64 k ∧ Hid (∀ j (h : j < s.size), j < k → 97 ≤ s[j].toNat ∧ s[j].toNat ≤ 122)) (fun i => s.size - (intOf i).toNat)
    case atStart => exact ⟨0, Nat.zero_le _, rfl, Lib.hid (fun j h g => absurd g (Nat.not_lt_zero j))⟩
    case round =>
      obtain ⟨k, hk, rfl, HK⟩ := hrel
      by_cases hlt : k < s.size
      · have HK2 := Lib.hid (fun (h : 97 ≤ s[k].toNat ∧ s[k].toNat ≤ 122) => show ∀ j (h : j < s.size), j < k + 1 → 97 ≤ s[j].toNat ∧ s[j].toNat ≤ 122 from fun j hj hjk => if g : j < k then HK.out j hj g else (by have e : j = k := (by omega); subst e; exact h))
        generalize hR : s[k].toNat = R at HK2
        by_cases hc : (R : Int) < 97
        · clear HK2
          go_wp2
          go_ret
          exact ⟨says_no rfl, rfl⟩
        · by_cases hd : 122 < (R : Int)
          · clear HK2
            go_wp2
            go_ret
            exact ⟨says_no rfl, rfl⟩
          · have HK3 := Lib.hid (HK2.out (by omega))
            clear HK2 HK
            go_wp2
            go_round
            case rel => exact ⟨k + 1, by omega, by go_num, HK3⟩
            case measure => simp [intOf]; omega
      · obtain rfl : k = s.size := by omega
        go_wp2
        go_ret
        exact ⟨says true rfl (fun _ => word_of (by have := HL.out; omega) (by have := HL.out; omega) (fun j hj => HK.out j hj hj)), rfl⟩
set_option maxHeartbeats 1000000 in
theorem LWordsR_any (a : Option Addr) (l : List ByteArray) (c : Nat) (w : World) (hl : l.length ≤ 9223372036854775807) (hi : StrsC w a l) :
    Calls Tryz.prog 62 #[.slice a l.length c] w fun e w' => SaysB (∀ i (h : i < l.length), wordB l[i] = true) e ∧ w' = w := by
  go_enter Tryz.func62, Tryz.ntmps62
  go_wp2
  go_loop [3, 4] (fun f i => ∃ (k : Nat) (r : Bool), k ≤ l.length ∧ i = .int .i64 k ∧ f = .bool r ∧ Hid (r = true → ∀ i (h : i < l.length), i < k → wordB l[i] = true)) (fun _ i => l.length - (intOf i).toNat)
  case atStart => exact ⟨0, true, Nat.zero_le _, rfl, rfl, Lib.hid (fun _ j h g => absurd g (Nat.not_lt_zero j))⟩
  case round =>
    obtain ⟨k, r, hk, rfl, rfl, HK⟩ := hrel
    by_cases hlt : k < l.length
    · obtain ⟨b, off, rfl, hz, hc⟩ := hi k hlt
      have W := fun V => LWordR_any l[k] V
      have HK2 := Lib.hid (fun (h : wordB l[k] = true) (g : r = true) => show ∀ i (h : i < l.length), i < k + 1 → wordB l[i] = true from fun j hj hjk => if q : j < k then HK.out g j hj q else (by have e : j = k := (by omega); subst e; exact h))
      generalize l[k] = s at W HK2 hc
      replace W := Lib.hid W
      clear hi
      cases r
      · clear HK2 HK
        go_wp2
        go_round
        case rel => exact ⟨k + 1, false, by omega, by go_num, rfl, Lib.hid (fun h => by cases h)⟩
        case measure => simp [intOf]; omega
      · go_wp2_with (go_at_call 112; go_must ((with_reducible refine (W.out _).mono ?_); rintro e w' ⟨⟨r2, rfl, hr2⟩, hw9⟩; obtain rfl := hw9.symm; replace hr2 := Lib.hid hr2; dsimp only))
        go_round
        case rel => exact ⟨k + 1, r2, by omega, by go_num, rfl, Lib.hid (fun h => HK2.out (hr2.out h) rfl)⟩
        case measure => simp [intOf]; omega
    · obtain rfl : k = l.length := by omega
      go_wp2
      go_ret
      exact ⟨says r rfl (fun h i hi => HK.out h i hi hi), rfl⟩
theorem LRoomy_any (a : Option Addr) (n c : Nat) (lo hi : Int) (w : World) :
    Calls Tryz.prog 63 #[.agg #[.slice a n c, .int .i64 lo, .int .i64 hi]] w fun e w' => e = .returned (.bool (decide (n = 0))) ∧ Below w.heap.size w w' := by
  by_cases h0 : n = 0
  · subst h0
    go_enter Tryz.func63, Tryz.ntmps63
    go_wp2
    go_ret
    exact ⟨rfl, (by (repeat' (first | assumption | exact Below.refl _ _ | refine below_drew' ?_ | refine Below.setCell ?_ (by first | omega | (simp <;> omega)) _ | refine Below.alloc ?_ (by first | omega | (simp <;> omega)) _)))⟩
  · have e := eqi_f (show ¬ (n : Int) = 0 by omega)
    rw [decide_eq_false h0]
    go_enter Tryz.func63, Tryz.ntmps63
    go_wp2
    go_ret
    exact ⟨rfl, (by (repeat' (first | assumption | exact Below.refl _ _ | refine below_drew' ?_ | refine Below.setCell ?_ (by first | omega | (simp <;> omega)) _ | refine Below.alloc ?_ (by first | omega | (simp <;> omega)) _)))⟩
set_option maxRecDepth 100000 in
set_option maxHeartbeats 1000000 in
theorem spo_lits (a b : Int) (ha : (Lit.int .i64 a).wf = true) (hb : (Lit.int .i64 b).wf = true) : Tryz.prog.keyLits 2 37 (Value.agg #[.int .i64 a, .int .i64 b]).cells.toList = some [.int .i64 a, .int .i64 b] := by
  have h1 : (match Tryz.prog.underlying 37 with | some (.struct fs) => (fs.toList.map fun f => (f.type, f.offset)) == [(3, 0), (3, 1)] && fs.all (fun f => f.name != "_") | _ => false) = true := by kernel_rfl
  have h4 : Tryz.prog.underlying 3 = some (.int .i64) := by kernel_rfl
  have h5 : Tryz.prog.cellsOf 3 = 1 := by kernel_rfl
  have h6 : Tryz.prog.cellsOf 37 = 2 := by kernel_rfl
  have e1 : ∀ (m : Nat) (x : Int), (Lit.int .i64 x).wf = true → Tryz.prog.keyLits (m + 1) 3 [.int .i64 x] = some [.int .i64 x] := fun m x hx => by
    unfold Program.keyLits
    simp only [h4, hx, and_self, if_true]
  cases hu : Tryz.prog.underlying 37 with
  | none => rw [hu] at h1; cases h1
  | some kd =>
    rw [hu] at h1
    cases kd with
    | struct fs =>
      simp only [Bool.and_eq_true, beq_iff_eq] at h1
      obtain ⟨g1, g2⟩ := h1
      show Tryz.prog.keyLits (1 + 1) 37 [.int .i64 a, .int .i64 b] = _
      unfold Program.keyLits
      rw [hu]
      obtain ⟨L⟩ := fs
      simp only at g1 g2 ⊢
      match L, g1 with
      | [f0, f1], g1 =>
        simp only [List.map_cons, List.map_nil, List.cons.injEq, Prod.mk.injEq, and_true] at g1
        obtain ⟨⟨t0, o0⟩, t1, o1⟩ := g1
        simp only [h6, List.length_cons, List.length_nil, Nat.zero_add, Nat.reduceAdd, g2, and_self, if_true, List.mapM_cons, List.mapM_nil, t0, o0, t1, o1, h5, List.drop_zero, List.drop_succ_cons, List.take_succ_cons, List.take_zero, e1 0 a ha, e1 0 b hb]
        rfl
    | _ => simp at h1
theorem spo_eq (a b a' b' : Int) (ha : (Lit.int .i64 a).wf = true) (hb : (Lit.int .i64 b).wf = true) (ha' : (Lit.int .i64 a').wf = true) (hb' : (Lit.int .i64 b').wf = true) (w : World) :
    (Op.equalIn 10000 37 (.agg #[.int .i64 a, .int .i64 b]) (.agg #[.int .i64 a', .int .i64 b'])).run Tryz.prog w = .ok (decide (a = a' ∧ b = b')) w := by
  obtain ⟨r, hr, hi⟩ := run_equalIn_deep (P := Tryz.prog) 9998 2 37 (by kernel_rfl) w 2 2 (.agg #[.int .i64 a, .int .i64 b]) (.agg #[.int .i64 a', .int .i64 b']) _ _ (by kernel_rfl) (by kernel_rfl) (spo_lits a b ha hb) (spo_lits a' b' ha' hb')
  have e : r = decide (a = a' ∧ b = b') := by
    rw [Bool.eq_iff_iff, hi]
    simp only [List.cons.injEq, Lit.int.injEq, true_and, and_true, decide_eq_true_eq]
  rw [e] at hr
  exact hr
end Go.Proofs.YtelmponkmmfffaaGreat
namespace Go.Proofs.YtelmponkmmfffaaGreat
open Go Go.RowKit Go.Shelf
set_option maxHeartbeats 400000 in
theorem LTurn_any (a : Option Addr) (l : List Int) (c n : Nat) (w : World) (hl : l.length ≤ 9223372036854775807) (hn : n ≤ 1000) (hi : BytesC w a l) :
    Calls Tryz.prog 48 #[.slice a l.length c, .int .i64 n] w fun e w' => e = .returned (.int .i64 (turnL l n)) ∧ w' = w := by
  by_cases h0 : l.length = 0
  · have hr : turnL l n = 0 := by unfold turnL; rw [if_pos h0]
    rw [hr, h0]
    go_enter Tryz.func48, Tryz.ntmps48
    go_wp2
    go_ret
    exact ⟨rfl, rfl⟩
  · have hlt : n % l.length < l.length := Nat.mod_lt _ (by omega)
    have hr : Hid (turnL l n = l[n % l.length]) := Lib.hid (by unfold turnL; rw [if_neg h0, List.getElem?_eq_getElem hlt]; rfl)
    obtain ⟨b, off, rfl, hb, hc, h1, h2⟩ := hi _ hlt
    have hne : ((l.length : Int) == 0) = false := eqi_f (by omega)
    generalize turnL l n = r at hr ⊢
    generalize l[n % l.length] = y at hc h1 h2 hr
    have hbl := lt_of_cell hc
    go_enter Tryz.func48, Tryz.ntmps48
    go_wp2
    go_ret
    exact ⟨by rw [hr.out]; rfl, rfl⟩
theorem turnL_bd {w : World} {a : Option Addr} {l : List Int} (hi : BytesC w a l) (n : Nat) : 0 ≤ turnL l n ∧ turnL l n ≤ 255 := by
  unfold turnL
  split
  · decide
  · have hlt : n % l.length < l.length := Nat.mod_lt _ (by omega)
    obtain ⟨b, off, -, -, -, h1, h2⟩ := hi _ hlt
    rw [List.getElem?_eq_getElem hlt]
    exact ⟨h1, h2⟩
theorem LSaid_any (w : World) : Calls Tryz.prog 49 #[] w fun e w' => ∃ b, e = .returned (.slice (some ⟨b, 0, none⟩) 8 8) ∧ StrsC w' (some ⟨b, 0, none⟩) saidL ∧ Below w.heap.size w w' := by
  go_enter Tryz.func49, Tryz.ntmps49
  go_wp2
  go_ret
  refine ⟨w.heap.size, rfl, fun i hi => ?_, (by (repeat' (first | assumption | exact Below.refl _ _ | refine below_drew' ?_ | refine Below.setCell ?_ (by first | omega | (simp <;> omega)) _ | refine Below.alloc ?_ (by first | omega | (simp <;> omega)) _)))⟩
  have h8 : i = 0 ∨ i = 1 ∨ i = 2 ∨ i = 3 ∨ i = 4 ∨ i = 5 ∨ i = 6 ∨ i = 7 := by have : saidL.length = 8 := rfl; omega
  rcases h8 with rfl | rfl | rfl | rfl | rfl | rfl | rfl | rfl <;> exact ⟨w.heap.size, 0, rfl, by simp, blk_cell _ (alloc_at _ _ rfl) rfl⟩
/-- A list of words in memory, in a block of strings. -/
def RowU (W : World) (v : Value) (l : List ByteArray) : Prop := ∃ a c, v = .slice a l.length c ∧ SlOk a l.length c ∧ ∀ i (_ : i < l.length), ∃ b off, a = some ⟨b, off, none⟩ ∧ (∃ cs z, W.heap[b]? = some (.cells cs 9 z)) ∧ W.cell? ⟨b, off + i, none⟩ = some (.string l[i])
theorem RowU.mono {W V : World} {v : Value} {l : List ByteArray} (h : RowU W v l) (hb : Below W.heap.size W V) : RowU V v l := by
  obtain ⟨a, c, e, h1, h2⟩ := h
  refine ⟨a, c, e, h1, fun i hi => ?_⟩
  obtain ⟨b, off, e2, ⟨cs, z, h3⟩, h4⟩ := h2 i hi
  exact ⟨b, off, e2, ⟨cs, z, (hb.block _ (Array.getElem?_eq_some_iff.1 h3).1).trans h3⟩, cell_below hb h4⟩
theorem RowU.grown {W V : World} {v u : Value} {l : List ByteArray} {base n : Nat} {xs : List Value} (h : RowU W v l) (ho : W.ownsRow base 44 1 u n xs) (hg : W.grownBy V u.ownBlock) : RowU V v l := by
  obtain ⟨a, c, e, h1, h2⟩ := h
  refine ⟨a, c, e, h1, fun i hi => ?_⟩
  obtain ⟨b, off, e2, ⟨cs, z, h3⟩, h4⟩ := h2 i hi
  have hk : V.heap[b]? = W.heap[b]? := hg.block b (Array.getElem?_eq_some_iff.1 h3).1 (fun e => by
    rcases ho.2 with ⟨rfl, _⟩ | ⟨g', cap, cur, rfl, _, hg', _⟩
    · simp [Value.ownBlock] at e
    · simp [Value.ownBlock] at e
      subst e
      rw [h3] at hg'
      have := Option.some.inj hg'
      injection this with _ ht _
      exact absurd ht (by decide))
  exact ⟨b, off, e2, ⟨cs, z, hk.trans h3⟩, (World.cell?_of_block (a := ⟨b, off + i, none⟩) hk).trans h4⟩
theorem RowU.of_own {w : World} {base : Nat} {v : Value} {n : Nat} {l : List ByteArray} (h : w.ownsRow base 9 1 v n (l.map Value.string)) : RowU w v l := by
  have hn : l.length = n := by simpa using h.1
  subst hn
  rcases h.2 with ⟨rfl, h0⟩ | ⟨g, cap, cur, rfl, _, hg, h1, h2, h3, h4⟩
  · have : l = [] := List.eq_nil_of_length_eq_zero h0
    subst this
    exact ⟨none, 0, rfl, ⟨Nat.le_refl _, by omega, fun _ => rfl⟩, fun i hi => absurd hi (Nat.not_lt_zero i)⟩
  · have hm : maxLen = 9223372036854775807 := rfl
    refine ⟨some ⟨g, 0, none⟩, cap, rfl, ⟨h1, by omega, fun h => by cases h⟩, fun i hi => ⟨g, 0, rfl, ⟨_, _, hg⟩, ?_⟩⟩
    have := h.cells (g := g) rfl i (.string l[i]) (by simp [hi])
    simpa [Addr.add_lit] using this
def RowsU (W : World) (vs : List Value) (L : List (List ByteArray)) : Prop := vs.length = L.length ∧ ∀ i (h1 : i < vs.length) (h2 : i < L.length), RowU W vs[i] L[i]
theorem RowsU.nil (W : World) : RowsU W [] [] := ⟨rfl, fun i h => by simp at h⟩
theorem RowsU.mono {W V : World} {vs : List Value} {L : List (List ByteArray)} (h : RowsU W vs L) (hb : Below W.heap.size W V) : RowsU V vs L := ⟨h.1, fun i h1 h2 => (h.2 i h1 h2).mono hb⟩
theorem RowsU.grown {W V : World} {vs : List Value} {L : List (List ByteArray)} {u : Value} {base n : Nat} {xs : List Value} (h : RowsU W vs L) (ho : W.ownsRow base 44 1 u n xs) (hg : W.grownBy V u.ownBlock) : RowsU V vs L := ⟨h.1, fun i h1 h2 => (h.2 i h1 h2).grown ho hg⟩
theorem RowsU.snoc {W : World} {vs : List Value} {L : List (List ByteArray)} {v : Value} {l : List ByteArray} (h : RowsU W vs L) (hv : RowU W v l) : RowsU W (vs ++ [v]) (L ++ [l]) := by
  refine ⟨by simp [h.1], fun i h1 h2 => ?_⟩
  by_cases hi : i < vs.length
  · have hi2 : i < L.length := by have := h.1; omega
    rw [List.getElem_append_left hi, List.getElem_append_left hi2]
    exact h.2 i hi hi2
  · have e1 : i = vs.length := by simp at h1; omega
    subst e1
    have e2 : vs.length = L.length := h.1
    simp [e2, hv]
theorem RowsU.cell {W : World} {vs : List Value} {L : List (List ByteArray)} (h : RowsU W vs L) : ∀ u ∈ vs, u.oneCell' = true := fun u hu => by
  obtain ⟨i, hi, rfl⟩ := List.getElem_of_mem hu
  obtain ⟨a, c, e, _⟩ := h.2 i hi (by have := h.1; omega)
  rw [e]; rfl
/-- What the call has collected reads as lists of words. -/
theorem StrRowsC.of_ownU {w : World} {base : Nat} {v : Value} {n : Nat} {vs : List Value} {L : List (List ByteArray)} (h : w.ownsRow base 44 1 v n vs) (hr : RowsU w vs L) : ∃ a c, v = .slice a L.length c ∧ SlOk a L.length c ∧ StrRowsC w a L := by
  have hn : vs.length = n := by simpa using h.1
  have hl := hr.1
  rcases h.2 with ⟨rfl, h0⟩ | ⟨g, cap, cur, rfl, _, hg, h1, h2, h3, h4⟩
  · have : L = [] := List.eq_nil_of_length_eq_zero (by omega)
    subst this
    exact ⟨none, 0, rfl, ⟨Nat.le_refl _, by omega, fun _ => rfl⟩, fun i hi => absurd hi (Nat.not_lt_zero i)⟩
  · have hm : maxLen = 9223372036854775807 := rfl
    have e : n = L.length := by omega
    subst e
    refine ⟨some ⟨g, 0, none⟩, cap, rfl, ⟨h1, by omega, fun h => by cases h⟩, fun i hi => ?_⟩
    obtain ⟨a2, c2, e2, k1, k2⟩ := hr.2 i (by omega) hi
    refine ⟨g, 0, a2, c2, rfl, (Array.getElem?_eq_some_iff.1 hg).1, ?_, k1, fun j hj => ?_⟩
    · have := h.cells (g := g) rfl i vs[i] (by simp [show i < vs.length by omega])
      rw [e2] at this
      simpa [Addr.add_lit] using this
    · obtain ⟨b, off, e3, -, k3⟩ := k2 j hj
      exact ⟨b, off, e3, lt_of_cell k3, k3⟩
/-- What the call has collected, as something to copy from. -/
theorem own_src {w : World} {base : Nat} {e : TypeId} {v : Value} {n : Nat} {xs : List Value} (h : w.ownsRow base e 1 v n xs) (h1 : ∀ u ∈ xs, u.oneCell' = true) : SrcAt w v n 1 xs := by
  refine ⟨h.1, h1, ?_⟩
  rcases h.2 with ⟨rfl, h0⟩ | ⟨g, cap, cur, rfl, _⟩
  · exact .inl ⟨rfl, h0⟩
  · exact .inr ⟨⟨g, 0, none⟩, cap, rfl, fun j u hj => h.cells (g := g) rfl j u hj⟩
set_option maxRecDepth 100000 in
set_option maxHeartbeats 4000000 in
theorem LRooms_any (ap : Option Addr) (kp : Nat) (f : LeF) (w : World) (ho : SlOk ap f.parts.length kp) (hp : PartsC w ap f.parts) (hn : f.parts.length ≤ 5) :
    Calls Tryz.prog 47 #[.agg #[.string f.name, .slice ap f.parts.length kp]] w fun e w' => ∃ a c, e = .returned (.slice a (roomsF f.parts).length c) ∧ SlOk a (roomsF f.parts).length c ∧ SpansC w' a (roomsF f.parts) ∧ Below w.heap.size w w' := by
  obtain ⟨X, hX⟩ : ∃ X : World, X = w.alloc (.cells #[.string f.name, .slice ap f.parts.length kp] 43) := ⟨_, rfl⟩
  have hwX : Below w.heap.size w X := by rw [hX]; exact (Below.refl _ w).alloc (Nat.le_refl _) _
  have g0 : X.heap[w.heap.size]? = some (.cells #[.string f.name, .slice ap f.parts.length kp] 43 (0, 0)) := by rw [hX]; exact alloc_at _ _ rfl
  have HC : Hid (∀ V, Below X.heap.size X V → (V.cell? ⟨w.heap.size, 1, none⟩ = some (.slice ap f.parts.length kp) ∧ w.heap.size < V.heap.size)) := Lib.hid (fun V h => by
    have g := (h.block _ (lt_of_block g0)).trans g0
    exact ⟨blk_cell 1 g rfl, lt_of_block g⟩)
  have HP := Lib.hid (fun (V : World) (h : Below X.heap.size X V) => (hp.mono hwX).mono h)
  have hl := ho.len
  have hc := ho.1
  have HX := Lib.hid hX
  clear hX hp g0
  go_enter Tryz.func47, Tryz.ntmps47
  go_upto_region 1 with (fail)
  rw [← HX.out]
  clear HX
  go_upto_region 3 with (fail)
  go_loopw [3, 4] (fun o i V => ∃ k : Nat, k ≤ f.parts.length ∧ i = .int .i64 k ∧ V.ownsRow X.heap.size 37 2 o (roomsF (f.parts.take k)).length (flatC spanCellsL (roomsF (f.parts.take k))) ∧ Below X.heap.size X V) (fun _ i _ => f.parts.length - (intOf i).toNat)
  case atStart => exact ⟨0, Nat.zero_le _, rfl, by rw [List.take_zero]; exact ⟨rfl, .inl ⟨rfl, rfl⟩⟩, Below.refl _ _⟩
  case round =>
    rename World => V
    obtain ⟨k, hk, rfl, hown, hbV⟩ := hrel
    obtain ⟨x1, xz⟩ := HC.out V hbV
    by_cases hlt : k < f.parts.length
    · obtain ⟨b, off, e0, hb, ⟨aw, cw, r0, r1, r2⟩, r3, r4⟩ := HP.out V hbV k hlt
      have HRY := Lib.hid (rooms_yes hlt)
      have HRN := Lib.hid (rooms_no hlt)
      have RO := fun (U : World) => LRoomy_any aw f.parts[k].words.length cw f.parts[k].lo f.parts[k].hi U
      have hlk : (roomsF (f.parts.take k)).length ≤ 5 := Nat.le_trans (rooms_len _) (by rw [List.length_take]; omega)
      have HPK := Lib.hid (show ∀ U, Below V.heap.size V U → (U.cell? ⟨b, off + k * 3 + 1, none⟩ = some (.int .i64 f.parts[k].lo) ∧ U.cell? ⟨b, off + k * 3 + 2, none⟩ = some (.int .i64 f.parts[k].hi) ∧ b < U.heap.size) from fun U h => ⟨cell_below h r3, cell_below h r4, Nat.lt_of_lt_of_le hb h.size⟩)
      generalize f.parts[k] = p at *
      generalize hrl : (roomsF (f.parts.take k)) = R at *
      have hkc : (k : Int) < (kp : Int) := by omega
      have HO := Lib.hid hown
      have HB := Lib.hid hbV
      subst e0
      clear hown r1 r2
      by_cases h0 : p.words.length = 0
      · have hd := decide_eq_true h0
        simp only [hd] at RO
        replace RO := Lib.hid RO
        have hry := Lib.hid (HRY.out h0)
        clear HRY HRN hd h0
        go_upto_region 6 with (go_at_call 63; go_must ((with_reducible refine (RO.out _).mono ?_); rintro e w3 ⟨rfl, hb3⟩; obtain ⟨y1, yz⟩ := HC.out w3 (HB.out.trans (hb3.mono HB.out.size)); obtain ⟨s1, s2, sz⟩ := HPK.out w3 hb3; dsimp only))
        clear x1 xz r0 r3 r4 hb
        have hb3V := HB.out.trans (hb3.mono HB.out.size)
        have HO3 := Lib.hid (own_below HO.out hb3)
        go_wp2_with (at_builtin; go_must (refine wpList_app (.tmp 18) (.tmp 25) E_spanL rfl rfl rfl rfl X.heap.size R.length 1 (flatC spanCellsL R) (spanCellsL (p.lo, p.hi)) (HO3.out.alloc _) (SrcAt.spanL _ _ _ _) (by omega) (by decide) (by have := hb3V.size; simp; omega) ?_; intro v7 w7 ho7 hg7 _; have hb7 := app_next hb3V (Nat.le_refl _) (Nat.le_refl _) HO3.out hg7; clear hg7; simp only [Act.put, List.setIfInBounds_toArray, List.set_cons_succ, List.set_cons_zero]))
        go_roundw
        case rel => exact ⟨k + 1, by omega, by go_num, by rw [hry.out, List.length_append, ← flatC_snoc]; exact ho7, hb7⟩
        case measure => simp [intOf]; omega
      · have hd := decide_eq_false h0
        simp only [hd] at RO
        replace RO := Lib.hid RO
        have hrn := Lib.hid (HRN.out h0)
        clear HRY HRN hd h0
        go_wp2_with (go_at_call 63; go_must ((with_reducible refine (RO.out _).mono ?_); rintro e w3 ⟨rfl, hb3⟩; dsimp only))
        go_roundw
        case rel => exact ⟨k + 1, by omega, by go_num, by rw [hrn.out]; exact own_below HO.out hb3, HB.out.trans (hb3.mono HB.out.size)⟩
        case measure => simp [intOf]; omega
    · obtain rfl : k = f.parts.length := by omega
      rw [List.take_length] at hown
      obtain ⟨a, c, rfl, h1, h2⟩ := SpansC.of_own hown
      go_wp2
      go_ret
      exact ⟨a, c, rfl, h1, h2, hwX.trans (hbV.mono hwX.size)⟩
end Go.Proofs.YtelmponkmmfffaaGreat
