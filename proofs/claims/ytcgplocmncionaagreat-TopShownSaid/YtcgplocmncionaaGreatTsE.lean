/- What is proved here: TopShown's chest in memory, and what the calls on it give. Conditions: chest and room lie in memory. -/
import Derived.Test.YtcgplocmncionaaGreatSeOpenG
import Derived.Test.YtcgplocmncionaaGreatTsC
import Derived.Test.YtcgplocmncionaaGreatChAw2
set_option linter.unusedVariables false
set_option linter.unusedSimpArgs false
namespace Go.Proofs.YtcgplocmncionaaGreat
open Go Go.RowKit Go.Shelf
theorem TsI.chest {Y V : World} {ps pc : Nat} {aS : Option Addr} {T : List Int} {R : SeRoom} {who : Nat} {a : Option Addr} {c : Nat} (h : TsI Y V ps pc aS T R who R.letters.length a c) : ChestC V (some ⟨ps, 0, none⟩) a none 1 c 0 (chestOf R who) :=
  ⟨⟨Nat.le_refl 1, by decide, fun h => by cases h⟩, h.ok, ⟨Nat.le_refl 0, by decide, fun _ => rfl⟩, fun i hi => by
    have hi : i < 1 := hi
    obtain rfl : i = 0 := by omega
    refine ⟨ps, 0, rfl, lt_of_block h.sh, ?_⟩
    have e : "she".toUTF8 = ⟨#[115, 104, 101]⟩ := by decide +kernel
    show V.cell? ⟨ps, 0 + 0, none⟩ = some (.string "she".toUTF8)
    rw [e]
    exact blk_cell 0 h.sh rfl, h.cp, fun i hi => absurd hi (Nat.not_lt_zero i), fun x hx => by
    have e : x = "she".toUTF8 := List.mem_singleton.1 hx
    rw [e]
    decide +kernel⟩
variable {Y V : World} {ps pc : Nat} {aS : Option Addr} {T : List Int} {R : SeRoom} {who : Nat} {a : Option Addr} {c : Nat}
theorem Ts_Find (h : TsI Y V ps pc aS T R who R.letters.length a c) (hv : SeValid R) (hk : 0 < R.kept.length) (VN : Nat) (hV : VN = viewN (chestOf R who) 0) (W : World) (hb : Below V.heap.size V W) :
    Calls Tryz.prog 10 #[(.agg #[.int .i64 1, .int .i64 (R.kept.length : Int), .slice (some ⟨ps, 0, none⟩) 1 1, .int .i64 (R.letters.length : Int), .slice a (copiesTo R who R.letters.length).length c, .slice none 0 0]), .int .i64 0, .slice none 0 0] W fun e w' => ∃ v, e = .returned (.tuple #[v, .int .i64 0]) ∧ IntsN W.heap.size w' v (numI VN) ∧ Below W.heap.size W w' := by
  have C := CFind_any (some ⟨ps, 0, none⟩) a none 1 c 0 (chestOf R who) 0 none [] 0 1 W (h.chest.mono hb) (chest_valid hv hk) Nat.one_pos rfl ⟨Nat.le_refl 0, by decide, fun _ => rfl⟩ (fun i hi => absurd hi (Nat.not_lt_zero i)) ⟨fun i hi => absurd hi (Nat.not_lt_zero i), fun i hi => absurd hi (Nat.not_lt_zero _)⟩
  rw [show setTo [] ([] : List Int).length = 0 from rfl, find_all, ← hV] at C
  exact C
theorem Ts_Knows (h : TsI Y V ps pc aS T R who R.letters.length a c) (hv : SeValid R) (hk : 0 < R.kept.length) (VN TN : Nat) (hV : VN = viewN (chestOf R who) 0) (hT : TN = tellN (chestOf R who) VN) (W : World) (hb : Below V.heap.size V W) (b : Option Addr) (cp : Nat) (hs : SlOk b (numI VN).length cp) (hi : IntsC W b (numI VN)) :
    Calls Tryz.prog 11 #[(.agg #[.int .i64 1, .int .i64 (R.kept.length : Int), .slice (some ⟨ps, 0, none⟩) 1 1, .int .i64 (R.letters.length : Int), .slice a (copiesTo R who R.letters.length).length c, .slice none 0 0]), .slice b (numI VN).length cp] W fun e w' => ∃ v, e = .returned (.tuple #[v, .int .i64 0]) ∧ IntsN W.heap.size w' v (numI TN) ∧ Below W.heap.size W w' := by
  have hlt : VN < 2 ^ (chestOf R who).copies.length := by rw [hV]; exact maskTo_lt _ _
  have h64 : (chestOf R who).copies.length ≤ 64 := by rw [chest_len]; have := hv.nt; omega
  have C := CKnows_any (some ⟨ps, 0, none⟩) a none 1 c 0 (chestOf R who) b (numI VN) cp W (h.chest.mono hb) (chest_valid hv hk) hs hi (numI_rises hlt h64)
  rw [setTo_num VN (Nat.lt_of_lt_of_le hlt (Nat.pow_le_pow_right (by decide) h64)), ← hT] at C
  exact C
theorem Ts_Lock (h : TsI Y V ps pc aS T R who R.letters.length a c) (hv : SeValid R) (hk : 0 < R.kept.length) (s LN : Nat) (hs : s < R.kept.length) (hL : LN = viewN (chestOf R who) 0 &&& factN (chestOf R who) s) (W : World) (hb : Below V.heap.size V W) :
    Calls Tryz.prog 12 #[(.agg #[.int .i64 1, .int .i64 (R.kept.length : Int), .slice (some ⟨ps, 0, none⟩) 1 1, .int .i64 (R.letters.length : Int), .slice a (copiesTo R who R.letters.length).length c, .slice none 0 0]), .int .i64 0, .int .i64 (s : Int)] W fun e w' => ∃ v, e = .returned (.tuple #[v, .int .i64 0]) ∧ IntsN W.heap.size w' v (numI LN) ∧ Below W.heap.size W w' := by
  have C := CLock_any (some ⟨ps, 0, none⟩) a none 1 c 0 (chestOf R who) 0 s W (h.chest.mono hb) (chest_valid hv hk) Nat.one_pos (show (s : Int) < (R.kept.length : Int) by omega)
  rw [(lock_is hv.nt s).1, ← hL] at C
  exact C
theorem ts_facts (he : seErr R = 0) (hh : R.heard = []) (hu : who < R.writers.length) {s : Nat} (hs : s < R.kept.length) (hn : R.letters.length ≤ 4) (h3 : s < 64) :
    ∃ VN TN LN m, VN = viewN (chestOf R who) 0 ∧ TN = tellN (chestOf R who) VN ∧ LN = viewN (chestOf R who) 0 &&& factN (chestOf R who) s ∧ (numI LN).length = manyTo R who s R.letters.length ∧ knowsOf R (who : Int) (s : Int) 9 = (m, 0) ∧ (m = 1 → hasB (numI TN) (s : Int) = true ∧ 0 < manyTo R who s R.letters.length) ∧ (m ≠ 1 → hasB (numI TN) (s : Int) = false ∧ manyTo R who s R.letters.length = 0) := by
  obtain ⟨m, h1, h2, h4⟩ := shown_is he hh hu hs
  refine ⟨_, _, _, m, rfl, rfl, rfl, ?_, h1, fun h => ⟨?_, h4.1 h⟩, fun h => ⟨?_, ?_⟩⟩
  · rw [numI_is, List.length_map]; exact (lock_is hn s).2
  · rw [numI_has h3]; exact h2.1 h
  · rw [numI_has h3]; exact Bool.eq_false_iff.2 fun e => h (h2.2 e)
  · exact Nat.eq_zero_of_not_pos fun e => h (h4.2 e)
end Go.Proofs.YtcgplocmncionaaGreat
