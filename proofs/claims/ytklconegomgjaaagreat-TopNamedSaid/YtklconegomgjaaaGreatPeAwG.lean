/- What is proved here: the contract of Wrong of layer 3. Conditions: the town is valid. -/
/- What is proved here: what the program answers at the laws' towns of layer 3. No condition. -/
import Derived.Test.YtklconegomgjaaaGreatPeSomG
import Derived.Test.YtklconegomgjaaaGreatCmpG
import Derived.Test.YtklconegomgjaaaGreatPeTownY
import Derived.Test.YtklconegomgjaaaGreatPeWhyG
import Derived.Test.YtklconegomgjaaaGreatPeWiderG
import Derived.Test.YtklconegomgjaaaGreatEndGG
import Derived.Test.YtklconegomgjaaaGreatPeFirst
set_option linter.unusedVariables false
set_option linter.unusedSimpArgs false
namespace Go.Proofs.YtklconegomgjaaaGreat
open Go Go.RowKit Go.Shelf

theorem IntsN.keepP {B : Nat} {w W : World} {v : Value} {l : List Int} (h : IntsN B w v l) (hb : Keeps w W) : IntsN B W v l := by
  obtain ⟨a, c, e, h1, h2, h3⟩ := h
  exact ⟨a, c, e, h1, h2.keep hb, h3⟩
theorem Lrn.ownB {bc bk B : Nat} {A0 A A' : World} (hb : Below B A0 A) (h : Lrn bc bk A A') (hB : B ≤ A.heap.size) (h1 : B ≤ bc) (h2 : B ≤ bk) : Below B A0 A' :=
  ⟨h.os.trans hb.os, h.tape.trans hb.tape, h.output.trans hb.output, Nat.le_trans hb.size h.size, fun b hlt => (h.block b (by omega) (by omega) (by omega)).trans (hb.block b hlt)⟩
def wrongS (t : PeW) (s : Nat) : Bool := decide (0 < (fairL t s).length)
theorem pow_four : ∀ n : Nat, n ≤ 4 → wrap64 (2 ^ n) = ((2 ^ n : Nat) : Int) ∧ 2 ^ n ≤ 16 := by decide +kernel
def WrongPost (t : PeW) (w : World) (N : Nat) (e : Ending) (w' : World) : Prop := ∃ v best found, Hid (Found t.ties.length (wrongS t) N best found) ∧ e = .returned (if found = true then .tuple #[v, .int .i64 0] else .tuple #[.slice none 0 0, .int .i64 9]) ∧ IntsN w.heap.size w' v best ∧ Below w.heap.size w w'
set_option maxRecDepth 100000 in
set_option maxHeartbeats 4000000 in
theorem PWrong_any (a1 a2 a3 a4 : Option Addr) (k1 k2 k3 k4 : Nat) (t : PeW) (w : World) (hm : TownC w a1 a2 a3 a4 k1 k2 k3 k4 t) (hv : PeValid t) :
    Calls Tryz.prog 34 #[(.agg #[.int .i64 t.ear.sounds, .slice a1 t.ear.alphas.length k1, .slice a2 t.ear.spells.length k2, .int .i64 t.vills, .slice a3 t.ments.length k3, .slice a4 t.ties.length k4])] w (WrongPost t w (2 ^ t.ties.length)) := by
  have hnt := hv.nt
  have hlt4 := hm.okt.len
  obtain ⟨hp2, hp16⟩ := pow_four t.ties.length hnt
  obtain ⟨N, hNN⟩ : ∃ N, N = 2 ^ t.ties.length := ⟨_, rfl⟩
  rw [← hNN] at hp16 hp2 ⊢
  have HP2 := Lib.hid hp2
  clear hNN hp2
  have C := Lib.hid (fun (V : World) (h : Below (w.heap.size + 1) (w.alloc (.cells #[.int .i64 t.ear.sounds, .slice a1 t.ear.alphas.length k1, .slice a2 t.ear.spells.length k2, .int .i64 t.vills, .slice a3 t.ments.length k3, .slice a4 t.ties.length k4] 29)) V) => PCheck_any a1 a2 a3 a4 k1 k2 k3 k4 t V (hm.mono (box_old h)) hv)
  have LKG := Lib.hid (fun (s : Nat) (V : World) (h : Below (w.heap.size + 1) (w.alloc (.cells #[.int .i64 t.ear.sounds, .slice a1 t.ear.alphas.length k1, .slice a2 t.ear.spells.length k2, .int .i64 t.vills, .slice a3 t.ments.length k3, .slice a4 t.ties.length k4] 29)) V) => PLook_any a1 a2 a3 a4 k1 k2 k3 k4 t s V (hm.mono (box_old h)))
  have SMG := Lib.hid (fun (s : Nat) (hs : s < 16) (V : World) (bt bc bk : Nat) (h : TownW V bt bc bk a1 a2 a3 a4 k1 k2 k3 k4 t s) => PSome_any a1 a2 a3 a4 k1 k2 k3 k4 t bt bc bk s V h hv.ok hs)
  have NUG := Lib.hid (fun (s : Nat) (hs : s < 64) (W : World) => PNumbersN_any s t.ties.length hs (by omega) W)
  have hQ := Below.refl (w.heap.size + 1) (w.alloc (.cells #[.int .i64 t.ear.sounds, .slice a1 t.ear.alphas.length k1, .slice a2 t.ear.spells.length k2, .int .i64 t.vills, .slice a3 t.ments.length k3, .slice a4 t.ties.length k4] 29))
  have HQ0 := Lib.hid hQ
  obtain ⟨x0, x1, x2, x3, x4, x5, xz⟩ := box_town hQ
  clear hm hv
  go_enter Tryz.func34, Tryz.ntmps34
  have ht64 : (t.ties.length : Int) < 64 := by omega
  go_wp2_with (go_at_call 39; go_must ((with_reducible refine (C.out _ hQ).mono ?_); rintro e w2 ⟨rfl, hb2⟩; have hQ2 := box_on hQ hb2; obtain ⟨x0, x1, x2, x3, x4, x5, xz⟩ := box_town hQ2; dsimp only))
  rw [HP2.out]
  have HB0 : Hid (IntsN w.heap.size w2 (.slice none 0 0) []) := Lib.hid ⟨none, 0, rfl, ⟨by simp, by omega, fun _ => rfl⟩, IntsC.nil _ _, fun _ h => by cases h⟩
  clear hb2 hQ x0 x1 x2 x3 x4 x5 xz
  go_loopw [2, 4, 20] (fun v f i wr => ∃ (k : Nat) (best : List Int) (found : Bool), k ≤ N ∧ i = .int .i64 (k : Int) ∧ f = .bool found ∧ IntsN w.heap.size wr v best ∧ Hid (Found t.ties.length (wrongS t) k best found) ∧ Below (w.heap.size + 1) (w.alloc (.cells #[.int .i64 t.ear.sounds, .slice a1 t.ear.alphas.length k1, .slice a2 t.ear.spells.length k2, .int .i64 t.vills, .slice a3 t.ments.length k3, .slice a4 t.ties.length k4] 29)) wr) (fun _ _ i _ => N - (intOf i).toNat)
  case atStart => exact ⟨0, [], false, Nat.zero_le _, rfl, rfl, HB0.out, Lib.hid (found_zero _ _), hQ2⟩
  case round =>
    clear hQ2 HB0
    obtain ⟨k, best, found, hk, rfl, rfl, ⟨ab, cb, rfl, hsb, hib, hlb0⟩, HFO, hQ⟩ := hrel
    obtain ⟨x0, x1, x2, x3, x4, x5, xz⟩ := box_town hQ
    have hbl := hsb.len
    by_cases hlt : k < N
    · have HK1 := Lib.hid (fun (e : found = true) (h : fewer best (bitsList k t.ties.length) = true) => (found_skip (e ▸ HFO.out) (.inr h) : Found t.ties.length (wrongS t) (k + 1) best true))
      have HK2 := Lib.hid (fun (h : wrongS t k = false) => found_no HFO.out h)
      have HK3 := Lib.hid (fun (h : wrongS t k = true) (hf : found = true → fewer best (bitsList k t.ties.length) = false) => found_yes HFO.out h hf)
      have NU := fun W => NUG.out k (by omega) W
      have LK := Lib.hid (LKG.out k)
      have SM := SMG.out k (by omega)
      change ∀ (V : World) (bt bc bk : Nat), _ → Calls _ _ _ _ (fun e w' => e = .returned (.bool (wrongS t k)) ∧ _) at SM
      generalize bitsList k t.ties.length = l at HK1 HK3 NU
      generalize wrongS t k = sk at HK2 HK3 SM
      replace NU := Lib.hid NU
      replace SM := Lib.hid SM
      have hkN : (k : Int) < 64 := by omega
      have hlti : (k : Int) < (N : Int) := by omega
      cases found
      · replace HK3 := Lib.hid (fun h => HK3.out h (fun e => by cases e))
        cases sk
        · go_wp2_with (first | (go_at_call 59; go_must ((with_reducible refine (NU.out _).mono ?_); rintro e w2 ⟨v2, rfl, ⟨a2', c2', rfl, ho2, hi2, hn2⟩, hb2⟩; have hQ2 := box_on hQ hb2; obtain ⟨x0, x1, x2, x3, x4, x5, xz⟩ := box_town hQ2; dsimp only)) | (go_at_call 41; go_must ((with_reducible refine (LK.out _ hQ2).mono ?_); rintro e w3 ⟨bt, bc, bk, rfl, ht3, hb3, g1, g2, g3⟩; dsimp only)) | (go_at_call 83; go_must ((with_reducible refine (SM.out _ _ _ _ ht3).mono ?_); rintro e w4 ⟨rfl, hl4, ht4⟩; dsimp only)))
          have hz2 := hb2.size
          have hz3 := box_size hQ
          have hQ4 := Lrn.ownB (hQ2.trans (hb3.mono (by omega))) hl4 (by have := hb3.size; omega) (by omega) (by omega)
          go_roundw
          case rel => exact ⟨k + 1, best, _, by omega, by go_num, rfl, IntsN.keepP (IntsN.mono (IntsN.mono ⟨ab, cb, rfl, hsb, hib, hlb0⟩ hb2) hb3) (hl4.keeps ht3), Lib.hid (HK2.out rfl), hQ4⟩
          case measure => simp [intOf]; omega
        · replace HK3 := Lib.hid (HK3.out rfl)
          go_wp2_with (first | (go_at_call 59; go_must ((with_reducible refine (NU.out _).mono ?_); rintro e w2 ⟨v2, rfl, ⟨a2', c2', rfl, ho2, hi2, hn2⟩, hb2⟩; have hQ2 := box_on hQ hb2; obtain ⟨x0, x1, x2, x3, x4, x5, xz⟩ := box_town hQ2; dsimp only)) | (go_at_call 41; go_must ((with_reducible refine (LK.out _ hQ2).mono ?_); rintro e w3 ⟨bt, bc, bk, rfl, ht3, hb3, g1, g2, g3⟩; dsimp only)) | (go_at_call 83; go_must ((with_reducible refine (SM.out _ _ _ _ ht3).mono ?_); rintro e w4 ⟨rfl, hl4, ht4⟩; dsimp only)))
          have hz2 := hb2.size
          have hz3 := box_size hQ
          have hQ4 := Lrn.ownB (hQ2.trans (hb3.mono (by omega))) hl4 (by have := hb3.size; omega) (by omega) (by omega)
          go_roundw
          case rel => exact ⟨k + 1, l, true, by omega, by go_num, rfl, IntsN.keepP (IntsN.mono ⟨a2', c2', rfl, ho2, hi2, fun ad e => Nat.le_trans (Nat.le_of_lt hz3) (hn2 ad e)⟩ hb3) (hl4.keeps ht3), Lib.hid HK3.out, hQ4⟩
          case measure => simp [intOf]; omega
      · by_cases h1 : best.length < l.length
        · have hK := Lib.hid (HK1.out rfl (by unfold fewer; rw [if_neg (by omega)]; simpa using h1))
          go_wp2_with (go_at_call 59; go_must ((with_reducible refine (NU.out _).mono ?_); rintro e w2 ⟨v2, rfl, ⟨a2', c2', rfl, ho2, hi2, hn2⟩, hb2⟩; have hQ2 := box_on hQ hb2; obtain ⟨x0, x1, x2, x3, x4, x5, xz⟩ := box_town hQ2; dsimp only))
          go_roundw
          case rel => exact ⟨k + 1, best, true, by omega, by go_num, rfl, IntsN.mono ⟨ab, cb, rfl, hsb, hib, hlb0⟩ hb2, hK, hQ2⟩
          case measure => simp [intOf]; omega
        · by_cases h2 : l.length = best.length
          · have g2 := eqn_t h2
            have hle := Lib.hid h2
            replace HK1 := Lib.hid (fun h => HK1.out rfl h)
            replace HK3 := Lib.hid (fun h e => HK3.out h (fun _ => e))
            have hfw : fewer best l = less best l := by unfold fewer; rw [if_pos h2.symm]
            rw [hfw] at HK1 HK3
            clear hfw h2
            obtain ⟨lb, hlb1⟩ : ∃ lb, less best l = lb := ⟨_, rfl⟩
            rw [hlb1] at HK1 HK3
            have hlb := Lib.hid hlb1
            clear hlb1
            cases lb
            · replace HK3 := Lib.hid (fun h => HK3.out h rfl)
              cases sk
              · go_wp2_with (first | (go_at_call 59; go_must ((with_reducible refine (NU.out _).mono ?_); rintro e w2 ⟨v2, rfl, ⟨a2', c2', rfl, ho2, hi2, hn2⟩, hb2⟩; have hQ2 := box_on hQ hb2; obtain ⟨x0, x1, x2, x3, x4, x5, xz⟩ := box_town hQ2; dsimp only)) | (go_at_call 71; go_must (refine (Cmp2_any a2' ab l best c2' cb w2 hle.out hbl hi2 (hib.mono hb2)).mono ?_; rintro e w5 ⟨q, rfl, hq, hw5⟩; obtain rfl := hw5.symm; have hq := hq.out.trans hlb.out; simp only [decide_eq_true_eq, decide_eq_false_iff_not] at hq; dsimp only)) | (go_at_call 41; go_must ((with_reducible refine (LK.out _ hQ2).mono ?_); rintro e w3 ⟨bt, bc, bk, rfl, ht3, hb3, g1, g2, g3⟩; dsimp only)) | (go_at_call 83; go_must ((with_reducible refine (SM.out _ _ _ _ ht3).mono ?_); rintro e w4 ⟨rfl, hl4, ht4⟩; dsimp only)))
                have hz2 := hb2.size
                have hz3 := box_size hQ
                have hQ4 := Lrn.ownB (hQ2.trans (hb3.mono (by omega))) hl4 (by have := hb3.size; omega) (by omega) (by omega)
                go_roundw
                case rel => exact ⟨k + 1, best, _, by omega, by go_num, rfl, IntsN.keepP (IntsN.mono (IntsN.mono ⟨ab, cb, rfl, hsb, hib, hlb0⟩ hb2) hb3) (hl4.keeps ht3), Lib.hid (HK2.out rfl), hQ4⟩
                case measure => simp [intOf]; omega
              · replace HK3 := Lib.hid (HK3.out rfl)
                go_wp2_with (first | (go_at_call 59; go_must ((with_reducible refine (NU.out _).mono ?_); rintro e w2 ⟨v2, rfl, ⟨a2', c2', rfl, ho2, hi2, hn2⟩, hb2⟩; have hQ2 := box_on hQ hb2; obtain ⟨x0, x1, x2, x3, x4, x5, xz⟩ := box_town hQ2; dsimp only)) | (go_at_call 71; go_must (refine (Cmp2_any a2' ab l best c2' cb w2 hle.out hbl hi2 (hib.mono hb2)).mono ?_; rintro e w5 ⟨q, rfl, hq, hw5⟩; obtain rfl := hw5.symm; have hq := hq.out.trans hlb.out; simp only [decide_eq_true_eq, decide_eq_false_iff_not] at hq; dsimp only)) | (go_at_call 41; go_must ((with_reducible refine (LK.out _ hQ2).mono ?_); rintro e w3 ⟨bt, bc, bk, rfl, ht3, hb3, g1, g2, g3⟩; dsimp only)) | (go_at_call 83; go_must ((with_reducible refine (SM.out _ _ _ _ ht3).mono ?_); rintro e w4 ⟨rfl, hl4, ht4⟩; dsimp only)))
                have hz2 := hb2.size
                have hz3 := box_size hQ
                have hQ4 := Lrn.ownB (hQ2.trans (hb3.mono (by omega))) hl4 (by have := hb3.size; omega) (by omega) (by omega)
                go_roundw
                case rel => exact ⟨k + 1, l, true, by omega, by go_num, rfl, IntsN.keepP (IntsN.mono ⟨a2', c2', rfl, ho2, hi2, fun ad e => Nat.le_trans (Nat.le_of_lt hz3) (hn2 ad e)⟩ hb3) (hl4.keeps ht3), Lib.hid HK3.out, hQ4⟩
                case measure => simp [intOf]; omega
            · have hK := Lib.hid (HK1.out rfl)
              go_wp2_with (first | (go_at_call 59; go_must ((with_reducible refine (NU.out _).mono ?_); rintro e w2 ⟨v2, rfl, ⟨a2', c2', rfl, ho2, hi2, hn2⟩, hb2⟩; have hQ2 := box_on hQ hb2; obtain ⟨x0, x1, x2, x3, x4, x5, xz⟩ := box_town hQ2; dsimp only)) | (go_at_call 71; go_must (refine (Cmp2_any a2' ab l best c2' cb w2 hle.out hbl hi2 (hib.mono hb2)).mono ?_; rintro e w5 ⟨q, rfl, hq, hw5⟩; obtain rfl := hw5.symm; have hq := hq.out.trans hlb.out; simp only [decide_eq_true_eq, decide_eq_false_iff_not] at hq; dsimp only)))
              go_roundw
              case rel => exact ⟨k + 1, best, true, by omega, by go_num, rfl, IntsN.mono ⟨ab, cb, rfl, hsb, hib, hlb0⟩ hb2, hK, hQ2⟩
              case measure => simp [intOf]; omega
          · have g2 := eqn_f h2
            replace HK3 := Lib.hid (fun h => HK3.out h (fun _ => by unfold fewer; rw [if_neg (by omega)]; simpa using h1))
            cases sk
            · go_wp2_with (first | (go_at_call 59; go_must ((with_reducible refine (NU.out _).mono ?_); rintro e w2 ⟨v2, rfl, ⟨a2', c2', rfl, ho2, hi2, hn2⟩, hb2⟩; have hQ2 := box_on hQ hb2; obtain ⟨x0, x1, x2, x3, x4, x5, xz⟩ := box_town hQ2; dsimp only)) | (go_at_call 41; go_must ((with_reducible refine (LK.out _ hQ2).mono ?_); rintro e w3 ⟨bt, bc, bk, rfl, ht3, hb3, g1, g2, g3⟩; dsimp only)) | (go_at_call 83; go_must ((with_reducible refine (SM.out _ _ _ _ ht3).mono ?_); rintro e w4 ⟨rfl, hl4, ht4⟩; dsimp only)))
              have hz2 := hb2.size
              have hz3 := box_size hQ
              have hQ4 := Lrn.ownB (hQ2.trans (hb3.mono (by omega))) hl4 (by have := hb3.size; omega) (by omega) (by omega)
              go_roundw
              case rel => exact ⟨k + 1, best, _, by omega, by go_num, rfl, IntsN.keepP (IntsN.mono (IntsN.mono ⟨ab, cb, rfl, hsb, hib, hlb0⟩ hb2) hb3) (hl4.keeps ht3), Lib.hid (HK2.out rfl), hQ4⟩
              case measure => simp [intOf]; omega
            · replace HK3 := Lib.hid (HK3.out rfl)
              go_wp2_with (first | (go_at_call 59; go_must ((with_reducible refine (NU.out _).mono ?_); rintro e w2 ⟨v2, rfl, ⟨a2', c2', rfl, ho2, hi2, hn2⟩, hb2⟩; have hQ2 := box_on hQ hb2; obtain ⟨x0, x1, x2, x3, x4, x5, xz⟩ := box_town hQ2; dsimp only)) | (go_at_call 41; go_must ((with_reducible refine (LK.out _ hQ2).mono ?_); rintro e w3 ⟨bt, bc, bk, rfl, ht3, hb3, g1, g2, g3⟩; dsimp only)) | (go_at_call 83; go_must ((with_reducible refine (SM.out _ _ _ _ ht3).mono ?_); rintro e w4 ⟨rfl, hl4, ht4⟩; dsimp only)))
              have hz2 := hb2.size
              have hz3 := box_size hQ
              have hQ4 := Lrn.ownB (hQ2.trans (hb3.mono (by omega))) hl4 (by have := hb3.size; omega) (by omega) (by omega)
              go_roundw
              case rel => exact ⟨k + 1, l, true, by omega, by go_num, rfl, IntsN.keepP (IntsN.mono ⟨a2', c2', rfl, ho2, hi2, fun ad e => Nat.le_trans (Nat.le_of_lt hz3) (hn2 ad e)⟩ hb3) (hl4.keeps ht3), Lib.hid HK3.out, hQ4⟩
              case measure => simp [intOf]; omega
    · obtain rfl : k = N := by omega
      have hlti : ¬ (k : Int) < (k : Int) := by omega
      have hbq := box_old hQ
      cases found
      · go_wp2
        go_ret2
        exact ⟨_, best, false, HFO, rfl, ⟨ab, cb, rfl, hsb, hib, hlb0⟩, hbq⟩
      · go_wp2
        go_ret2
        exact ⟨_, best, true, HFO, rfl, ⟨ab, cb, rfl, hsb, hib, hlb0⟩, hbq⟩
end Go.Proofs.YtklconegomgjaaaGreat
namespace Go.Proofs.YtklconegomgjaaaGreat
open Go Go.RowKit Go.Shelf

/-- A list that is given, with a number and an error. -/
def GivesF (w : World) (l : List Int) (n er : Int) (e : Ending) (w' : World) : Prop := ∃ a c, e = .returned (.tuple #[.slice a l.length c, .int .i64 n, .int .i64 er]) ∧ SlOk a l.length c ∧ IntsC w' a l ∧ Below w.heap.size w w'
@[reducible] def exTV (a1 a2 a3 a4 : Option Addr) (k k4 : Nat) : Value := .agg #[.int .i64 3, .slice a1 2 2, .slice a2 4 4, .int .i64 2, .slice a3 4 4, .slice a4 k k4]
theorem givesF_of {w w' : World} {e : Ending} {t : PeW} {x : List Int × Nat} {r : List (List Int × Nat)} {n : Int} (hf : fairL t 0 = x :: r) (hx : x.1.length = t.ments.length) (hn : ((fairL t 0).length : Int) = n) (hlen : t.ments.length ≤ 9223372036854775807)
    (h : ((fairL t 0 = [] ∧ e = .returned (.tuple #[.slice none 0 0, .int .i64 0, .int .i64 8])) ∨ (∃ x r g, fairL t 0 = x :: r ∧ e = .returned (.tuple #[.slice (some ⟨g, 0, none⟩) t.ments.length t.ments.length, .int .i64 ((fairL t 0).length : Int), .int .i64 0]) ∧ w'.heap[g]? = some (.cells (x.1.map (Value.int .i64)).toArray 3 (0, 0)))) ∧ Below w.heap.size w w') : GivesF w x.1 n 0 e w' := by
  obtain ⟨h, hb⟩ := h
  rcases h with ⟨h0, -⟩ | ⟨y, r2, g, h1, h2, h3⟩
  · rw [hf] at h0; cases h0
  · rw [hf] at h1
    cases h1
    refine ⟨some ⟨g, 0, none⟩, t.ments.length, by rw [h2, hn, hx], ⟨by rw [hx]; exact Nat.le_refl _, hlen, fun h => by cases h⟩, intsE_blk h3, hb⟩
theorem wrong_is {best : List Int} {found : Bool} (h : Found 2 (wrongS (exTown 2)) 4 best found) : found = true ∧ best = [0] := by
  have h1 : wrongS (exTown 2) 1 = true := by
    unfold wrongS
    have := exTown_wrong
    have : 0 < (fairL (exTown 2) 1).length := by
      cases hq : fairL (exTown 2) 1 with
      | nil => exact absurd hq this
      | cons a l => simp
    exact decide_eq_true this
  have h0 : wrongS (exTown 2) 0 = false := by
    unfold wrongS
    rw [exTown_first2]
    rfl
  cases found with
  | false => have := (h.1 rfl).2 1 (by omega); rw [h1] at this; cases this
  | true =>
    refine ⟨rfl, ?_⟩
    obtain ⟨⟨s, hs1, hs2, hs3⟩, hm⟩ := h.2 rfl
    have hk := hm [0] ⟨1, by omega, h1, by decide⟩
    have h4 : s = 0 ∨ s = 1 ∨ s = 2 ∨ s = 3 := by omega
    rcases h4 with rfl | rfl | rfl | rfl
    · rw [h0] at hs2; cases hs2
    · rw [hs3]; decide
    · rw [hs3] at hk; exact absurd hk (by decide)
    · rw [hs3] at hk; exact absurd hk (by decide)
section
variable (a1 a2 a3 a4 : Option Addr) (k4 : Nat) (w : World)
set_option maxRecDepth 100000
theorem Y_First0 (hm : TownC w a1 a2 a3 a4 2 4 4 k4 (exTown 0)) : Calls Tryz.prog 31 #[exTV a1 a2 a3 a4 0 k4] w (GivesF w [0, 0, 1, 1] 4 0) :=
  (PFirst_any a1 a2 a3 a4 2 4 4 k4 (exTown 0) w hm (exTown_valid 0 (by decide))).mono fun e w' h => givesF_of exTown_first rfl (by rw [exTown_first]; rfl) (by decide) h
theorem Y_First1 (hm : TownC w a1 a2 a3 a4 2 4 4 k4 (exTown 1)) : Calls Tryz.prog 31 #[exTV a1 a2 a3 a4 1 k4] w (GivesF w [0, 0, 1, 1] 2 0) :=
  (PFirst_any a1 a2 a3 a4 2 4 4 k4 (exTown 1) w hm (exTown_valid 1 (by decide))).mono fun e w' h => givesF_of exTown_first1 rfl (by rw [exTown_first1]; rfl) (by decide) h
theorem Y_First2 (hm : TownC w a1 a2 a3 a4 2 4 4 k4 (exTown 2)) : Calls Tryz.prog 31 #[exTV a1 a2 a3 a4 2 k4] w (GivesV w (.tuple #[.slice none 0 0, .int .i64 0, .int .i64 8])) :=
  (PFirst_any a1 a2 a3 a4 2 4 4 k4 (exTown 2) w hm (exTown_valid 2 (by decide))).mono fun e w' ⟨h, hb⟩ => by
    rcases h with ⟨-, h⟩ | ⟨x, r, g, h, -⟩
    · exact ⟨h, hb⟩
    · rw [exTown_first2] at h; cases h
theorem Y_Same (k : Nat) (hk : k ≤ 2) (a b n : Nat) (r : Int) (hl : (fairL (exTown k) 0).length = n + 1) (hr : settledN (sameN (exTown k) a b) (n + 1) = r) (ha : a < 4) (hb : b < 4) (hab : a ≠ b) (hkl : (exTown k).ties.length = k) (hm : TownC w a1 a2 a3 a4 2 4 4 k4 (exTown k)) : Calls Tryz.prog 10 #[exTV a1 a2 a3 a4 k k4, .int .i64 (a : Int), .int .i64 (b : Int)] w (GivesV w (.tuple #[.int .i64 r, .int .i64 0])) := by
  have C := PSame_any a1 a2 a3 a4 2 4 4 k4 (exTown k) a b w hm (exTown_valid k hk) hab ha hb
  rw [hl, hr, if_neg (fun h => by rw [h] at hl; cases hl), hkl] at C
  exact C
theorem Y_Persons (hm : TownC w a1 a2 a3 a4 2 4 4 k4 (exTown 1)) : Calls Tryz.prog 32 #[exTV a1 a2 a3 a4 1 k4] w (GivesV w (.tuple #[.agg #[.int .i64 2, .int .i64 3], .int .i64 0])) := by
  have C := PPersons_any a1 a2 a3 a4 2 4 4 k4 (exTown 1) w hm (exTown_valid 1 (by decide))
  have hp : personsN (exTown 1) = (2, 3) := by unfold personsN; rw [exTown_first1]; decide
  rw [hp, exTown_first1, if_neg (by simp)] at C
  exact C
theorem Y_Born (hm : TownC w a1 a2 a3 a4 2 4 4 k4 (exTown 1)) : Calls Tryz.prog 33 #[exTV a1 a2 a3 a4 1 k4, .int .i64 0] w (GivesV w (.tuple #[.agg #[.int .i64 105, .int .i64 110], .int .i64 0])) := by
  have C := PBorn_any a1 a2 a3 a4 2 4 4 k4 (exTown 1) 0 w hm (exTown_valid 1 (by decide)) (by decide)
  rw [exTown_born, exTown_first1, if_neg (by simp)] at C
  exact C
theorem Y_Why (a b : Nat) (r : Int) (ha : a < 4) (hb : b < 4) (hab : a ≠ b) (hr : whyN (exTown 0) a b = r) (hm : TownC w a1 a2 a3 a4 2 4 4 k4 (exTown 0)) : Calls Tryz.prog 9 #[exTV a1 a2 a3 a4 0 k4, .int .i64 (a : Int), .int .i64 (b : Int)] w (GivesV w (.tuple #[.int .i64 r, .int .i64 0])) := by
  have C := PWhyX_any a1 a2 a3 a4 2 4 4 k4 (exTown 0) a b w hm (exTown_valid 0 (by decide)) hab ha hb
  rw [hr] at C
  exact C
theorem Y_Wrong (hm : TownC w a1 a2 a3 a4 2 4 4 k4 (exTown 2)) : Calls Tryz.prog 34 #[exTV a1 a2 a3 a4 2 k4] w (GivesE w [0] 0) :=
  (PWrong_any a1 a2 a3 a4 2 4 4 k4 (exTown 2) w hm (exTown_valid 2 (by decide))).mono fun e w' ⟨v, best, found, hF, he, hi, hb⟩ => by
    obtain ⟨rfl, rfl⟩ := wrong_is (show Found 2 (wrongS (exTown 2)) 4 best found from hF.out)
    exact givesE_of he hi rfl hb
theorem Y_Who (hm : TownC w a1 a2 a3 a4 2 4 4 k4 (exTown 0)) : Calls Tryz.prog 13 #[exTV a1 a2 a3 a4 0 k4, .agg #[.int .i64 0, .int .i64 1, .int .i64 120, .int .i64 120, .int .i64 (-1)]] w (GivesE w [1, 2] 0) :=
  (PWho_any a1 a2 a3 a4 2 4 4 k4 (exTown 0) ⟨0, 1, 120, 120, -1⟩ w hm (exTown_valid 0 (by decide)) (by decide +kernel)).mono fun e w' ⟨h, hb⟩ => by
    rcases h with ⟨h, -⟩ | ⟨-, v, h1, h2⟩
    · rw [exTown_first] at h; cases h
    · rw [exTown_who] at h2
      obtain ⟨a, c, rfl, h3, h4⟩ := h2
      exact ⟨a, c, h1, h3, h4, hb⟩
end
end Go.Proofs.YtklconegomgjaaaGreat
