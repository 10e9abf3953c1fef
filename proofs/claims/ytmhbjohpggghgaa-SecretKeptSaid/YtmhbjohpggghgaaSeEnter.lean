/- What is proved here: the contract of enter. Conditions: the room and the numbers lie in memory. -/
import Derived.Test.YtmhbjohpggghgaaSeSome
import Derived.Test.YtmhbjohpggghgaaSeCheck
import Derived.IntWalk
set_option linter.unusedVariables false
set_option linter.unusedSimpArgs false
namespace Go.Proofs.Ytmhbjohpggghgaa
open Go Go.RowKit Go.Shelf

/-- Each number is below the next one, by turns. -/
def numsOk : List Int → Bool
  | a :: b :: l => inB a 0 (b - 1) && numsOk l
  | _ => true
def enterErr (r : SeRoom) (other : Int) (ns : List Int) : Int := if seErr r = 0 then (if numsOk ns then (if other = 0 then (if (truthsP r 0).length = 0 then 8 else 0) else other) else 4) else seErr r
/-- What enter returns. -/
def EnterV (w w' : World) (v : Value) (er : Int) (a1 a2 a3 a4 a5 : Option Addr) (k1 k2 k3 k4 k5 : Nat) (r : SeRoom) : Prop := (er = 0 → ∃ bm bo, v = .pointer (some ⟨bm, 0, none⟩) ∧ RoomW w' bm bo a1 a2 a3 a4 a5 k1 k2 k3 k4 k5 r 0 ∧ w.heap.size ≤ bo) ∧ (er ≠ 0 → v = .pointer none)
theorem enterV_no {w w' : World} {er : Int} {a1 a2 a3 a4 a5 : Option Addr} {k1 k2 k3 k4 k5 : Nat} {r : SeRoom} (h : er ≠ 0) : EnterV w w' (.pointer none) er a1 a2 a3 a4 a5 k1 k2 k3 k4 k5 r := ⟨fun h2 => absurd h2 h, fun _ => rfl⟩
theorem enterV_yes {w w' : World} {v : Value} {er : Int} {a1 a2 a3 a4 a5 : Option Addr} {k1 k2 k3 k4 k5 : Nat} {r : SeRoom} (h : er = 0) (k : ∃ bm bo, v = .pointer (some ⟨bm, 0, none⟩) ∧ RoomW w' bm bo a1 a2 a3 a4 a5 k1 k2 k3 k4 k5 r 0 ∧ w.heap.size ≤ bo) : EnterV w w' v er a1 a2 a3 a4 a5 k1 k2 k3 k4 k5 r := ⟨fun _ => k, fun h2 => absurd h h2⟩
theorem tup2 {v : Value} {k : IntKind} {a b : Int} (h : a = b) : Ending.returned (.tuple #[v, .int k a]) = .returned (.tuple #[v, .int k b]) := by rw [h]
set_option maxRecDepth 100000 in
set_option maxHeartbeats 2000000 in
theorem SEnter_any (a1 a2 a3 a4 a5 : Option Addr) (k1 k2 k3 k4 k5 : Nat) (r : SeRoom) (other : Int) (ad : Option Addr) (ns : List Int) (c : Nat) (w : World) (hm : RoomC w a1 a2 a3 a4 a5 k1 k2 k3 k4 k5 r) (hs : SlOk ad ns.length c) (hi : IntsC w ad ns) (hev : ns.length % 2 = 0) (hl8 : ns.length ≤ 8) (hb : ∀ j (h : j < ns.length), j % 2 = 1 → 0 ≤ ns[j] ∧ ns[j] ≤ 9223372036854775807) :
    Calls Try.prog 77 #[(.agg #[.slice a1 r.writers.length k1, .slice a2 r.kept.length k2, .slice a3 r.leaks.length k3, .slice a4 r.letters.length k4, .slice a5 r.heard.length k5]), .int .i64 other, .slice ad ns.length c] w fun e w' => ∃ v, e = .returned (.tuple #[v, .int .i64 (enterErr r other ns)]) ∧ EnterV w w' v (enterErr r other ns) a1 a2 a3 a4 a5 k1 k2 k3 k4 k5 r ∧ Below w.heap.size w w' := by
  have HE : Hid (enterErr r other ns = if seErr r = 0 then (if numsOk ns then (if other = 0 then (if (truthsP r 0).length = 0 then 8 else 0) else other) else 4) else seErr r) := rfl
  generalize enterErr r other ns = er at HE ⊢
  have HC : Hid (seErr r = (seCheck r).2.2) := rfl
  have C := fun (W : World) (h : Below w.heap.size w W) => SCheck_any _ _ _ _ _ _ _ _ _ _ r W (hm.mono h)
  generalize seCheck r = ck at C HC
  obtain ⟨p1, p2, ce⟩ := ck
  simp only at C HC
  have C := Lib.hid C
  have hQ := Below.refl (w.heap.size + 1) (w.alloc (.cells #[.slice a1 r.writers.length k1, .slice a2 r.kept.length k2, .slice a3 r.leaks.length k3, .slice a4 r.letters.length k4, .slice a5 r.heard.length k5] 28))
  have x0 := box_cell hQ 0 _ rfl
  have x1 := box_cell hQ 1 _ rfl
  have x2 := box_cell hQ 2 _ rfl
  have x3 := box_cell hQ 3 _ rfl
  have x4 := box_cell hQ 4 _ rfl
  have xz := box_size hQ
  by_cases hce : ce = 0
  · have g1 := nei_f hce
    have hv := seValid_of (HC.out.trans hce)
    replace HE := Lib.hid (HE.out.trans (if_pos (HC.out.trans hce)))
    have hcl := hs.1
    have hcm := hs.2.1
    have HN0 : Hid (numsOk (ns.drop 0) = numsOk ns) := Lib.hid rfl
    have HEV := Lib.hid hev
    clear hce HC hev
    go_enter Try.func77, Try.ntmps77
    go_wp2_with (go_at_call 16; go_must (refine (C.out _ (box_old hQ)).mono ?_; rintro e w2 ⟨rfl, hb2⟩; have hQ2 := hQ.trans (hb2.mono (by simp)); dsimp only))
    go_loopw [11] (fun i wr => ∃ k : Nat, k ≤ ns.length ∧ i = .int .i64 k ∧ Hid (k % 2 = 0) ∧ Hid (numsOk (ns.drop k) = numsOk ns) ∧ Below (w.heap.size + 1) (w.alloc (.cells #[.slice a1 r.writers.length k1, .slice a2 r.kept.length k2, .slice a3 r.leaks.length k3, .slice a4 r.letters.length k4, .slice a5 r.heard.length k5] 28)) wr) (fun i _ => ns.length - (intOf i).toNat)
    case atStart => exact ⟨0, Nat.zero_le _, rfl, Lib.hid rfl, HN0, hQ2⟩
    case round =>
      clear x0 x1 x2 x3 x4 xz
      obtain ⟨k, hk, rfl, HK, HN, hQ3⟩ := hrel
      have x0 := box_cell hQ3 0 _ rfl
      have x1 := box_cell hQ3 1 _ rfl
      have x2 := box_cell hQ3 2 _ rfl
      have x3 := box_cell hQ3 3 _ rfl
      have x4 := box_cell hQ3 4 _ rfl
      have xz := box_size hQ3
      by_cases hlt : k < ns.length
      · have hlt1 : k + 1 < ns.length := by have := HK.out; have := HEV.out; omega
        have hdr : ns.drop k = ns[k] :: ns[k + 1] :: ns.drop (k + 2) := by
          rw [List.drop_eq_getElem_cons hlt, List.drop_eq_getElem_cons hlt1]
        have HNX : Hid (numsOk ns = (inB ns[k] 0 (ns[k + 1] - 1) && numsOk (ns.drop (k + 2)))) := Lib.hid (by rw [← HN.out, hdr]; rfl)
        obtain ⟨b, off, rfl, hbb, h1⟩ := (hi.mono (box_old hQ3)) k hlt
        obtain ⟨b', off', e', hbb', h2⟩ := (hi.mono (box_old hQ3)) (k + 1) hlt1
        cases e'
        have hbd := hb (k + 1) hlt1 (by have := HK.out; omega)
        clear hdr
        generalize ns[k] = x at h1 HNX
        generalize ns[k + 1] = y at h2 HNX hbd
        have B1 := fun (a : Nat) (W : World) (h : W.cell? ⟨a, 0, none⟩ = some (.int .i64 x)) => MBeyondOne_any x 0 (y - 1) a W h
        generalize inB x 0 (y - 1) = ok at HNX B1
        have B1 := Lib.hid B1
        have hzz := hQ3.size
        have hk8 : (k : Int) ≤ 8 := by omega
        have hk0 : (k : Int) + 1 < ns.length := by omega
        have hk1 : (k : Int) + 1 ≤ c := by omega
        go_upto_region 7 with (fail)
        have hw1 : IntKind.i64.wrap ((k : Int) + 1) = (k : Int) + 1 := IntWalk.i64_in _ (by omega)
        have hw2 : IntKind.i64.wrap (y - 1) = y - 1 := IntWalk.i64_in _ (by omega)
        have hw3 : ((k : Int) + 1).toNat = k + 1 := by omega
        have hw4 : (0 : Int) ≤ (k : Int) + 1 := by omega
        apply wp_mid _ (fun V => Below (w.heap.size + 1) (w.alloc (.cells #[.slice a1 r.writers.length k1, .slice a2 r.kept.length k2, .slice a3 r.leaks.length k3, .slice a4 r.letters.length k4, .slice a5 r.heard.length k5] 28)) V)
        · have KE : Hid (∀ V, Below wr.heap.size wr V → (Below wr.heap.size wr V ∧ V.cell? ⟨b, off + k, none⟩ = some (.int .i64 x) ∧ V.cell? ⟨b, off + (k + 1), none⟩ = some (.int .i64 y) ∧ b < V.heap.size)) := Lib.hid (fun V h => ⟨h, cell_below h h1, cell_below h h2, Nat.lt_of_lt_of_le hbb h.size⟩)
          have hB0 := below_drew' (Below.refl wr.heap.size wr)
          have hBa := below_drew' ((Below.refl _ wr).alloc (Nat.le_refl _) (.cells #[.int .i64 x] 3))
          go_region_held3 (fun V => Below wr.heap.size wr V ∧ V.cell? ⟨b, off + k, none⟩ = some (.int .i64 x) ∧ V.cell? ⟨b, off + (k + 1), none⟩ = some (.int .i64 y) ∧ b < V.heap.size) (exact KE.out _ (by assumption)) (first
            | (go_at_call 60; refine (B1.out _ _ ?_).mono ?_; (simp); rintro e w2 ⟨rfl, hb2⟩; have hB2 := hBa.trans (hb2.mono (by simp)); dsimp only))
          exact ⟨rfl, box_on hQ3 hB2⟩
        rintro V hV
        clear hw1 hw2 hw3 hw4
        cases ok
        · replace HE := Lib.hid (HE.out.trans (if_neg (by rw [HNX.out]; simp)))
          go_wp2
          go_ret2
          exact ⟨_, tup2 HE.out.symm, enterV_no (by rw [HE.out]; decide), box_old hV⟩
        · go_wp2
          go_roundw
          case rel => exact ⟨k + 2, by omega, by go_num, Lib.hid (by have := HK.out; omega), Lib.hid (by rw [HNX.out]; simp), hV⟩
          case measure => simp [intOf]; omega
      · have hk0 : ns.drop k = [] := List.drop_of_length_le (by omega)
        have hok : numsOk ns = true := by rw [← HN.out, hk0]; rfl
        replace HE := Lib.hid (HE.out.trans (if_pos hok))
        clear hok hk0
        by_cases ho : other = 0
        · have g2 := nei_f ho
          replace HE := Lib.hid (HE.out.trans (if_pos ho))
          clear ho
          have LK := Lib.hid (SLook_any _ _ _ _ _ _ _ _ _ _ r 0 wr (hm.mono (box_old hQ3)) hv)
          by_cases hp : 0 < (truthsP r 0).length
          · replace HE := Lib.hid (HE.out.trans (if_neg (by omega)))
            have HP : Hid (decide (0 < (truthsP r 0).length) = true) := Lib.hid (by simpa using hp)
            go_wp2_with (first
              | (go_at_call 90; go_must (refine (SSome_any _ _ _ _ _ _ _ _ _ _ r _ _ 0 _ hR2 hv (by omega)).mono ?_; rintro e w3 ⟨rfl, hg3, hR3⟩; rw [HP.out]; dsimp only))
              | (go_at_call 89; go_must (refine LK.out.mono ?_; rintro e w2 ⟨bm, bo, rfl, hR2, hb2, hbo⟩; dsimp only)))
            go_ret2
            exact ⟨_, tup2 HE.out.symm, enterV_yes HE.out ⟨_, _, rfl, hR3, by have := (box_old hQ3).size; omega⟩, ((box_old hQ3).trans (hb2.mono (box_old hQ3).size)).grown hg3 (Nat.le_trans (box_old hQ3).size hb2.size) (fun k e => by have := Option.some.inj e; have := (box_old hQ3).size; omega)⟩
          · replace HE := Lib.hid (HE.out.trans (if_pos (by omega)))
            have HP : Hid (decide (0 < (truthsP r 0).length) = false) := Lib.hid (by simpa using hp)
            go_wp2_with (first
              | (go_at_call 90; go_must (refine (SSome_any _ _ _ _ _ _ _ _ _ _ r _ _ 0 _ hR2 hv (by omega)).mono ?_; rintro e w3 ⟨rfl, hg3, hR3⟩; rw [HP.out]; dsimp only))
              | (go_at_call 89; go_must (refine LK.out.mono ?_; rintro e w2 ⟨bm, bo, rfl, hR2, hb2, hbo⟩; dsimp only)))
            go_ret2
            exact ⟨_, tup2 HE.out.symm, enterV_no (by rw [HE.out]; decide), ((box_old hQ3).trans (hb2.mono (box_old hQ3).size)).grown hg3 (Nat.le_trans (box_old hQ3).size hb2.size) (fun k e => by have := Option.some.inj e; have := (box_old hQ3).size; omega)⟩
        · have g2 := nei_t ho
          replace HE := Lib.hid (HE.out.trans (if_neg ho))
          go_wp2
          go_ret2
          exact ⟨_, tup2 HE.out.symm, enterV_no (by rw [HE.out]; exact ho), box_old hQ3⟩
  · have g1 := nei_t hce
    replace HE := Lib.hid (HE.out.trans (if_neg (by rw [HC.out]; exact hce)))
    go_enter Try.func77, Try.ntmps77
    go_wp2_with (go_at_call 16; go_must (refine (C.out _ (box_old hQ)).mono ?_; rintro e w2 ⟨rfl, hb2⟩; dsimp only))
    go_ret2
    exact ⟨_, tup2 (by rw [HE.out, HC.out]), enterV_no (by rw [HE.out, HC.out]; exact hce), box_old (hQ.trans (hb2.mono (by simp)))⟩
end Go.Proofs.Ytmhbjohpggghgaa
