/- What is proved here: truths, as an iterator. Conditions: the room is looked at and valid. -/
import Derived.Test.YtmhbjohpggghgaaSeSin
set_option linter.unusedVariables false
set_option linter.unusedSimpArgs false
namespace Go.Proofs.Ytmhbjohpggghgaa
open Go Go.RowKit

theorem sure_not : ∀ a : Nat, a < 16 → ∀ b : Nat, b < 16 → (bits BinOp.andNot IntKind.i64 (a : Int) (b : Int) != 0) = !decide (a &&& (15 ^^^ b) = 0) := by decide +kernel
theorem two_pow_wrap4 : ∀ n : Nat, n ≤ 4 → wrap64 (2 ^ n) = ((2 ^ n : Nat) : Int) := by decide +kernel
theorem two_pow_le4 : ∀ n : Nat, n ≤ 4 → 2 ^ n ≤ 16 := by decide +kernel
theorem day_index (d : Nat → Int) (u : Nat) (hu : u < 4) (w : World) : (Instr.index 110 (arr4 d) (.int .i64 (u : Int))).run Try.prog w = .ok (.int .i64 (d u)) w := by
  obtain rfl | rfl | rfl | rfl : u = 0 ∨ u = 1 ∨ u = 2 ∨ u = 3 := by omega
  all_goals kernel_rfl
def leI (a b : Int) : Bool := decide (a ≤ b)
/-- What the iterator needs: the room, and the cell that points to it. -/
def ZIt (W : World) (bm bo rc : Nat) (a1 a2 a3 a4 a5 : Option Addr) (k1 k2 k3 k4 k5 : Nat) (r : SeRoom) (but : Nat) : Prop := RoomW W bm bo a1 a2 a3 a4 a5 k1 k2 k3 k4 k5 r but ∧ W.heap[rc]? = some (.cells #[.pointer (some ⟨bm, 0, none⟩)] 105 (0, 0))
/-- One step of it. -/
def RIt (A A' : World) (bm bo : Nat) (a1 a2 a3 a4 a5 : Option Addr) (k1 k2 k3 k4 k5 : Nat) (r : SeRoom) (but : Nat) : Prop := A.grownBy A' (some bo) ∧ RoomW A' bm bo a1 a2 a3 a4 a5 k1 k2 k3 k4 k5 r but
theorem okHeard_succ (r : SeRoom) (but set k : Nat) : okHeard r but set (k + 1) = (okHeard r but set k && (but.testBit k || heardSo r set k)) := by
  unfold okHeard; rw [List.range_succ, List.all_append]; simp
theorem okHeard_no {r : SeRoom} {but set k n : Nat} (hk : k < n) (h : but.testBit k = false) (h2 : heardSo r set k = false) : okHeard r but set n = false := by
  unfold okHeard
  rw [List.all_eq_false]
  exact ⟨k, List.mem_range.2 hk, by simp [h, h2]⟩
theorem filter_yes {p : Nat → Bool} {k : Nat} (h : p k = true) : (List.range (k + 1)).filter p = (List.range k).filter p ++ [k] := by
  rw [List.range_succ, List.filter_append]; simp [h]
theorem filter_no {p : Nat → Bool} {k : Nat} (h : p k = false) : (List.range (k + 1)).filter p = (List.range k).filter p := by
  rw [List.range_succ, List.filter_append]; simp [h]
theorem filter_pre {p : Nat → Bool} {k n : Nat} (hk : k < n) (h : p k = true) : (List.range k).filter p ++ [k] <+: (List.range n).filter p := by
  rw [← filter_yes h]
  obtain ⟨m, rfl⟩ : ∃ m, n = (k + 1) + m := ⟨n - (k + 1), by omega⟩
  rw [show List.range (k + 1 + m) = List.range (k + 1) ++ (List.range m).map (k + 1 + ·) from List.range_add, List.filter_append]
  exact List.prefix_append _ _

set_option maxRecDepth 100000 in
set_option maxHeartbeats 2000000 in
theorem STruths1_any (a1 a2 a3 a4 a5 : Option Addr) (k1 k2 k3 k4 k5 : Nat) (r : SeRoom) (bm bo rc but l : Nat) (hv : SeValid r) (hbut : but < 64) (W : World) (J Jx : List Nat → World → Prop) (hJ : ∀ s A A', J s A → RIt A A' bm bo a1 a2 a3 a4 a5 k1 k2 k3 k4 k5 r but → J s A') (hJx : ∀ s A A', Jx s A → RIt A A' bm bo a1 a2 a3 a4 a5 k1 k2 k3 k4 k5 r but → Jx s A')
    (hJZ : ∀ s A, J s A → ZIt A bm bo rc a1 a2 a3 a4 a5 k1 k2 k3 k4 k5 r but)
    (hY : ∀ (pre : List Nat) (x : Nat) (W1 : World), J pre W1 → pre ++ [x] <+: truthsP r but → YieldAt Fence.wide 0 Try.prog l #[.int .i64 (x : Int)] W1 fun e W' => (e = .returned (.bool true) ∧ J (pre ++ [x]) W') ∨ (e = .returned (.bool false) ∧ Jx (pre ++ [x]) W')) (hj : J [] W) :
    Calls Try.prog 119 #[.func (.yield l) #[] #[], .pointer (some ⟨rc, 0, none⟩)] W fun e W' => (∃ v, e = .returned v) ∧ (J (truthsP r but) W' ∨ ∃ pre, Jx pre W') := by
  have v3 := hv.nl
  have v5 := hv.nh
  have hp := two_pow_wrap4 r.leaks.length v3
  have hp16 := two_pow_le4 r.leaks.length v3
  obtain ⟨p, hpp⟩ : ∃ p, p = okSet r but := ⟨_, rfl⟩
  have HT : Hid (truthsP r but = (List.range (2 ^ r.leaks.length)).filter p) := Lib.hid (by rw [hpp]; rfl)
  have HP := Lib.hid hpp
  clear hpp
  rw [HT.out] at hY ⊢
  generalize hNN : 2 ^ r.leaks.length = N at hp hp16 hY ⊢
  have HNN := Lib.hid hNN
  clear hNN
  have hz := hJZ _ _ hj
  have l3 := hz.1.room.ok3.len
  have l5 := hz.1.room.ok5.len
  obtain ⟨y0, y1, y2, y3, y4, y5, y6, y7, y8⟩ := hz.1.blk.cells
  have x0 := blk_cell 0 hz.2 rfl
  simp only [List.getElem_toArray, List.getElem_cons_zero] at x0
  have xz := lt_of_block hz.2
  clear hz
  replace hY := Lib.hid hY
  replace hJ := Lib.hid hJ
  replace hJZ := Lib.hid hJZ
  go_enter Try.func119, Try.ntmps119
  go_wp2
  go_step3
  go_wp2
  go_step3
  go_wp2
  rw [hp]
  clear hp
  go_loopw [13] (fun i wr => ∃ k : Nat, k ≤ N ∧ i = .int .i64 k ∧ J ((List.range k).filter p) wr) (fun i _ => N - (intOf i).toNat)
  case atStart => exact ⟨0, Nat.zero_le _, rfl, hj⟩
  case round =>
    clear y0 y1 y2 y3 y4 y5 y6 y7 y8 x0 xz hj
    obtain ⟨k, hk, rfl, hj⟩ := hrel
    have hz := hJZ.out _ _ hj
    obtain ⟨y0, y1, y2, y3, y4, y5, y6, y7, y8⟩ := hz.1.blk.cells
    have x0 := blk_cell 0 hz.2 rfl
    simp only [List.getElem_toArray, List.getElem_cons_zero] at x0
    have xz := lt_of_block hz.2
    by_cases hlt : k < N
    · have hs := sure_not _ (sureTo_lt r _ v3) k (by omega)
      have HPK : Hid (p k = (sureIn r r.leaks.length k && okHeard r but k r.heard.length)) := Lib.hid (by rw [HP.out]; rfl)
      have hsi := sureIn_bits r v3 k (by omega)
      rw [← hsi] at hs
      clear hsi
      have HNO := Lib.hid (fun h : p k = false => filter_no (p := p) h)
      have HYES := Lib.hid (fun h : p k = true => filter_yes (p := p) h)
      have HPRE := Lib.hid (fun h : p k = true => filter_pre (p := p) hlt h)
      have hk16 : (k : Int) < 16 := by omega
      generalize sureIn r r.leaks.length k = si at hs HPK
      cases si
      · simp only [Bool.not_false] at hs
        replace HNO := Lib.hid (HNO.out (by rw [HPK.out]; rfl))
        go_wp2
        go_roundw
        case rel => exact ⟨k + 1, by omega, by go_num, by rw [HNO.out]; exact hj⟩
        case measure => simp [intOf]; omega
      · simp only [Bool.not_true] at hs
        obtain ⟨wo, hwo⟩ : ∃ wo : World, wo = wr := ⟨_, rfl⟩
        subst hwo
        go_wp2
        go_loopw [29] (fun i vr => ∃ j : Nat, j ≤ r.heard.length ∧ i = .int .i64 j ∧ J ((List.range k).filter p) vr ∧ Hid (okHeard r but k j = true)) (fun i _ => r.heard.length - (intOf i).toNat)
        case atStart => exact ⟨0, Nat.zero_le _, rfl, hj, Lib.hid rfl⟩
        case round =>
          clear y0 y1 y2 y3 y4 y5 y6 y7 y8 x0 xz hj hz
          obtain ⟨j, hjl, rfl, hj, HH⟩ := hrel
          have hz := hJZ.out _ _ hj
          obtain ⟨y0, y1, y2, y3, y4, y5, y6, y7, y8⟩ := hz.1.blk.cells
          have x0 := blk_cell 0 hz.2 rfl
          simp only [List.getElem_toArray, List.getElem_cons_zero] at x0
          have xz := lt_of_block hz.2
          by_cases hlj : j < r.heard.length
          · have hb := bit_and but hbut j (by omega)
            have HS := Lib.hid (okHeard_succ r but k j)
            have HNH := Lib.hid (fun h h2 => okHeard_no (r := r) (but := but) (set := k) hlj h h2)
            have hvh := hv.heard j hlj
            have HSO : Hid (heardSo r k j = (r.heard[j].knew == leI (sinceP r k r.heard[j].secret.toNat r.heard[j].writer.toNat) r.heard[j].day)) := Lib.hid (by
              unfold heardSo; rw [List.getElem?_eq_getElem hlj]; unfold soB leI; simp only; rw [dayOf_bits hv])
            obtain ⟨RM, hRM⟩ : ∃ RM : World → Prop, RM = fun V => RoomW V bm bo a1 a2 a3 a4 a5 k1 k2 k3 k4 k5 r but := ⟨_, rfl⟩
            have hRz : RM wr := by rw [hRM]; exact hz.1
            have hRb : ∀ A A', RM A → Below A.heap.size A A' → RM A' := fun A A' h hb => by rw [hRM] at h ⊢; exact h.below hb
            have hRk : ∀ A A', RM A → A.grownBy A' (some bo) → Keeps A A' := fun A A' h hg => by rw [hRM] at h; exact h.keeps hg
            have hRJ : ∀ A A', J ((List.range k).filter p) A → A.grownBy A' (some bo) → RM A' → J ((List.range k).filter p) A' := fun A A' h hg hR => hJ.out _ _ _ h ⟨hg, by rw [hRM] at hR; exact hR⟩
            have SIa := fun (s : Nat) (hs : s < r.kept.length) (V : World) (hV : RM V) => SSince_any a1 a2 a3 a4 a5 k1 k2 k3 k4 k5 r bm bo but k s V (by rw [hRM] at hV; exact hV) hv (by omega) hs
            have SI0 : ∀ (s : Nat), s < r.kept.length → ∀ V, RM V → Calls Try.prog 80 #[.pointer (some ⟨bm, 0, none⟩), askV k s] V fun e w' => e = .returned (arr4 (sinceP r k s)) ∧ V.grownBy w' (some bo) ∧ RM w' := fun s hs V hV => (SIa s hs V hV).mono fun e w' h => ⟨h.1, h.2.1, by rw [hRM]; exact h.2.2⟩
            replace hRb := Lib.hid hRb
            replace hRk := Lib.hid hRk
            replace hRJ := Lib.hid hRJ
            replace SI0 := Lib.hid SI0
            clear SIa hRM
            obtain ⟨b, off, rfl, hbb, h1, h2, h3, h4⟩ := hz.1.room.heard j hlj
            generalize r.heard[j] = x at HSO hvh h1 h2 h3 h4
            obtain ⟨who, sec, day, knew⟩ := x
            simp only at HSO hvh h1 h2 h3 h4
            obtain ⟨u, rfl⟩ : ∃ u : Nat, who = u := ⟨who.toNat, by omega⟩
            obtain ⟨sc, rfl⟩ : ∃ sc : Nat, sec = sc := ⟨sec.toNat, by omega⟩
            have vw := hv.nw
            have hu4 : u < 4 := by omega
            have hj64 : (j : Int) < 64 := by omega
            have hbut64 : (but : Int) < 64 := by omega
            simp only [Int.toNat_natCast] at HSO
            have HJ1 := Lib.hid (fun o => hJ.out _ _ (wr.alloc o) hj ⟨grown_below ((Below.refl _ _).alloc (Nat.le_refl _) _), hz.1.below ((Below.refl _ _).alloc (Nat.le_refl _) _)⟩)
            cases hbt : but.testBit j
            · rw [hbt] at hb HS
              replace HNH := Lib.hid (HNH.out hbt)
              clear hbt
              have hix := day_index (sinceP r k sc) u hu4
              have SI := SI0.out sc (by omega)
              clear SI0
              obtain ⟨d, hd⟩ : ∃ d, d = sinceP r k sc := ⟨_, rfl⟩
              rw [← hd] at hix SI HSO
              clear hd
              obtain ⟨du, hdu⟩ : ∃ x, x = d u := ⟨_, rfl⟩
              rw [← hdu] at hix HSO
              clear hdu
              unfold askV at SI
              have SI := Lib.hid SI
              go_upto_region 8 with (fail)
              obtain ⟨Y, hY8⟩ : ∃ Y : World, Y = wr.alloc (.cells #[.int .i64 (u : Int), .int .i64 (sc : Int), .int .i64 day, .bool knew] 74) := ⟨_, rfl⟩
              rw [← hY8]
              have HbY : Below wr.heap.size wr Y := by rw [hY8]; exact (Below.refl _ _).alloc (Nat.le_refl _) _
              have hYb : Y.heap[wr.heap.size]? = some (.cells #[.int .i64 (u : Int), .int .i64 (sc : Int), .int .i64 day, .bool knew] 74 (0, 0)) := by rw [hY8]; exact alloc_at _ _ rfl
              have HJY := Lib.hid (show J ((List.range k).filter p) Y by rw [hY8]; exact HJ1.out _)
              have hRY := hRb.out _ _ hRz HbY
              have hcY : Y.heap[rc]? = some (.cells #[.pointer (some ⟨bm, 0, none⟩)] 105 (0, 0)) := (HbY.block _ xz).trans hz.2
              clear hY8 y0 y1 y2 y3 y4 y5 y6 y7 y8 x0 HJ1 hj
              apply wp_mid _ (fun V => Y.grownBy V (some bo) ∧ RM V)
              · have KE : Hid (∀ V, Y.grownBy V (some bo) → RM V → (Y.grownBy V (some bo) ∧ RM V ∧ V.cell? ⟨rc, 0, none⟩ = some (.pointer (some ⟨bm, 0, none⟩)) ∧ V.cell? ⟨wr.heap.size, 0, none⟩ = some (.int .i64 (u : Int)) ∧ V.cell? ⟨wr.heap.size, 1, none⟩ = some (.int .i64 (sc : Int)) ∧ V.cell? ⟨wr.heap.size, 2, none⟩ = some (.int .i64 day) ∧ V.cell? ⟨wr.heap.size, 3, none⟩ = some (.bool knew) ∧ wr.heap.size < V.heap.size ∧ rc < V.heap.size)) := Lib.hid (fun V hg hR => by
                  have hk := hRk.out _ _ hRY hg
                  exact ⟨hg, hR, hk.2 _ _ (blk_cell 0 hcY rfl), hk.2 _ _ (blk_cell 0 hYb rfl), hk.2 _ _ (blk_cell 1 hYb rfl), hk.2 _ _ (blk_cell 2 hYb rfl), hk.2 _ _ (blk_cell 3 hYb rfl), Nat.lt_of_lt_of_le (lt_of_block hYb) hk.1, Nat.lt_of_lt_of_le (lt_of_block hcY) hk.1⟩)
                have hg0 : Y.grownBy Y.drew (some bo) := grown_below (below_drew' (Below.refl _ _))
                have hR0 := hRb.out _ _ hRY (below_drew' (Below.refl _ _))
                go_region_held3 (fun V => Y.grownBy V (some bo) ∧ RM V ∧ V.cell? ⟨rc, 0, none⟩ = some (.pointer (some ⟨bm, 0, none⟩)) ∧ V.cell? ⟨wr.heap.size, 0, none⟩ = some (.int .i64 (u : Int)) ∧ V.cell? ⟨wr.heap.size, 1, none⟩ = some (.int .i64 (sc : Int)) ∧ V.cell? ⟨wr.heap.size, 2, none⟩ = some (.int .i64 day) ∧ V.cell? ⟨wr.heap.size, 3, none⟩ = some (.bool knew) ∧ wr.heap.size < V.heap.size ∧ rc < V.heap.size) (first | exact KE.out _ hg0 hR0 | exact KE.out _ hg1 hR1) (first
                  | (go_at_call 80; refine (SI.out _ (by assumption)).mono ?_; rintro e w2 ⟨rfl, hgs, hR1⟩; have hg1 := grown_trans hg0 hgs; dsimp only))
                exact ⟨rfl, hg1, hR1⟩
              rintro V ⟨hgV, hRV⟩
              have hJV := hRJ.out _ _ HJY.out hgV hRV
              clear HJY hgV hRV hYb hcY HbY SI hix hz hRz
              have HSOt := Lib.hid (fun h : (knew == leI du day) = true => show okHeard r but k (j + 1) = true by rw [HS.out, HH.out, HSO.out, h]; rfl)
              have HSOf := Lib.hid (fun h : (knew == leI du day) = false => HNO.out (show p k = false by rw [HPK.out, HNH.out (by rw [HSO.out, h])]; rfl))
              clear HSO HNH
              go_wp2
              · have hne : (!knew == decide (du ≤ day)) = true := by assumption
                have HG := HSOf.out (by unfold leI; revert hne; cases knew <;> cases decide (du ≤ day) <;> simp)
                go_roundw
                case rel => exact ⟨k + 1, by omega, by go_num, by rw [HG]; exact hJV⟩
                case measure => simp [intOf]; omega
              · have hne : (!knew == decide (du ≤ day)) = false := by assumption
                have HG := HSOt.out (by unfold leI; revert hne; cases knew <;> cases decide (du ≤ day) <;> simp)
                go_roundw
                case rel => exact ⟨j + 1, by omega, by go_num, hJV, Lib.hid HG⟩
                case measure => simp [intOf]; omega
            · rw [hbt] at hb HS
              replace HS := Lib.hid (show okHeard r but k (j + 1) = true by rw [HS.out, HH.out]; rfl)
              clear hbt HNH
              go_wp2
              go_roundw
              case rel => exact ⟨j + 1, by omega, by go_num, HJ1.out _, HS⟩
              case measure => simp [intOf]; omega
          · obtain rfl : j = r.heard.length := by omega
            have hpk : p k = true := by rw [HPK.out, HH.out]; rfl
            have HY' := hY.out _ _ _ hj (HPRE.out hpk)
            rw [← HYES.out hpk] at HY'
            obtain ⟨fn, tmps, assign, body, hyr, hR⟩ := HY'
            have HR := Lib.hid hR
            clear hR
            go_upto_region 10 with (fail)
            refine (wpIn_wide (n := 0)).1 ?_
            gi_wp2
            refine ⟨rfl, HR.out.mono ?_⟩
            rintro e W2 (⟨rfl, hq⟩ | ⟨rfl, hq⟩)
            · gi_wp2
              go_wp2
              go_roundw
              case rel => exact ⟨k + 1, by omega, by go_num, hq⟩
              case measure => simp [intOf]; omega
            · gi_wp2
              go_wp2
              (try simp only [Exit.inBlock, Exit.then])
              rw [Exit.noGoto_ret]
              exact bodyPost_ret (results_none rfl _ _ _) rfl ⟨⟨_, rfl⟩, .inr ⟨_, hq⟩⟩
    · obtain rfl : k = N := by omega
      go_wp2
      (try simp only [Exit.noGoto])
      go_end0
      exact ⟨⟨_, rfl⟩, .inl hj⟩

theorem STruths_any (bm : Nat) (w : World) : Calls Try.prog 113 #[.pointer (some ⟨bm, 0, none⟩)] w fun e w' => e = .returned (.func (.func 119) #[] #[.pointer (some ⟨w.heap.size, 0, none⟩)]) ∧ w' = w.alloc (.cells #[.pointer (some ⟨bm, 0, none⟩)] 105) := by
  go_enter Try.func113, Try.ntmps113
  go_wp2
  go_ret
  exact ⟨rfl, rfl⟩
/-- truths, as an iterator. -/
theorem STruths_seq (a1 a2 a3 a4 a5 : Option Addr) (k1 k2 k3 k4 k5 : Nat) (r : SeRoom) (bm bo rc but : Nat) (hv : SeValid r) (hbut : but < 64) :
    SeqM Try.prog 119 #[.pointer (some ⟨rc, 0, none⟩)] (fun s : Nat => #[.int .i64 (s : Int)]) (fun A A' => RIt A A' bm bo a1 a2 a3 a4 a5 k1 k2 k3 k4 k5 r but) (fun A => ZIt A bm bo rc a1 a2 a3 a4 a5 k1 k2 k3 k4 k5 r but) (truthsP r but) :=
  fun l J Jx W hJ hJx hJZ _ hY hj => callsIn_wide.2 (STruths1_any a1 a2 a3 a4 a5 k1 k2 k3 k4 k5 r bm bo rc but l hv hbut W J Jx hJ hJx hJZ hY hj)
end Go.Proofs.Ytmhbjohpggghgaa
