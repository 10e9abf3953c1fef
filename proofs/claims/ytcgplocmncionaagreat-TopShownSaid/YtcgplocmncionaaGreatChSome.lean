/- What is proved here: some of layer 10, as an iterator over all sets. Conditions: the things lie in memory and are below 6. -/
import Derived.Test.YtcgplocmncionaaGreatChLookG
import Derived.Test.YtcgplocmncionaaGreatRangeX
import Derived.Deep.RegionHeld3
import Derived.Deep.DeepCutAuto
import Derived.BigQuiet
import Derived.IntWalk
set_option linter.unusedVariables false
set_option linter.unusedSimpArgs false
namespace Go.Proofs.YtcgplocmncionaaGreat
open Go Go.RowKit Go.Shelf
theorem store_fnC (P : Program) (w : World) (a : Addr) (m : Mode) (fn : Fn) (first captured : Array Value) : (store a (.func fn first captured) m).run P w = stored P w a (.func fn first captured) m := run_store P w a _ m rfl
attribute [local go_sem] store_fnC

/-- What the iterator reads: the things. -/
def SomeZ (A : World) (tb : Nat) (a : Option Addr) (cp : Nat) (L : List Nat) : Prop := A.heap[tb]? = some (.cells #[.slice a L.length cp] 23 (0, 0)) ∧ IntsC A a (L.map fun (x : Nat) => (x : Int))
@[reducible] def encS (s : Nat) : Array Value := #[.int .i64 (s : Int)]
/-- The iterator's own cells. -/
structure SomeO (A : World) (tb yb l : Nat) : Prop where
  y : A.heap[yb]? = some (.cells #[.func (.yield l) #[] #[]] 71 (0, 0))
  n : A.heap[yb + 1]? = some (.cells #[.func (.func 107) #[] #[.pointer (some ⟨yb, 0, none⟩), .pointer (some ⟨tb, 0, none⟩), .pointer (some ⟨yb + 1, 0, none⟩)]] 60 (0, 0))
theorem SomeO.above {A A' : World} {tb yb l B : Nat} (h : SomeO A tb yb l) (hb : Above B A A') (hB : B ≤ yb) : SomeO A' tb yb l := ⟨(hb.block _ hB (lt_of_block h.y)).trans h.y, (hb.block _ (by omega) (lt_of_block h.n)).trans h.n⟩
theorem SomeO.below {A A' : World} {tb yb l : Nat} (h : SomeO A tb yb l) (hb : Below A.heap.size A A') : SomeO A' tb yb l := ⟨(hb.block _ (lt_of_block h.y)).trans h.y, (hb.block _ (lt_of_block h.n)).trans h.n⟩
theorem or_bit64w : ∀ c : Nat, c < 64 → ∀ k : Nat, k < 6 → bits BinOp.or .i64 (c : Int) (IntKind.i64.wrap (2 ^ k)) = ((c ||| 2 ^ k : Nat) : Int) := by decide +kernel
theorem upto_pre {L : List Nat} {left k set j m : Nat} (h : j ≤ m) : setsUpto L left k set j <+: setsUpto L left k set m := by
  obtain ⟨d, rfl⟩ : ∃ d, m = j + d := ⟨m - j, by omega⟩
  clear h
  induction d with
  | zero => exact List.prefix_refl _
  | succ d ih => rw [← Nat.add_assoc, setsUpto_succ]; exact ih.trans (List.prefix_append _ _)
/-- How next answers. -/
def SomeE (B : Nat) (J Jx : List Nat → World → Prop) (out : List Nat) (W : World) (e : Ending) (W' : World) : Prop := (e = .returned (.bool true) ∧ J out W' ∧ Above B W W') ∨ (e = .returned (.bool false) ∧ ∃ pre, Jx pre W')
theorem SomeE.one {B : Nat} {J Jx : List Nat → World → Prop} {out : List Nat} {W W' : World} {e : Ending} (h : SomeE B J Jx out W e W') : ∃ b : Bool, e = .returned (.bool b) ∧ Hid ((b = true ∧ J out W' ∧ Above B W W') ∨ (b = false ∧ ∃ pre, Jx pre W')) := by
  rcases h with ⟨h1, h2⟩ | ⟨h1, h2⟩
  · exact ⟨true, h1, Lib.hid (.inl ⟨rfl, h2⟩)⟩
  · exact ⟨false, h1, Lib.hid (.inr ⟨rfl, h2⟩)⟩
def SomeC (a : Option Addr) (cp : Nat) (L : List Nat) (tb yb l B : Nat) (xs : List Nat) (J Jx : List Nat → World → Prop) (left : Nat) : Prop :=
  ∀ (li : Int) (k : Nat) (ki : Int) (set : Nat) (pre : List Nat) (W : World), li = left → left ≤ 6 → ki = k → set < 64 → SomeO W tb yb l → J pre W → pre ++ setsN L left k set <+: xs →
    Calls Tryz.prog 107 #[.int .i64 ki, .int .i64 li, .int .i64 (set : Int), .pointer (some ⟨yb, 0, none⟩), .pointer (some ⟨tb, 0, none⟩), .pointer (some ⟨yb + 1, 0, none⟩)] W (SomeE B J Jx (pre ++ setsN L left k set) W)
section
variable (a : Option Addr) (cp : Nat) (L : List Nat) (tb yb l B : Nat) (xs : List Nat) (J Jx : List Nat → World → Prop)
set_option maxRecDepth 100000 in
set_option maxHeartbeats 2000000 in
theorem CNext_zero (hB : B ≤ yb) (hJ : ∀ s A A', J s A → Below yb A A' → J s A')
    (hY : ∀ pre x W1, J pre W1 → pre ++ [x] <+: xs → YieldAt Fence.wide 0 Tryz.prog l (encS x) W1 fun e W' => (e = .returned (.bool true) ∧ J (pre ++ [x]) W' ∧ Above B W1 W') ∨ (e = .returned (.bool false) ∧ Jx (pre ++ [x]) W')) :
    SomeC a cp L tb yb l B xs J Jx 0 := by
  intro li k ki set pre W hli hle hki hset hO hj hpre
  obtain rfl : li = 0 := by omega
  have HY0 := hY pre set W hj hpre
  show Calls _ _ _ _ (SomeE B J Jx (pre ++ [set]) W)
  obtain ⟨fn, tmps, assign, body, hyr, hR⟩ := HY0
  have HR := Lib.hid hR
  have y0 := blk_cell 0 hO.y rfl
  have yz := lt_of_block hO.y
  simp only [List.getElem_toArray, List.getElem_cons_zero] at y0
  clear hR hY hJ hpre hli hki
  dsimp only [encS] at hyr
  go_enter Tryz.func107, Tryz.ntmps107
  go_upto_region 2 with (fail)
  refine (wpIn_wide (n := 0)).1 ?_
  gi_wp2
  refine ⟨rfl, HR.out.mono ?_⟩
  rintro e W2 (⟨rfl, hj2, hab⟩ | ⟨rfl, hq⟩)
  · gi_wp2
    go_wp2
    go_ret
    exact .inl ⟨rfl, hj2, hab⟩
  · gi_wp2
    go_wp2
    go_ret
    exact .inr ⟨rfl, _, hq⟩
set_option maxRecDepth 100000 in
set_option maxHeartbeats 2000000 in
theorem CNext_step (hL : L.length ≤ 6) (h6 : ∀ x ∈ L, x < 6) (hs : SlOk a L.length cp) (hB : B ≤ yb) (hJ : ∀ s A A', J s A → Below yb A A' → J s A') (hJZ : ∀ s A, J s A → SomeZ A tb a cp L) (left : Nat) (IH : SomeC a cp L tb yb l B xs J Jx left) :
    SomeC a cp L tb yb l B xs J Jx (left + 1) := by
  intro li k ki set pre W hli hle hki hset hO hj hpre
  have hll := hs.len
  have hlc := hs.1
  have g0 := eqi_f (show li ≠ 0 from by omega)
  have hll1 : li - 1 = (left : Int) := by omega
  have hli0 : 0 ≤ li := by omega
  have hli6 : li ≤ 6 := by omega
  rw [setsN_succ] at hpre ⊢
  obtain ⟨m, hm⟩ : ∃ m, m = L.length - left - k := ⟨_, rfl⟩
  rw [← hm] at hpre ⊢
  have HM := Lib.hid hm
  have HLI := Lib.hid hli
  have HKI := Lib.hid hki
  have HP := Lib.hid hpre
  have HJ := Lib.hid hJ
  have HZ := Lib.hid hJZ
  have HIH := Lib.hid IH
  have yz := lt_of_block hO.y
  clear hm hli hki hpre hJ hJZ IH
  have hzz := (HZ.out _ _ hj).1
  go_enter Tryz.func107, Tryz.ntmps107
  go_upto_region 4 with (fail)
  go_loopw [10] (fun i V => ∃ n : Nat, k ≤ n ∧ n ≤ k + m ∧ i = .int .i64 (n : Int) ∧ J (pre ++ setsUpto L left k set (n - k)) V ∧ SomeO V tb yb l ∧ Above B W V) (fun i _ => k + m - (intOf i).toNat)
  case atStart => exact ⟨k, Nat.le_refl _, Nat.le_add_right _ _, by rw [HKI.out], by rw [Nat.sub_self]; simpa [setsUpto] using hj, hO, Above.refl _ _⟩
  case round =>
    rename World => V
    clear hzz hj hO
    obtain ⟨n, hn1, hn2, rfl, hj, hO, hab⟩ := hrel
    have hz := HZ.out _ _ hj
    have t0 := blk_cell 0 hz.1 rfl
    have tz := lt_of_block hz.1
    have n0 := blk_cell 0 hO.n rfl
    have nz := lt_of_block hO.n
    simp only [List.getElem_toArray, List.getElem_cons_zero] at t0 n0
    by_cases hlt : n < k + m
    · have hnL : n < L.length := by have := HM.out; omega
      have hc : (n : Int) ≤ L.length - li := by have := HM.out; have := HLI.out; omega
      obtain ⟨b, off, rfl, hbb, h1⟩ := hz.2 n (by rw [List.length_map]; exact hnL)
      rw [List.getElem_map] at h1
      have hx6 := h6 _ (List.getElem_mem hnL)
      have hxe : L[n]?.getD 0 = L[n] := by rw [List.getElem?_eq_getElem hnL]; rfl
      obtain ⟨x, hx⟩ : ∃ x, x = L[n] := ⟨_, rfl⟩
      rw [← hx] at h1 hx6 hxe
      clear hx
      have hxi : (x : Int) < 64 := by omega
      obtain ⟨s2, hs2⟩ : ∃ s2 : Nat, s2 = set ||| 2 ^ x := ⟨_, rfl⟩
      have HO2 := or_bit64 set hset x hx6
      have hs64 : s2 < 64 := by rw [hs2]; exact Nat.or_lt_two_pow (n := 6) hset (Nat.pow_lt_pow_right (by decide) hx6)
      rw [← hs2] at HO2
      have HO3 := or_bit64w set hset x hx6
      rw [← hs2] at HO3
      have hsn := setsUpto_succ L left k set (n - k)
      rw [show k + (n - k) = n by omega, hxe, ← hs2, show n - k + 1 = n + 1 - k by omega] at hsn
      have HSN := Lib.hid hsn
      have hp2 : (pre ++ setsUpto L left k set (n - k)) ++ setsN L left (n + 1) s2 <+: xs := by
        rw [List.append_assoc, ← hsn]
        exact ((List.prefix_append_right_inj pre).2 (upto_pre (by omega))).trans HP.out
      have CC := Lib.hid (fun (U : World) (hb : Below V.heap.size V U) => HIH.out left (n + 1) ((n : Int) + 1) s2 (pre ++ setsUpto L left k set (n - k)) U rfl (by omega) (by omega) hs64 (hO.below hb) (HJ.out _ _ _ hj (hb.mono (by omega))) hp2)
      have HJV := Lib.hid hj
      have HOV := Lib.hid hO
      clear hsn hp2 hs2 hxe
      have hnl1 : (n : Int) < L.length := by omega
      have hn6 : (n : Int) < 6 := by omega
      have hnc : (n : Int) < cp := by omega
      have hbb2 : b < V.heap.size := hbb
      clear hj hO hz
      go_upto_region 6 with (fail)
      go_cut [38] from 25 to 37 (fun v U => (v = .bool false ∧ J (pre ++ setsUpto L left k set (n + 1 - k)) U ∧ Above B V U) ∨ (v = .bool true ∧ ∃ pre', Jx pre' U))
      case first =>
        have hB0 := below_drew' (Below.refl V.heap.size V)
        have hw1 : IntKind.i64.wrap ((n : Int) + 1) = (n : Int) + 1 := IntWalk.i64_in _ (by omega)
        have hw2 : IntKind.i64.wrap (left : Int) = left := IntWalk.i64_in _ (by omega)
        clear HM HLI HKI HP HJ HZ HIH HJV HOV
        (focus go_region_with (go_at_call 107; (with_reducible refine (CC.out _ hB0).mono ?_); rintro e U2 he2; obtain ⟨bv, rfl, hbv⟩ := he2.one; dsimp only))
        all_goals
          go_wp2
          go_meet
          case rel =>
            rcases hbv.out with ⟨rfl, hj2, hab2⟩ | ⟨rfl, hq⟩
            · exact .inl ⟨rfl, by rw [HSN.out, ← List.append_assoc]; exact hj2, (Above.of_below (below_drew' (Below.refl _ _))).trans hab2⟩
            · exact .inr ⟨rfl, hq⟩
      case rest =>
        rename World => U
        clear t0 tz n0 nz h1 hbb
        rcases hcut with ⟨rfl, hj2, hab2⟩ | ⟨rfl, pre', hq⟩
        · have hO2 := HOV.out.above hab2 hB
          go_wp2
          go_roundw
          case rel => exact ⟨n + 1, by omega, by omega, by go_num, hj2, hO2, hab.trans hab2⟩
          case measure => simp [intOf]; omega
        · go_wp2
          go_ret
          exact .inr ⟨rfl, pre', hq⟩
    · have hc : ¬ (n : Int) ≤ L.length - li := by have := HM.out; have := HLI.out; omega
      rw [show n - k = m by omega] at hj
      clear hlt hn2
      go_wp2
      go_ret
      exact .inl ⟨rfl, hj, hab⟩
theorem CNext_all (hL : L.length ≤ 6) (h6 : ∀ x ∈ L, x < 6) (hs : SlOk a L.length cp) (hB : B ≤ yb) (hJ : ∀ s A A', J s A → Below yb A A' → J s A') (hJZ : ∀ s A, J s A → SomeZ A tb a cp L)
    (hY : ∀ pre x W1, J pre W1 → pre ++ [x] <+: xs → YieldAt Fence.wide 0 Tryz.prog l (encS x) W1 fun e W' => (e = .returned (.bool true) ∧ J (pre ++ [x]) W' ∧ Above B W1 W') ∨ (e = .returned (.bool false) ∧ Jx (pre ++ [x]) W')) :
    ∀ left, SomeC a cp L tb yb l B xs J Jx left
  | 0 => CNext_zero a cp L tb yb l B xs J Jx hB hJ hY
  | left + 1 => CNext_step a cp L tb yb l B xs J Jx hL h6 hs hB hJ hJZ left (CNext_all hL h6 hs hB hJ hJZ hY left)
end
theorem allTo_pre {L : List Nat} {n m : Nat} (h : n ≤ m) : allSetsTo L n <+: allSetsTo L m := by
  obtain ⟨d, rfl⟩ : ∃ d, m = n + d := ⟨m - n, by omega⟩
  clear h
  induction d with
  | zero => exact List.prefix_refl _
  | succ d ih => rw [← Nat.add_assoc, allSetsTo_succ]; exact ih.trans (List.prefix_append _ _)
set_option maxRecDepth 100000 in
set_option maxHeartbeats 2000000 in
theorem CSome1_any (a : Option Addr) (cp : Nat) (L : List Nat) (tb l B : Nat) (J Jx : List Nat → World → Prop) (W : World) (hL : L.length ≤ 6) (h6 : ∀ x ∈ L, x < 6) (hs : SlOk a L.length cp) (hB : B ≤ W.heap.size) (hJ : ∀ s A A', J s A → Below W.heap.size A A' → J s A') (hJZ : ∀ s A, J s A → SomeZ A tb a cp L)
    (hY : ∀ pre x W1, J pre W1 → pre ++ [x] <+: allSetsN L → YieldAt Fence.wide 0 Tryz.prog l (encS x) W1 fun e W' => (e = .returned (.bool true) ∧ J (pre ++ [x]) W' ∧ Above B W1 W') ∨ (e = .returned (.bool false) ∧ Jx (pre ++ [x]) W')) (hj : J [] W) :
    Calls Tryz.prog 106 #[.func (.yield l) #[] #[], .pointer (some ⟨tb, 0, none⟩)] W fun e W' => (∃ v, e = .returned v) ∧ (J (allSetsN L) W' ∨ ∃ pre, Jx pre W') := by
  have CN := Lib.hid (CNext_all a cp L tb W.heap.size l B (allSetsN L) J Jx hL h6 hs hB hJ hJZ hY)
  have HALL := Lib.hid (allSetsN_is L)
  have hll := hs.len
  have HJ := Lib.hid hJ
  have HZ := Lib.hid hJZ
  have HJ0 := Lib.hid hj
  have hz := (HZ.out _ _ hj).1
  have tz := lt_of_block hz
  clear hJ hJZ hY hj
  go_enter Tryz.func106, Tryz.ntmps106
  go_upto_region 3 with (fail)
  obtain ⟨Y, hY⟩ : ∃ Y : World, Y = (W.alloc (.cells #[.func (.yield l) #[] #[]] 71)).alloc (.cells #[.func (.func 107) #[] #[.pointer (some ⟨W.heap.size, 0, none⟩), .pointer (some ⟨tb, 0, none⟩), .pointer (some ⟨W.heap.size + 1, 0, none⟩)]] 60) := ⟨_, rfl⟩
  rw [← hY]
  have hbY : Below W.heap.size W Y := by rw [hY]; exact ((Below.refl _ _).alloc (Nat.le_refl _) _).alloc (by simp) _
  have hOY : SomeO Y tb W.heap.size l := by rw [hY]; exact ⟨(heap_alloc_old _ _ (by simp)).trans (alloc_at _ _ rfl), alloc_at _ _ (by simp)⟩
  have hjY := HJ.out _ _ _ HJ0.out hbY
  clear hY tz hz
  have hzY := (HZ.out _ _ hjY).1
  have t0 := blk_cell 0 hzY rfl
  have tz := lt_of_block hzY
  simp only [List.getElem_toArray, List.getElem_cons_zero] at t0
  clear hbY
  go_upto_region 4 with (fail)
  clear t0 tz hzY
  go_loopw [9] (fun i V => ∃ n : Nat, n ≤ L.length + 1 ∧ i = .int .i64 (n : Int) ∧ J (allSetsTo L n) V ∧ SomeO V tb W.heap.size l) (fun i _ => L.length + 1 - (intOf i).toNat)
  case atStart => exact ⟨0, Nat.zero_le _, rfl, by simpa [allSetsTo] using hjY, hOY⟩
  case round =>
    rename World => V
    clear hjY hOY
    obtain ⟨n, hn, rfl, hj, hO⟩ := hrel
    by_cases hlt : n < L.length + 1
    · have hp2 : allSetsTo L n ++ setsN L n 0 0 <+: allSetsN L := by rw [← allSetsTo_succ, HALL.out]; exact allTo_pre (by omega)
      have HS := Lib.hid (allSetsTo_succ L n)
      have CC := CN.out n n 0 0 0 (allSetsTo L n) V rfl (by omega) rfl (by omega) hO hj hp2
      change Calls _ _ #[.int .i64 0, .int .i64 (n : Int), .int .i64 0, _, _, _] _ _ at CC
      replace CC := Lib.hid CC
      have n0 := blk_cell 0 hO.n rfl
      have nz := lt_of_block hO.n
      simp only [List.getElem_toArray, List.getElem_cons_zero] at n0
      have HO := Lib.hid hO
      have hnl : (n : Int) < L.length + 1 := by omega
      clear hp2 hj hO
      go_upto_region 6 with (fail)
      go_cut [15] from 12 to 14 (fun v U => (v = .bool false ∧ J (allSetsTo L (n + 1)) U ∧ SomeO U tb W.heap.size l) ∨ (v = .bool true ∧ ∃ pre', Jx pre' U))
      case first =>
        go_wp2_with (go_at_call 107; go_must ((with_reducible refine CC.out.mono ?_); rintro e U2 he2; obtain ⟨bv, rfl, hbv⟩ := he2.one; dsimp only))
        go_meet
        case rel =>
          rcases hbv.out with ⟨rfl, hj2, hab2⟩ | ⟨rfl, hq⟩
          · exact .inl ⟨rfl, by rw [HS.out]; exact hj2, HO.out.above hab2 hB⟩
          · exact .inr ⟨rfl, hq⟩
      case rest =>
        rename World => U
        clear n0 nz
        rcases hcut with ⟨rfl, hj2, hO2⟩ | ⟨rfl, pre', hq⟩
        · go_wp2
          go_roundw
          case rel => exact ⟨n + 1, by omega, by go_num, hj2, hO2⟩
          case measure => simp [intOf]; omega
        · go_wp2
          (try simp only [Exit.inBlock, Exit.then])
          exact bodyPost_ret (results_none rfl _ _ _) rfl ⟨⟨_, rfl⟩, .inr ⟨pre', hq⟩⟩
    · obtain rfl : n = L.length + 1 := by omega
      have hnl : ¬ ((L.length + 1 : Nat) : Int) < L.length + 1 := by omega
      rw [← HALL.out] at hj
      go_wp2
      go_end0
      exact ⟨⟨_, rfl⟩, .inl hj⟩
theorem CSome_seq (a : Option Addr) (cp : Nat) (L : List Nat) (tb : Nat) (w0 : World) (hL : L.length ≤ 6) (h6 : ∀ x ∈ L, x < 6) (hs : SlOk a L.length cp) :
    SeqX Tryz.prog 106 #[.pointer (some ⟨tb, 0, none⟩)] encS w0.heap.size (fun A => SomeZ A tb a cp L) (allSetsN L) w0 :=
  fun l J Jx W _ hz hJ hJZ hY hj => callsIn_wide.2 (CSome1_any a cp L tb l w0.heap.size J Jx W hL h6 hs hz hJ hJZ hY hj)
end Go.Proofs.YtcgplocmncionaaGreat
