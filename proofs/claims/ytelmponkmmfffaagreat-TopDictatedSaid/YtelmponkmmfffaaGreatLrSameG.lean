/- What is proved here: contracts of a reader's left and corrections at every place of it. Conditions: the reader lies in memory; the place is one of it. -/
/- What is proved here: contracts of listen and of corrections at the start of a fresh reader; plain facts on how many corrections a form needs. Conditions: both letters lie in memory. -/
/- What is proved here: plain facts on the marks with the fewest corrections, and how marks lie in memory. No condition. -/
/- What is proved here: contracts of the laws' words, span, room, given and marks of layer 2. Conditions: strings of at most a thousand bytes. -/
/- What is proved here: contracts of ref02.Same, Sames and Equal at equal lists. Conditions: both lie in memory. -/
import Derived.Test.YtelmponkmmfffaaGreatLeLeastG
import Derived.BigRegion
import Derived.BigQuiet
import Derived.Test.YtelmponkmmfffaaGreatLeOffG
import Derived.Test.YtelmponkmmfffaaGreatLeCntG
import Derived.Laws.ResultCell
import Derived.Deep.RegionHeld
set_option linter.unusedVariables false
set_option linter.unusedSimpArgs false
namespace Go.Proofs.YtelmponkmmfffaaGreat
open Go Go.RowKit Go.Shelf
attribute [local go_sem] Oper.semAt_some
variable (br bo : Nat) (aa ab : Option Addr) (ca cb : Nat) (a b : List ByteArray)
set_option maxRecDepth 100000 in
set_option maxHeartbeats 4000000 in
theorem RLeft_any (x : Nat × Nat) (hx : x.1 ≤ a.length ∧ x.2 ≤ b.length) (ha : a.length ≤ 60) (hb : b.length ≤ 60) (IH : ∀ y : Nat × Nat, y.1 ≤ a.length ∧ y.2 ≤ b.length → remP a b y < remP a b x → CorrC br bo aa ab ca cb a b y) :
    LeftC br bo aa ab ca cb a b x := by
  intro W hm
  obtain ⟨i, k⟩ := x
  simp only at hx
  obtain ⟨X, hX⟩ : ∃ X : World, X = (W.alloc (.cells #[.pointer (some ⟨br, 0, none⟩)] 138)).alloc (.cells #[.int .i64 (i : Int), .int .i64 (k : Int)] 141) := ⟨_, rfl⟩
  have hwX : Below W.heap.size W X := by rw [hX]; exact ((Below.refl _ W).alloc (Nat.le_refl _) _).alloc (by simp) _
  have g0 : X.heap[W.heap.size]? = some (.cells #[.pointer (some ⟨br, 0, none⟩)] 138 (0, 0)) := by rw [hX]; exact (heap_alloc_old _ _ (by simp)).trans (alloc_at _ _ rfl)
  have g1 : X.heap[W.heap.size + 1]? = some (.cells #[.int .i64 (i : Int), .int .i64 (k : Int)] 141 (0, 0)) := by rw [hX]; exact alloc_at _ _ (by simp)
  have hlo := hm.bo_lt
  have hmX := hm.below hwX
  have r0 := blk_cell 0 hmX.blk rfl
  have r1 := blk_cell 1 hmX.blk rfl
  have rz := lt_of_block hmX.blk
  have q0 := blk_cell 0 g0 rfl
  have qz := lt_of_block g0
  have p0 := blk_cell 0 g1 rfl
  have p1 := blk_cell 1 g1 rfl
  have pz := lt_of_block g1
  simp only [List.getElem_toArray, List.getElem_cons_zero, List.getElem_cons_succ] at r0 r1 q0 p0 p1
  have he := fun V => place_eq (i, k) (a.length, b.length) (by omega) (by omega) (by simp only; omega) (by simp only; omega) V
  have HL := Lib.hid (leftP_eq a b i k hx.1 hx.2)
  have HXX := Lib.hid hX
  have HMX := Lib.hid hmX
  have HAS := Lib.hid (fun q0 q1 kind (hk : kind < 4) => RAsk_any br bo aa ab ca cb a b (i, k) hx ha hb IH q0 q1 kind hk)
  have HLA := Lib.hid (leastK_all (askP a b i k))
  clear hm hX hmX IH
  by_cases hq : i = a.length ∧ k = b.length
  · have hqd : decide ((i, k) = (a.length, b.length)) = true := by rw [hq.1, hq.2]; simp
    rw [hqd] at he
    simp only [plV] at he
    have HL2 := Lib.hid (HL.out.trans (if_pos hq))
    clear hq hqd HL HAS HLA
    have HWX := Lib.hid hwX
    go_enter Tryz.func74, Tryz.ntmps74
    go_upto_region 1 with (fail)
    rw [← HXX.out]
    clear HXX g0 g1 hwX
    go_quiet (fail)
    obtain ⟨Y, hY⟩ : ∃ Y : World, Y = X.drewN nq := ⟨_, rfl⟩
    rw [← hY]
    have hbY : Below X.heap.size X Y := by rw [hY]; exact below_draws _ _ _
    have hwY := HWX.out.trans (hbY.mono HWX.out.size)
    go_wp2
    go_ret2
    exact ⟨by rw [HL2.out]; try rfl, grown_below hwY, HMX.out.below hbY, .below hwY hlo⟩
  · have hqd : decide ((i, k) = (a.length, b.length)) = false := by simpa using hq
    rw [hqd] at he
    simp only [plV] at he
    have HL2 := Lib.hid (HL.out.trans (if_neg hq))
    clear hq hqd HL
    have HWX := Lib.hid hwX
    go_enter Tryz.func74, Tryz.ntmps74
    go_upto_region 1 with (fail)
    rw [← HXX.out]
    clear HXX hwX
    go_quiet (fail)
    obtain ⟨Y, hY⟩ : ∃ Y : World, Y = X.drewN nq := ⟨_, rfl⟩
    rw [← hY]
    have hbY : Below X.heap.size X Y := by rw [hY]; exact below_draws _ _ _
    have hwY := HWX.out.trans (hbY.mono HWX.out.size)
    replace g0 := (hbY.block _ qz).trans g0
    replace g1 := (hbY.block _ pz).trans g1
    have hzY := hbY.size
    have hmY := HMX.out.below hbY
    clear hY hbY r0 r1 rz q0 qz p0 p1 he HMX HWX
    replace pz := lt_of_block g1
    obtain ⟨Z, hZ⟩ : ∃ Z : World, Z = Y.alloc (.cells #[.int .i64 0, .int .i64 1, .int .i64 2, .int .i64 3] 3) := ⟨_, rfl⟩
    have hYZ : Below Y.heap.size Y Z := by rw [hZ]; exact (Below.refl _ _).alloc (Nat.le_refl _) _
    have g2 : Z.heap[Y.heap.size]? = some (.cells #[.int .i64 0, .int .i64 1, .int .i64 2, .int .i64 3] 3 (0, 0)) := by rw [hZ]; exact alloc_at _ _ rfl
    replace g0 := (hYZ.block _ (by omega)).trans g0
    replace g1 := (hYZ.block _ pz).trans g1
    have hwZ := hwY.trans (hYZ.mono hwY.size)
    have LS := Lib.hid (RLeast_any br bo aa ab ca cb a b (i, k) W.heap.size (W.heap.size + 1) Y.heap.size Z (hmY.below hYZ) hx ha hb g0 g1 g2 (fun kind hk => HAS.out _ _ kind hk))
    have HZ := Lib.hid hZ
    clear hZ g0 g1 g2 hYZ hmY HAS
    go_upto_region 4 with (fail)
    go_wp2_with (go_at_call 80; rw [← HZ.out]; go_must ((with_reducible refine LS.out.mono ?_); rintro e w2 ⟨rfl, hg2, hR2, hN2⟩; dsimp only))
    go_ret2
    exact ⟨by rw [HL2.out, ← HLA.out]; try rfl, grown_trans (grown_below hwZ) hg2, hR2, (KeepL.below hwZ hlo).trans hN2⟩
set_option maxRecDepth 100000 in
set_option maxHeartbeats 4000000 in
theorem RCorr_hit (x : Nat × Nat) (hx : x.1 ≤ a.length ∧ x.2 ≤ b.length) (ha : a.length ≤ 60) (hb : b.length ≤ 60) (w : World) (hm : RdW w br bo aa ab ca cb a b) (T : List (Value × Value)) (hT : MapV w Tryz.prog 141 bo T) (hM : MemoL a b T) (hn : ∃ p ∈ T, p.1 = plV x) :
    Calls Tryz.prog 75 #[.pointer (some ⟨br, 0, none⟩), plV x] w fun e w' => e = .returned (.int .i64 (leftP a b x.1 x.2).2) ∧ w.grownBy w' (some bo) ∧ RdW w' br bo aa ab ca cb a b ∧ KeepL a b (remP a b x + 1) bo w w' := by
  obtain ⟨kl, hkey⟩ := key_pl x (by omega) (by omega)
  have hlo := hm.bo_lt
  obtain ⟨i, k⟩ := x
  simp only at hx ⊢
  obtain ⟨d, hd⟩ : ∃ d, d = (leftP a b i k).2 := ⟨_, rfl⟩
  rw [← hd]
  have HD := Lib.hid hd
  clear hd
  obtain ⟨Y, hY⟩ : ∃ Y : World, Y = w.alloc (.cells #[.int .i64 (i : Int), .int .i64 (k : Int)] 141) := ⟨_, rfl⟩
  have hYb : Below w.heap.size w Y := by rw [hY]; exact (Below.refl _ w).alloc (Nat.le_refl _) _
  have g1 : Y.heap[w.heap.size]? = some (.cells #[.int .i64 (i : Int), .int .i64 (k : Int)] 141 (0, 0)) := by rw [hY]; exact alloc_at _ _ rfl
  have hl1 := ((hT.below hYb hlo).below (below_drew' (Below.refl Y.heap.size Y)) (Nat.lt_of_lt_of_le hlo hYb.size)).lookup_yes key_place key_mapL hkey (zero_int _) hn (v := .int .i64 d) (fun v' h => by rw [HD.out]; exact hM.get h)
  have hmY := hm.below hYb
  have r2 := blk_cell 2 hmY.blk rfl
  have rz := lt_of_block hmY.blk
  have p0 := blk_cell 0 g1 rfl
  have p1 := blk_cell 1 g1 rfl
  have pz := lt_of_block g1
  simp only [List.getElem_toArray, List.getElem_cons_zero, List.getElem_cons_succ] at r2 p0 p1
  have HM := Lib.hid hm
  have HY := Lib.hid hY
  have HYB := Lib.hid hYb
  clear hn hT hM hkey g1 hmY hm hY hYb
  dsimp only [plV] at hl1
  go_enter Tryz.func75, Tryz.ntmps75
  go_upto_region 1 with (fail)
  rw [← HY.out]
  clear HY
  (focus go_region)
  all_goals
    go_wp2
    go_ret
    exact (fun hb => ⟨rfl, grown_below hb, HM.out.below hb, .below hb hlo⟩ : Below w.heap.size w _ → _) (by have hYb := HYB.out; exact (by (repeat' (first | assumption | exact Below.refl _ _ | refine below_drew' ?_ | refine Below.setCell ?_ (by first | omega | (simp <;> omega)) _ | refine Below.alloc ?_ (by first | omega | (simp <;> omega)) _))))
set_option maxRecDepth 100000 in
set_option maxHeartbeats 4000000 in
theorem RCorr_miss (x : Nat × Nat) (hx : x.1 ≤ a.length ∧ x.2 ≤ b.length) (ha : a.length ≤ 60) (hb : b.length ≤ 60) (L : LeftC br bo aa ab ca cb a b x) (w : World) (hm : RdW w br bo aa ab ca cb a b) (T : List (Value × Value)) (hT : MapV w Tryz.prog 141 bo T) (hn : ∀ p ∈ T, p.1 ≠ plV x) :
    Calls Tryz.prog 75 #[.pointer (some ⟨br, 0, none⟩), plV x] w fun e w' => e = .returned (.int .i64 (leftP a b x.1 x.2).2) ∧ w.grownBy w' (some bo) ∧ RdW w' br bo aa ab ca cb a b ∧ KeepL a b (remP a b x + 1) bo w w' := by
  obtain ⟨kl, hkey⟩ := key_pl x (by omega) (by omega)
  have hlo := hm.bo_lt
  obtain ⟨i, k⟩ := x
  simp only at hx ⊢
  obtain ⟨Y, hY⟩ : ∃ Y : World, Y = w.alloc (.cells #[.int .i64 (i : Int), .int .i64 (k : Int)] 141) := ⟨_, rfl⟩
  have hYb : Below w.heap.size w Y := by rw [hY]; exact (Below.refl _ w).alloc (Nat.le_refl _) _
  have g1 : Y.heap[w.heap.size]? = some (.cells #[.int .i64 (i : Int), .int .i64 (k : Int)] 141 (0, 0)) := by rw [hY]; exact alloc_at _ _ rfl
  have hl1 := ((hT.below hYb hlo).below (below_drew' (Below.refl Y.heap.size Y)) (Nat.lt_of_lt_of_le hlo hYb.size)).lookup_no key_place key_mapL hkey (zero_int _) hn
  have hmY := hm.below hYb
  have r2 := blk_cell 2 hmY.blk rfl
  have rz := lt_of_block hmY.blk
  have p0 := blk_cell 0 g1 rfl
  have p1 := blk_cell 1 g1 rfl
  have pz := lt_of_block g1
  simp only [List.getElem_toArray, List.getElem_cons_zero, List.getElem_cons_succ] at r2 p0 p1
  have HM := Lib.hid hm
  have HY := Lib.hid hY
  have HYB := Lib.hid hYb
  have HG := Lib.hid g1
  have HNO : Hid (NotL w bo (i, k)) := Lib.hid ⟨T, hT, hn⟩
  have HL := Lib.hid (fun V (h : RdW V br bo aa ab ca cb a b) => show Calls Tryz.prog 74 #[.pointer (some ⟨br, 0, none⟩), plV (i, k)] V fun e w' => e = .returned (.tuple #[.int .i64 (leftP a b i k).2, .int .i64 ((leftP a b i k).1 : Int)]) ∧ V.grownBy w' (some bo) ∧ RdW w' br bo aa ab ca cb a b ∧ KeepL a b (remP a b (i, k)) bo V w' from L V h)
  have HKEY := Lib.hid hkey
  clear hn hT hkey g1 hmY hm hY hYb L
  dsimp only [plV] at hl1
  go_enter Tryz.func75, Tryz.ntmps75
  go_upto_region 1 with (fail)
  rw [← HY.out]
  clear HY
  go_cut [5, 6] from 9 to 17 (fun u v W => u = .int .i64 0 ∧ v = .bool false ∧ Below Y.heap.size Y W)
  case first =>
    (focus go_region)
    all_goals
      go_wp2
      go_meet
      case rel => exact ⟨rfl, rfl, (by (repeat' (first | assumption | exact Below.refl _ _ | refine below_drew' ?_ | refine Below.setCell ?_ (by first | omega | (simp <;> omega)) _ | refine Below.alloc ?_ (by first | omega | (simp <;> omega)) _)))⟩
  case rest =>
    obtain ⟨rfl, rfl, hb1⟩ := hcut
    rename World => V
    have hyz := HYB.out.size
    have hlY : bo < Y.heap.size := by omega
    have hwV := HYB.out.trans (hb1.mono hyz)
    have gV := (hb1.block _ pz).trans HG.out
    have hmV := HM.out.below hwV
    have hNV := HNO.out.same (hwV.block _ hlo)
    clear hl1 r2 rz p0 p1 pz HG HNO hb1 HYB hyz hlY Y
    have LV := Lib.hid (HL.out V hmV)
    have p0 := blk_cell 0 gV rfl
    have p1 := blk_cell 1 gV rfl
    have pz := lt_of_block gV
    simp only [List.getElem_toArray, List.getElem_cons_zero, List.getElem_cons_succ] at p0 p1
    have GO := Lib.hid (fun U (h : V.grownBy U (some bo)) => grown_keep h gV (hmV.other gV))
    have HNV := Lib.hid hNV
    have HWV := Lib.hid (grown_below hwV : w.grownBy V (some bo))
    have HKV := Lib.hid (KeepL.below hwV hlo : KeepL a b (remP a b (i, k) + 1) bo w V)
    clear HL hwV hmV hNV gV
    go_upto_region 5 with (go_at_call 74; go_must ((with_reducible refine LV.out.mono ?_); rintro e w3 ⟨rfl, hg3, hR3, hN3⟩; dsimp only))
    clear LV p0 p1 pz
    have g3 := GO.out w3 hg3
    have hn3 := hN3 (i, k) (Nat.le_refl _) HNV.out
    obtain ⟨T, hT, hM⟩ := hR3.map
    obtain ⟨T2, hT2, hn2⟩ := hn3
    have e3 := hT.uniq hT2
    subst e3
    have hM4 := hM.more (x := (i, k)) hx hn2
    have hlen := hM.len ha hb
    obtain ⟨d, hd⟩ : ∃ d, d = (leftP a b i k).2 := ⟨_, rfl⟩
    rw [← hd]
    have hM4 : MemoL a b (T ++ [(plV (i, k), Value.int .i64 d)]) := by rw [hd]; exact hM4
    have HD := Lib.hid hd
    clear hd
    have hg4 := HWV.out.andThen hg3 (fun j e => .inr (by simpa using e))
    obtain ⟨W2, hrun, hMV2, hg2, hs2⟩ := (hT.same (w' := w3.drew) rfl).update key_place key_mapL (by have hmx : maxLen = 9223372036854775807 := rfl; omega) HKEY.out hn2 (val := .int .i64 d)
    have HFIN : Hid (w.grownBy W2 (some bo) ∧ RdW W2 br bo aa ab ca cb a b ∧ KeepL a b (remP a b (i, k) + 1) bo w W2) := Lib.hid (by
      have g1 : w.grownBy W2 (some bo) := hg4.andThen ⟨hg2.os, hg2.tape, hg2.output, hg2.size, hg2.block⟩ (fun j e => .inr (by simpa using e))
      refine ⟨g1, HM.out.learn g1 hMV2 hM4, (HKV.out.trans (hN3.mono (by omega))).trans (fun z hz hnz => ⟨_, hMV2, fun p hp => ?_⟩)⟩
      rcases List.mem_append.1 hp with hp | hp
      · obtain ⟨U, hU, hnU⟩ := hnz
        rw [hT.uniq hU] at hp
        exact hnU p hp
      · rw [List.mem_singleton] at hp
        subst hp
        intro e
        have := plV_inj e
        subst this
        omega)
    have r2 := blk_cell 2 hR3.blk rfl
    have rz := lt_of_block hR3.blk
    have p0 := blk_cell 0 g3 rfl
    have p1 := blk_cell 1 g3 rfl
    have pz := lt_of_block g3
    simp only [List.getElem_toArray, List.getElem_cons_zero, List.getElem_cons_succ] at r2 p0 p1
    dsimp only [plV] at hrun
    clear hMV2 hg2 hs2 hg4 hM4 hM hT hT2 hn2 hlen g3 hg3 hR3 hN3 GO HNV HWV HKV HKEY HM
    (focus go_region)
    all_goals
      clear hrun
      go_wp2
      go_ret
      exact ⟨by rw [← HD.out]; rfl, HFIN.out⟩
theorem RCorr_any (x : Nat × Nat) (hx : x.1 ≤ a.length ∧ x.2 ≤ b.length) (ha : a.length ≤ 60) (hb : b.length ≤ 60) (L : LeftC br bo aa ab ca cb a b x) : CorrC br bo aa ab ca cb a b x := by
  intro w hm
  obtain ⟨T, hT, hM⟩ := hm.map
  by_cases hn : ∃ p ∈ T, p.1 = plV x
  · exact RCorr_hit br bo aa ab ca cb a b x hx ha hb w hm T hT hM hn
  · exact RCorr_miss br bo aa ab ca cb a b x hx ha hb L w hm T hT (fun p hp e => hn ⟨p, hp, e⟩)
theorem RBoth_any (ha : a.length ≤ 60) (hb : b.length ≤ 60) : ∀ (n : Nat) (x : Nat × Nat), x.1 ≤ a.length ∧ x.2 ≤ b.length → remP a b x < n → LeftC br bo aa ab ca cb a b x ∧ CorrC br bo aa ab ca cb a b x
  | 0, _, _, h => absurd h (Nat.not_lt_zero _)
  | n + 1, x, hx, h => by
    have L := RLeft_any br bo aa ab ca cb a b x hx ha hb (fun y hy hl => (RBoth_any ha hb n y hy (by omega)).2)
    exact ⟨L, RCorr_any br bo aa ab ca cb a b x hx ha hb L⟩
end Go.Proofs.YtelmponkmmfffaaGreat
namespace Go.Proofs.YtelmponkmmfffaaGreat
open Go Go.RowKit Go.Shelf
attribute [local go_sem] Oper.semAt_some
theorem corr_eq (a s : List ByteArray) : (leftP a s 0 0).2 = corrF a s := by unfold leftP leftL corrF; simp
theorem leastF_ge {f : Nat → Int} : ∀ (l : List Nat) (b : Nat × Int), 0 ≤ b.2 → 0 ≤ (leastF f l b).2
  | [], _, h => h
  | k :: l, b, h => by
    simp only [leastF]
    refine leastF_ge l _ ?_
    split
    · rename_i h1; exact h1.1
    · exact h
theorem leastF_some {f : Nat → Int} : ∀ (l : List Nat) (b : Nat × Int), (∃ k ∈ l, 0 ≤ f k) → 0 ≤ (leastF f l b).2
  | [], _, ⟨_, h, _⟩ => by cases h
  | k :: l, b, ⟨q, hq, h0⟩ => by
    simp only [leastF]
    rcases List.mem_cons.1 hq with rfl | hq
    · refine leastF_ge l _ ?_
      split
      · exact h0
      · rename_i h1
        have : ¬ (b.2 < 0 ∨ f q < b.2) := fun h => h1 ⟨h0, h⟩
        simp only [not_or] at this
        omega
    · exact leastF_some l _ ⟨q, hq, h0⟩
theorem left_ge (a s : List ByteArray) : ∀ (n i k : Nat), i ≤ a.length → k ≤ s.length → (a.length - i) + (s.length - k) ≤ n → 0 ≤ (leftP a s i k).2
  | n, i, k, hi, hk, hn => by
    rw [leftP_eq a s i k hi hk]
    split
    · simp
    · rename_i h0
      cases n with
      | zero => omega
      | succ n =>
        by_cases h1 : i < a.length
        · refine leastF_some _ _ ⟨2, by simp, ?_⟩
          have := left_ge a s n (i + 1) k (by omega) hk (by omega)
          simp only [askP, stepP, h1, if_true]
          omega
        · have h2 : k < s.length := by omega
          refine leastF_some _ _ ⟨3, by simp, ?_⟩
          have := left_ge a s n i (k + 1) hi (by omega) (by omega)
          simp only [askP, stepP, h2, if_true]
          omega
theorem corr_bd (a s : List ByteArray) : 0 ≤ corrF a s ∧ corrF a s ≤ a.length + s.length := by
  have h1 := left_ge a s _ 0 0 (Nat.zero_le _) (Nat.zero_le _) (Nat.le_refl _)
  have h2 := left_bd a s _ 0 0 (Nat.zero_le _) (Nat.zero_le _) (Nat.le_refl _)
  rw [corr_eq] at h1 h2
  omega
/-- What is best of the first shapes. -/
def mendTo (l : List ByteArray) (ps : List LeP) (pre : List (List Int)) : Int := mendF l (pre.map (shapeF ps)) (-1)
theorem mendF_app (l : List ByteArray) : ∀ (u v : List (List ByteArray)) (b : Int), mendF l (u ++ v) b = mendF l v (mendF l u b)
  | [], _, _ => rfl
  | s :: u, v, b => by simp only [List.cons_append, mendF]; exact mendF_app l u v _
theorem mend_snoc (l : List ByteArray) (ps : List LeP) (pre : List (List Int)) (x : List Int) : mendTo l ps (pre ++ [x]) = if mendTo l ps pre < 0 ∨ corrF l (shapeF ps x) < mendTo l ps pre then corrF l (shapeF ps x) else mendTo l ps pre := by
  unfold mendTo
  rw [List.map_append, mendF_app]
  rfl
theorem mend_bd (l : List ByteArray) (hl : l.length ≤ 15) : ∀ (ss : List (List ByteArray)) (b : Int), (∀ s ∈ ss, s.length ≤ 15) → -1 ≤ b ∧ b ≤ 30 → -1 ≤ mendF l ss b ∧ mendF l ss b ≤ 30
  | [], _, _, h => h
  | s :: ss, b, hs, h => by
    simp only [mendF]
    refine mend_bd l hl ss _ (fun q hq => hs q (by simp [hq])) ?_
    have h1 := corr_bd l s
    have h2 := hs s (by simp)
    split
    · omega
    · exact h
theorem LListen_any (aa ab : Option Addr) (ca cb : Nat) (a b : List ByteArray) (w : World) (hi : StrsC w aa a) (hk : StrsC w ab b) :
    Calls Tryz.prog 73 #[.slice aa a.length ca, .slice ab b.length cb] w fun e w' => ∃ br bo, e = .returned (.pointer (some ⟨br, 0, none⟩)) ∧ RdW w' br bo aa ab ca cb a b ∧ Below w.heap.size w w' ∧ w.heap.size ≤ bo ∧ w.heap.size ≤ br := by
  have hmm := @run_makeMap Tryz.prog
  have HI := Lib.hid hi
  have HK := Lib.hid hk
  clear hi hk
  go_enter Tryz.func73, Tryz.ntmps73
  go_wp2
  go_ret
  have hb1 : Below w.heap.size w (w.alloc (.map #[] 0)) := (Below.refl _ w).alloc (Nat.le_refl _) _
  have hb2 : Below (w.alloc (.map #[] 0)).heap.size (w.alloc (.map #[] 0)) ((w.alloc (.map #[] 0)).alloc (.cells #[.slice aa a.length ca, .slice ab b.length cb, .map (some w.heap.size)] 200)) := (Below.refl _ _).alloc (Nat.le_refl _) _
  have hb3 := hb1.trans (hb2.mono hb1.size)
  exact ⟨w.heap.size + 1, w.heap.size, rfl, ⟨alloc_at _ _ (by simp), HI.out.mono hb3, HK.out.mono hb3, [], (MapV.made w Tryz.prog 141).below hb2 (by simp), memoL_nil a b⟩, hb3, Nat.le_refl _, by omega⟩
variable {br bo : Nat} {aa ab : Option Addr} {ca cb : Nat} {a b : List ByteArray}
theorem RCorr0_any (ha : a.length ≤ 60) (hb : b.length ≤ 60) (w : World) (hm : RdW w br bo aa ab ca cb a b) :
    Calls Tryz.prog 75 #[.pointer (some ⟨br, 0, none⟩), .agg #[.int .i64 0, .int .i64 0]] w fun e w' => e = .returned (.int .i64 (corrF a b)) ∧ w.grownBy w' (some bo) ∧ RdW w' br bo aa ab ca cb a b := by
  have h := (RBoth_any br bo aa ab ca cb a b ha hb _ (0, 0) ⟨Nat.zero_le _, Nat.zero_le _⟩ (Nat.lt_succ_self _)).2 w hm
  have e : plV (0, 0) = .agg #[.int .i64 0, .int .i64 0] := rfl
  rw [e, corr_eq] at h
  exact h.mono fun e w' ⟨h1, h2, h3, _⟩ => ⟨h1, h2, h3⟩
end Go.Proofs.YtelmponkmmfffaaGreat
namespace Go.Proofs.YtelmponkmmfffaaGreat
open Go Go.RowKit Go.Shelf
theorem leastF_pick {f : Nat → Int} : ∀ (l : List Nat) (b : Nat × Int), leastF f l b = b ∨ ∃ k ∈ l, leastF f l b = (k, f k) ∧ 0 ≤ f k
  | [], _ => .inl rfl
  | k :: l, b => by
    simp only [leastF]
    split
    · rename_i h
      rcases leastF_pick l (k, f k) with e | ⟨q, hq, e, h0⟩
      · exact .inr ⟨k, by simp, e, h.1⟩
      · exact .inr ⟨q, by simp [hq], e, h0⟩
    · rcases leastF_pick l b with e | ⟨q, hq, e, h0⟩
      · exact .inl e
      · exact .inr ⟨q, by simp [hq], e, h0⟩
theorem left_steps (a s : List ByteArray) (i k : Nat) (hi : i ≤ a.length) (hk : k ≤ s.length) (h : ¬ (i = a.length ∧ k = s.length)) : (leftP a s i k).1 < 4 ∧ ∃ i' k' c, stepP a s (leftP a s i k).1 i k = some (i', k', c) := by
  have h0 := left_ge a s _ i k hi hk (Nat.le_refl _)
  have he := leftP_eq a s i k hi hk
  rw [if_neg h] at he
  rcases leastF_pick (f := askP a s i k) [0, 1, 2, 3] (0, -1) with e | ⟨q, hq, e, h1⟩
  · rw [he, e] at h0; simp at h0
  · rw [he, e]
    simp only
    refine ⟨by simp at hq; omega, ?_⟩
    unfold askP at h1
    cases hs : stepP a s q i k with
    | none => rw [hs] at h1; simp at h1
    | some x => obtain ⟨i', k', c⟩ := x; exact ⟨i', k', c, rfl⟩
def markW (s : List ByteArray) (q k : Nat) : ByteArray := if q = 1 ∨ q = 3 then s[k]?.getD noW else noW
def marksP (a s : List ByteArray) : Nat → Nat → Nat → List (Nat × ByteArray)
  | 0, _, _ => []
  | n + 1, i, k => if i = a.length ∧ k = s.length then [] else match stepP a s (leftP a s i k).1 i k with
    | none => []
    | some (i', k', _) => ((leftP a s i k).1, markW s (leftP a s i k).1 k) :: marksP a s n i' k'
theorem marks_fuel (a s : List ByteArray) : ∀ (n m i k : Nat), i ≤ a.length → k ≤ s.length → remP a s (i, k) ≤ n → remP a s (i, k) ≤ m → marksP a s n i k = marksP a s m i k
  | 0, 0, _, _, _, _, _, _ => rfl
  | 0, m + 1, i, k, hi, hk, h, _ => by
    have h1 : i = a.length ∧ k = s.length := by unfold remP at h; simp only at h; omega
    simp [marksP, h1]
  | n + 1, 0, i, k, hi, hk, _, h => by
    have h1 : i = a.length ∧ k = s.length := by unfold remP at h; simp only at h; omega
    simp [marksP, h1]
  | n + 1, m + 1, i, k, hi, hk, h1, h2 => by
    simp only [marksP]
    split
    · rfl
    · cases hs : stepP a s (leftP a s i k).1 i k with
      | none => rfl
      | some x =>
        obtain ⟨i', k', c⟩ := x
        obtain ⟨g1, g2, g3, _⟩ := stepP_in hs hi hk
        simp only
        rw [marks_fuel a s n m i' k' g1 g2 (by unfold remP at *; simp only at *; omega) (by unfold remP at *; simp only at *; omega)]
def marksL (a s : List ByteArray) (i k : Nat) : List (Nat × ByteArray) := marksP a s (remP a s (i, k)) i k
theorem marks_end (a s : List ByteArray) : marksL a s a.length s.length = [] := by unfold marksL remP; simp [marksP]
theorem marks_next (a s : List ByteArray) (i k i' k' : Nat) (c : Int) (hi : i ≤ a.length) (hk : k ≤ s.length) (h : ¬ (i = a.length ∧ k = s.length)) (hs : stepP a s (leftP a s i k).1 i k = some (i', k', c)) : marksL a s i k = ((leftP a s i k).1, markW s (leftP a s i k).1 k) :: marksL a s i' k' := by
  obtain ⟨g1, g2, g3, _⟩ := stepP_in hs hi hk
  unfold marksL
  rw [marks_fuel a s (remP a s (i, k)) (remP a s (i, k) + 1) i k hi hk (Nat.le_refl _) (by omega)]
  simp only [marksP, if_neg h, hs]
  rw [marks_fuel a s (remP a s (i, k)) (remP a s (i', k')) i' k' g1 g2 (by unfold remP; simp only; omega) (Nat.le_refl _)]
theorem marks_len (a s : List ByteArray) : ∀ (n i k : Nat), (marksP a s n i k).length ≤ n
  | 0, _, _ => by simp [marksP]
  | n + 1, i, k => by
    simp only [marksP]
    split
    · simp
    · split
      · simp
      · simp only [List.length_cons]
        exact Nat.succ_le_succ (marks_len a s n _ _)
/-- Marks in memory. -/
def MarksC (w : World) (a : Option Addr) (l : List (Nat × ByteArray)) : Prop :=
  ∀ i (_ : i < l.length), ∃ b off, a = some ⟨b, off, none⟩ ∧ b < w.heap.size ∧ w.cell? ⟨b, off + i * 2, none⟩ = some (.int .i64 (l[i].1 : Int)) ∧ w.cell? ⟨b, off + i * 2 + 1, none⟩ = some (.string l[i].2)
theorem MarksC.mono {w W : World} {a : Option Addr} {l : List (Nat × ByteArray)} (h : MarksC w a l) (hb : Below w.heap.size w W) : MarksC W a l := fun i hi => by
  obtain ⟨b, off, e, hlt, h0, h1⟩ := h i hi
  exact ⟨b, off, e, Nat.lt_of_lt_of_le hlt hb.size, cell_below hb h0, cell_below hb h1⟩
theorem E_markL : ElemInfo Tryz.prog 72 146 (.agg #[.int .i64 0, .string ⟨#[]⟩]) 2 24 := ⟨by kernel_rfl, by kernel_rfl, rfl, by decide⟩
def markCellsL (x : Nat × ByteArray) : List Value := [.int .i64 (x.1 : Int), .string x.2]
theorem markCellsL_len (x : Nat × ByteArray) : (markCellsL x).length = 2 := rfl
theorem SrcAt.markL (W : World) (q : Nat) (s : ByteArray) (t : TypeId) : SrcAt (W.alloc (.cells #[.int .i64 (q : Int), .string s] t)) (.slice (some ⟨W.heap.size, 0, none⟩) 1 1) 1 2 (markCellsL (q, s)) := by
  refine ⟨rfl, by intro u hu; simp [markCellsL] at hu; rcases hu with rfl | rfl <;> rfl, .inr ⟨⟨W.heap.size, 0, none⟩, 1, rfl, fun j u hj => ?_⟩⟩
  match j, hj with
  | 0, hj => simp [markCellsL] at hj; subst hj; exact blk_cell 0 (alloc_at W _ rfl) rfl
  | 1, hj => simp [markCellsL] at hj; subst hj; exact blk_cell 1 (alloc_at W _ rfl) rfl
  | j + 2, hj => simp [markCellsL] at hj
/-- What the call has collected reads as marks. -/
theorem MarksC.of_own {w : World} {base : Nat} {e : TypeId} {v : Value} {n : Nat} {l : List (Nat × ByteArray)} (h : w.ownsRow base e 2 v n (flatC markCellsL l)) : ∃ a c, v = .slice a l.length c ∧ SlOk a l.length c ∧ MarksC w a l := by
  have hn : l.length = n := by have := h.1; rw [flatC_len markCellsL_len] at this; omega
  subst hn
  rcases h.2 with ⟨rfl, h0⟩ | ⟨g, cap, cur, rfl, _, hg, h1, h2, h3, h4⟩
  · have : l = [] := List.eq_nil_of_length_eq_zero h0
    subst this
    exact ⟨none, 0, rfl, ⟨Nat.le_refl _, by omega, fun _ => rfl⟩, fun i hi => absurd hi (Nat.not_lt_zero i)⟩
  · have hm : maxLen = 9223372036854775807 := rfl
    refine ⟨some ⟨g, 0, none⟩, cap, rfl, ⟨h1, by omega, fun h => by cases h⟩, fun i hi => ⟨g, 0, rfl, (Array.getElem?_eq_some_iff.1 hg).1, ?_, ?_⟩⟩
    · have := h.cells (g := g) rfl (i * 2 + 0) (.int .i64 (l[i].1 : Int)) (by rw [flatC_get markCellsL_len l i hi 0 (by decide)]; rfl)
      simpa [Addr.add_lit] using this
    · have := h.cells (g := g) rfl (i * 2 + 1) (.string l[i].2) (by rw [flatC_get markCellsL_len l i hi 1 (by decide)]; rfl)
      simpa [Addr.add_lit] using this
theorem own_grown {W V : World} {base bo : Nat} {e k : TypeId} {size n : Nat} {v : Value} {xs : List Value} {T : List (Value × Value)} (h : W.ownsRow base e size v n xs) (hT : MapV W Tryz.prog k bo T) (hg : W.grownBy V (some bo)) : V.ownsRow base e size v n xs := by
  refine h.kept hg ?_
  rcases h.2 with ⟨rfl, _⟩ | ⟨g, cap, cur, rfl, _, hgg, _⟩
  · exact .inl rfl
  · refine .inr (fun e => ?_)
    obtain ⟨es, c, hb, _⟩ := hT
    have : g = bo := by simpa [Value.ownBlock] using e
    subst this
    rw [hgg] at hb
    cases hb
end Go.Proofs.YtelmponkmmfffaaGreat
namespace Go.Proofs.YtelmponkmmfffaaGreat
open Go Go.RowKit Go.Shelf
theorem StrsC.set {W : World} {a : Option Addr} {l : List ByteArray} (h : StrsC W a l) {b : Nat} (hne : ∀ ad, a = some ad → ad.block ≠ b) (o : Nat) (v : Value) : StrsC (W.setCell ⟨b, o, none⟩ v) a l := fun i hi => by
  obtain ⟨b1, o1, e, hlt, hc⟩ := h i hi
  have h1 := hne _ e
  exact ⟨b1, o1, e, by simpa using hlt, cell_same (Below.heap_setCell _ _ _ _ h1) hc⟩
theorem LWords_any (s : ByteArray) (hs : s.size ≤ 1000) (w : World) :
    Calls Tryz.prog 20 #[.string s] w fun e w' => ∃ a k, e = .returned (.slice a (splitL s 32).length k) ∧ SlOk a (splitL s 32).length k ∧ StrsC w' a (splitL s 32) ∧ Below w.heap.size w w' ∧ ∀ ad, a = some ad → w.heap.size ≤ ad.block := by
  have SP : Hid (Calls Tryz.prog 67 #[.string s, .int .u8 32] w fun e w' => ∃ a k, e = .returned (.slice a (splitL s 32).length k) ∧ SlOk a (splitL s 32).length k ∧ StrsC w' a (splitL s 32) ∧ Below w.heap.size w w' ∧ ∀ ad, a = some ad → w.heap.size ≤ ad.block) := Lib.hid (LSplit_any s 32 (by decide) hs w)
  go_enter Tryz.func20, Tryz.ntmps20
  go_wp2_with (go_at_call 67; go_must ((with_reducible refine SP.out.mono ?_); rintro e w2 ⟨a, k, rfl, h1, h2, h3, h4⟩; dsimp only))
  go_ret
  exact ⟨a, k, rfl, h1, h2, h3, h4⟩
theorem LSpan_any (lo hi : Int) (w : World) :
    Calls Tryz.prog 113 #[.int .i64 lo, .int .i64 hi] w fun e w' => e = .returned (.agg #[.int .i64 lo, .int .i64 hi]) ∧ Below w.heap.size w w' := by
  go_enter Tryz.func113, Tryz.ntmps113
  go_wp2
  refine bodyPost_ret (v := .agg #[.int .i64 lo, .int .i64 hi]) ?_ rfl ⟨rfl, (by (repeat' (first | assumption | exact Below.refl _ _ | refine below_drew' ?_ | refine Below.setCell ?_ (by first | omega | (simp <;> omega)) _ | refine Below.alloc ?_ (by first | omega | (simp <;> omega)) _)))⟩
  rw [results_one rfl]
  go_simp
theorem LRoom_any (lo hi : Int) (w : World) :
    Calls Tryz.prog 66 #[.int .i64 lo, .int .i64 hi] w fun e w' => e = .returned (.agg #[.slice none 0 0, .int .i64 lo, .int .i64 hi]) ∧ Below w.heap.size w w' := by
  obtain ⟨X, hX⟩ : ∃ X : World, X = w.alloc (.cells #[.slice none 0 0, .int .i64 0, .int .i64 0] 62) := ⟨_, rfl⟩
  have hwX : Below w.heap.size w X := by rw [hX]; exact (Below.refl _ w).alloc (Nat.le_refl _) _
  have g : X.heap[w.heap.size]? = some (.cells #[.slice none 0 0, .int .i64 0, .int .i64 0] 62 (0, 0)) := by rw [hX]; exact alloc_at _ _ rfl
  have S := Lib.hid (LSpan_any lo hi X)
  have HX := Lib.hid hX
  clear hX
  go_enter Tryz.func66, Tryz.ntmps66
  go_upto_region 1 with (fail)
  rw [← HX.out]
  clear HX
  go_wp2_with (go_at_call 113; go_must ((with_reducible refine S.out.mono ?_); rintro e w2 ⟨rfl, hb2⟩; (have g2 := (hb2.block _ (lt_of_block g)).trans g); (have c0 := blk_cell 0 g2 rfl); (have c1 := blk_cell 1 g2 rfl); (have c2 := blk_cell 2 g2 rfl); (have f0 := blk_free 0 g2); (have f1 := blk_free 1 g2); (have f2 := blk_free 2 g2); (have z0 := lt_of_block g2); (simp only [List.getElem_toArray, List.getElem_cons_zero, List.getElem_cons_succ] at c0 c1 c2); dsimp only))
  refine bodyPost_ret (v := .agg #[.slice none 0 0, .int .i64 lo, .int .i64 hi]) ?_ rfl ⟨rfl, (((hwX.trans (hb2.mono hwX.size)).setCell (by simp) _).setCell (by simp) _).setCell (by simp) _⟩
  rw [results_one rfl]
  go_simp
theorem LGiven_any (s : ByteArray) (hs : s.size ≤ 1000) (w : World) :
    Calls Tryz.prog 65 #[.string s] w fun e w' => ∃ a k, e = .returned (.agg #[.slice a (splitL s 32).length k, .int .i64 0, .int .i64 0]) ∧ SlOk a (splitL s 32).length k ∧ StrsC w' a (splitL s 32) ∧ Below w.heap.size w w' ∧ ∀ ad, a = some ad → w.heap.size ≤ ad.block := by
  obtain ⟨X, hX⟩ : ∃ X : World, X = w.alloc (.cells #[.slice none 0 0, .int .i64 0, .int .i64 0] 62) := ⟨_, rfl⟩
  have hwX : Below w.heap.size w X := by rw [hX]; exact (Below.refl _ w).alloc (Nat.le_refl _) _
  have g : X.heap[w.heap.size]? = some (.cells #[.slice none 0 0, .int .i64 0, .int .i64 0] 62 (0, 0)) := by rw [hX]; exact alloc_at _ _ rfl
  have S := Lib.hid (LWords_any s hs X)
  have HX := Lib.hid hX
  clear hX
  go_enter Tryz.func65, Tryz.ntmps65
  go_upto_region 1 with (fail)
  rw [← HX.out]
  clear HX
  go_wp2_with (go_at_call 20; go_must ((with_reducible refine S.out.mono ?_); rintro e w2 ⟨a, k, rfl, h1, h2, hb2, hlo⟩; (have g2 := (hb2.block _ (lt_of_block g)).trans g); (have c0 := blk_cell 0 g2 rfl); (have c1 := blk_cell 1 g2 rfl); (have c2 := blk_cell 2 g2 rfl); (have f0 := blk_free 0 g2); (have f1 := blk_free 1 g2); (have f2 := blk_free 2 g2); (have z0 := lt_of_block g2); (simp only [List.getElem_toArray, List.getElem_cons_zero, List.getElem_cons_succ] at c0 c1 c2); dsimp only))
  have hwB : Below w.heap.size w (((w2.setCell ⟨w.heap.size, 0, none⟩ (.slice a (splitL s 32).length k)).setCell ⟨w.heap.size, 1, none⟩ (.int .i64 0)).setCell ⟨w.heap.size, 2, none⟩ (.int .i64 0)) := (((hwX.trans (hb2.mono hwX.size)).setCell (by simp) _).setCell (by simp) _).setCell (by simp) _
  have hst : StrsC (((w2.setCell ⟨w.heap.size, 0, none⟩ (.slice a (splitL s 32).length k)).setCell ⟨w.heap.size, 1, none⟩ (.int .i64 0)).setCell ⟨w.heap.size, 2, none⟩ (.int .i64 0)) a (splitL s 32) := by
    have hne : ∀ ad, a = some ad → ad.block ≠ w.heap.size := fun ad e => by have := hlo ad e; have := lt_of_block g; omega
    exact ((h2.set hne 0 _).set hne 1 _).set hne 2 _
  refine bodyPost_ret (v := .agg #[.slice a (splitL s 32).length k, .int .i64 0, .int .i64 0]) ?_ rfl ⟨a, k, rfl, h1, hst, hwB, fun ad e => Nat.le_trans hwX.size (hlo ad e)⟩
  rw [results_one rfl]
  go_simp
end Go.Proofs.YtelmponkmmfffaaGreat
namespace Go.Proofs.YtelmponkmmfffaaGreat
open Go Go.RowKit Go.Shelf
set_option maxRecDepth 100000 in
set_option maxHeartbeats 4000000 in
theorem LSameW_any (a b : Option Addr) (l : List ByteArray) (ca cb : Nat) (w : World) (hoa : SlOk a l.length ca) (hob : SlOk b l.length cb) (hi : StrsC w a l) (hj : StrsC w b l) :
    Calls Tryz.prog 29 #[.slice a l.length ca, .slice b l.length cb] w fun e w' => e = .returned (.bool true) ∧ Below w.heap.size w w' := by
  have hal := hoa.len
  have HI := Lib.hid (fun V (h : Below w.heap.size w V) => hi.mono h)
  have HJ := Lib.hid (fun V (h : Below w.heap.size w V) => hj.mono h)
  clear hi hj
  go_enter Tryz.func29, Tryz.ntmps29
  go_upto_region 4 with (fail)
  go_loopw [5] (fun i V => ∃ k : Nat, k ≤ l.length ∧ i = .int .i64 k ∧ Below w.heap.size w V) (fun i _ => l.length - (intOf i).toNat)
  case atStart => exact ⟨0, Nat.zero_le _, rfl, Below.refl _ _⟩
  case round =>
    rename World => V
    obtain ⟨k, hk, rfl, hb⟩ := hrel
    by_cases hlt : k < l.length
    · obtain ⟨b1, o1, e1, z1, h1⟩ := HI.out V hb k hlt
      obtain ⟨b2, o2, e2, z2, h2⟩ := HJ.out V hb k hlt
      have hkI : (k : Int) < l.length := by omega
      generalize l[k] = x at *
      have HQ := Lib.hid (fun n => show Below w.heap.size w (V.drewN n) from hb.trans ((below_draws _ _ n).mono hb.size))
      subst e1
      subst e2
      clear hb
      go_upto_region 6 with (fail)
      go_quiet (fail)
      go_wp2
      go_roundw
      case rel => exact ⟨k + 1, by omega, by go_num, HQ.out _⟩
      case measure => simp [intOf]; omega
    · obtain rfl : k = l.length := by omega
      go_wp2
      go_ret
      exact ⟨rfl, hb⟩
set_option maxRecDepth 100000 in
set_option maxHeartbeats 4000000 in
theorem LEqualM_any (a b : Option Addr) (l : List (Nat × ByteArray)) (ca cb : Nat) (w : World) (hoa : SlOk a l.length ca) (hob : SlOk b l.length cb) (hi : MarksC w a l) (hj : MarksC w b l)
    (heq : ∀ x ∈ l, ∀ W : World, (Op.equalIn 10000 146 (.agg #[.int .i64 (x.1 : Int), .string x.2]) (.agg #[.int .i64 (x.1 : Int), .string x.2])).run Tryz.prog W = .ok true W) :
    Calls Tryz.prog 32 #[.slice a l.length ca, .slice b l.length cb] w fun e w' => e = .returned (.bool true) ∧ Below w.heap.size w w' := by
  have hal := hoa.len
  have HI := Lib.hid (fun V (h : Below w.heap.size w V) => hi.mono h)
  have HJ := Lib.hid (fun V (h : Below w.heap.size w V) => hj.mono h)
  have HE := Lib.hid heq
  clear hi hj heq
  go_enter Tryz.func32, Tryz.ntmps32
  go_upto_region 4 with (fail)
  go_loopw [5] (fun i V => ∃ k : Nat, k ≤ l.length ∧ i = .int .i64 k ∧ Below w.heap.size w V) (fun i _ => l.length - (intOf i).toNat)
  case atStart => exact ⟨0, Nat.zero_le _, rfl, Below.refl _ _⟩
  case round =>
    rename World => V
    obtain ⟨k, hk, rfl, hb⟩ := hrel
    by_cases hlt : k < l.length
    · obtain ⟨b1, o1, e1, z1, h1, h1'⟩ := HI.out V hb k hlt
      obtain ⟨b2, o2, e2, z2, h2, h2'⟩ := HJ.out V hb k hlt
      have hkI : (k : Int) < l.length := by omega
      have he := HE.out _ (List.getElem_mem hlt)
      generalize l[k] = x at *
      obtain ⟨q, s⟩ := x
      simp only at h1 h1' h2 h2' he
      have HQ := Lib.hid (fun n => show Below w.heap.size w (V.drewN n) from hb.trans ((below_draws _ _ n).mono hb.size))
      subst e1
      subst e2
      clear hb
      go_upto_region 6 with (fail)
      go_quiet (fail)
      go_wp2
      go_roundw
      case rel => exact ⟨k + 1, by omega, by go_num, HQ.out _⟩
      case measure => simp [intOf]; omega
    · obtain rfl : k = l.length := by omega
      go_wp2
      go_ret
      exact ⟨rfl, hb⟩
theorem mark_eq0 (W : World) : (Op.equalIn 10000 146 (.agg #[.int .i64 0, .string ⟨#[]⟩]) (.agg #[.int .i64 0, .string ⟨#[]⟩])).run Tryz.prog W = .ok true W := by kernel_rfl
theorem mark_eq2 (W : World) : (Op.equalIn 10000 146 (.agg #[.int .i64 2, .string ⟨#[]⟩]) (.agg #[.int .i64 2, .string ⟨#[]⟩])).run Tryz.prog W = .ok true W := by kernel_rfl
theorem mark_eq3 (W : World) : (Op.equalIn 10000 146 (.agg #[.int .i64 3, .string ⟨#[102, 111, 114]⟩]) (.agg #[.int .i64 3, .string ⟨#[102, 111, 114]⟩])).run Tryz.prog W = .ok true W := by kernel_rfl
set_option maxRecDepth 100000 in
set_option maxHeartbeats 4000000 in
theorem LSames_any (a b : Option Addr) (L : List (List ByteArray)) (ca cb : Nat) (w : World) (hoa : SlOk a L.length ca) (hob : SlOk b L.length cb) (hi : StrRowsC w a L) (hj : StrRowsC w b L) :
    Calls Tryz.prog 31 #[.slice a L.length ca, .slice b L.length cb] w fun e w' => e = .returned (.bool true) ∧ Below w.heap.size w w' := by
  have hal := hoa.len
  have HI := Lib.hid (fun V (h : Below w.heap.size w V) => hi.mono h)
  have HJ := Lib.hid (fun V (h : Below w.heap.size w V) => hj.mono h)
  clear hi hj
  go_enter Tryz.func31, Tryz.ntmps31
  go_upto_region 4 with (fail)
  go_loopw [5] (fun i V => ∃ k : Nat, k ≤ L.length ∧ i = .int .i64 k ∧ Below w.heap.size w V) (fun i _ => L.length - (intOf i).toNat)
  case atStart => exact ⟨0, Nat.zero_le _, rfl, Below.refl _ _⟩
  case round =>
    rename World => V
    obtain ⟨k, hk, rfl, hb⟩ := hrel
    by_cases hlt : k < L.length
    · obtain ⟨b1, o1, a1, c1, e1, z1, h1, h1o, h1'⟩ := HI.out V hb k hlt
      obtain ⟨b2, o2, a2, c2, e2, z2, h2, h2o, h2'⟩ := HJ.out V hb k hlt
      have hkI : (k : Int) < L.length := by omega
      generalize L[k] = x at *
      have SM := Lib.hid (fun U (h : Below V.heap.size V U) => LSameW_any a1 a2 x c1 c2 U h1o h2o (h1'.mono h) (h2'.mono h))
      have KE : Hid (∀ U, Below V.heap.size V U → U.cell? ⟨b1, o1 + k, none⟩ = some (.slice a1 x.length c1) ∧ U.cell? ⟨b2, o2 + k, none⟩ = some (.slice a2 x.length c2) ∧ b1 < U.heap.size ∧ b2 < U.heap.size) := Lib.hid (fun U h => ⟨cell_below h h1, cell_below h h2, Nat.lt_of_lt_of_le z1 h.size, Nat.lt_of_lt_of_le z2 h.size⟩)
      have hB : Below V.heap.size V V.drew := below_drew' (Below.refl _ _)
      subst e1
      subst e2
      clear h1 h2 z1 z2 h1' h2' h1o h2o
      go_upto_region 6 with (fail)
      refine wp_region_held_drew (S := (fun U => U.cell? ⟨b1, o1 + k, none⟩ = some (.slice a1 x.length c1) ∧ U.cell? ⟨b2, o2 + k, none⟩ = some (.slice a2 x.length c2) ∧ b1 < U.heap.size ∧ b2 < U.heap.size)) (by kernel_rfl) (KE.out _ hB) (fun hHeld => ?_)
      (refine wpAnyH_take (i := 0) (v := ?_) rfl (by kernel_rfl) (by kernel_rfl) (by kernel_rfl) (fun _ _ _ h => h) (Or.inl ⟨by kernel_rfl, ?_⟩) (by assumption) ?_; rotate_left 1; (focus (intro w hSw; (try dsimp only at hSw); go_simp; first | done | with_reducible rfl)); simp only [Act.put, List.getElem_toArray, List.getElem_cons_succ, List.getElem_cons_zero, List.setIfInBounds_toArray, List.set_cons_succ, List.set_cons_zero])
      (refine wpAnyH_take (i := 1) (v := ?_) rfl (by kernel_rfl) (by kernel_rfl) (by kernel_rfl) (fun _ _ _ h => h) (Or.inl ⟨by kernel_rfl, ?_⟩) (by assumption) ?_; rotate_left 1; (focus (intro w hSw; (try dsimp only at hSw); go_simp; first | done | with_reducible rfl)); simp only [Act.put, List.getElem_toArray, List.getElem_cons_succ, List.getElem_cons_zero, List.setIfInBounds_toArray, List.set_cons_succ, List.set_cons_zero])
      (refine wpAnyH_take (i := 2) (v := ?_) rfl (by kernel_rfl) (by kernel_rfl) (by kernel_rfl) (fun _ _ _ h => h) (Or.inl ⟨by kernel_rfl, ?_⟩) (by assumption) ?_; rotate_left 1; (focus (intro w hSw; (try dsimp only at hSw); go_simp; first | done | with_reducible rfl)); simp only [Act.put, List.getElem_toArray, List.getElem_cons_succ, List.getElem_cons_zero, List.setIfInBounds_toArray, List.set_cons_succ, List.set_cons_zero])
      (refine wpAnyH_take (i := 3) (v := ?_) rfl (by kernel_rfl) (by kernel_rfl) (by kernel_rfl) (fun _ _ _ h => h) (Or.inl ⟨by kernel_rfl, ?_⟩) (by assumption) ?_; rotate_left 1; (focus (intro w hSw; (try dsimp only at hSw); go_simp; first | done | with_reducible rfl)); simp only [Act.put, List.getElem_toArray, List.getElem_cons_succ, List.getElem_cons_zero, List.setIfInBounds_toArray, List.set_cons_succ, List.set_cons_zero])
      (refine wpAnyH_take (i := 4) (v := ?_) rfl (by kernel_rfl) (by kernel_rfl) (by kernel_rfl) (fun _ _ _ h => h) (Or.inl ⟨by kernel_rfl, ?_⟩) (by assumption) ?_; rotate_left 1; (focus (intro w hSw; (try dsimp only at hSw); go_simp; first | done | with_reducible rfl)); simp only [Act.put, List.getElem_toArray, List.getElem_cons_succ, List.getElem_cons_zero, List.setIfInBounds_toArray, List.set_cons_succ, List.set_cons_zero])
      (refine wpAnyH_take (i := 5) (v := ?_) rfl (by kernel_rfl) (by kernel_rfl) (by kernel_rfl) (fun _ _ _ h => h) (Or.inl ⟨by kernel_rfl, ?_⟩) (by assumption) ?_; rotate_left 1; (focus (intro w hSw; (try dsimp only at hSw); go_simp; first | done | with_reducible rfl)); simp only [Act.put, List.getElem_toArray, List.getElem_cons_succ, List.getElem_cons_zero, List.setIfInBounds_toArray, List.set_cons_succ, List.set_cons_zero])
      (refine wpAnyH_take (i := 6) (v := ?_) rfl (by kernel_rfl) (by kernel_rfl) (by kernel_rfl) (fun _ _ _ h => h) (Or.inl ⟨by kernel_rfl, ?_⟩) (by assumption) ?_; rotate_left 1; (focus (intro w hSw; (try dsimp only at hSw); go_simp; first | done | with_reducible rfl)); simp only [Act.put, List.getElem_toArray, List.getElem_cons_succ, List.getElem_cons_zero, List.setIfInBounds_toArray, List.set_cons_succ, List.set_cons_zero])
      (refine wpAnyH_take (i := 7) (v := ?_) rfl (by kernel_rfl) (by kernel_rfl) (by kernel_rfl) (fun _ _ _ h => h) (Or.inl ⟨by kernel_rfl, ?_⟩) (by assumption) ?_; rotate_left 1; (focus (intro w hSw; (try dsimp only at hSw); go_simp; first | done | with_reducible rfl)); simp only [Act.put, List.getElem_toArray, List.getElem_cons_succ, List.getElem_cons_zero, List.setIfInBounds_toArray, List.set_cons_succ, List.set_cons_zero])
      (refine wpAnyH_ready (rs := [8]) (by kernel_rfl) (by simp) ?_; refine AllReadyH.cons rfl (fun K hK => ?_) AllReadyH.nil; go_simp)
      refine (SM.out _ hB).mono ?_
      rintro e w3 ⟨rfl, hb3⟩
      dsimp only
      have hB3 := hB.trans (hb3.mono hB.size)
      refine hK.out _ _ (KE.out _ hB3) (fun hHeld => ?_)
      (try simp only [Act.put, List.getElem_toArray, List.getElem_cons_succ, List.getElem_cons_zero, List.setIfInBounds_toArray, List.set_cons_succ, List.set_cons_zero])
      clear hK
      (refine wpAnyH_take (i := 9) (v := ?_) rfl (by kernel_rfl) (by kernel_rfl) (by kernel_rfl) (fun _ _ _ h => h) (Or.inl ⟨by kernel_rfl, ?_⟩) (by assumption) ?_; rotate_left 1; (focus (intro w hSw; (try dsimp only at hSw); go_simp; first | done | with_reducible rfl)); simp only [Act.put, List.getElem_toArray, List.getElem_cons_succ, List.getElem_cons_zero, List.setIfInBounds_toArray, List.set_cons_succ, List.set_cons_zero])
      refine wpAnyH_done (by kernel_rfl) ?_ _
      have hb9 := hb.trans (hB3.mono hb.size)
      clear KE SM hHeld hB hB3 hb3
      go_wp2
      go_roundw
      case rel => exact ⟨k + 1, by omega, by go_num, hb9⟩
      case measure => simp [intOf]; omega
    · obtain rfl : k = L.length := by omega
      go_wp2
      go_ret
      exact ⟨rfl, hb⟩
end Go.Proofs.YtelmponkmmfffaaGreat
