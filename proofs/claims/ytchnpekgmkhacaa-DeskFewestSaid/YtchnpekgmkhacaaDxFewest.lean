/- What is proved here: the walk of DeskFewest: it returns true, and turns nothing that was there. Conditions: the hall lies in memory. -/
import Derived.Test.YtchnpekgmkhacaaDw6
set_option linter.unusedVariables false
set_option linter.unusedSimpArgs false
namespace Go.Proofs.Ytchnpekgmkhacaa
open Go Go.RowKit
/-- Two growing slices lie apart. -/
def Apart (a b : Value) : Prop := ∀ k, a.ownBlock = some k → b.ownBlock ≠ some k
theorem Apart.symm {a b : Value} (h : Apart a b) : Apart b a := fun k hb ha => h k ha hb
theorem apart_push {w w' : World} {o : Obj} {base : Nat} {f : TypeId} {va va' vb : Value} {n : Nat} {ys : List Value} (hap : Apart va vb) (hb : w.ownsRow base f 1 vb n ys) (hg : (w.alloc o).grownBy w' va.ownBlock) (hn : va'.ownBlock = va.ownBlock ∨ va'.ownBlock = some (w.alloc o).heap.size) : w'.ownsRow base f 1 vb n ys ∧ Apart va' vb := by
  refine ⟨(hb.alloc o).kept hg ?_, fun k ha hk => ?_⟩
  · cases hv : vb.ownBlock with
    | none => exact .inl rfl
    | some k => exact .inr (fun e2 => hap k e2.symm hv)
  · rcases hn with h1 | h1
    · rw [h1] at ha; exact hap k ha hk
    · rw [h1] at ha
      have h2 := (hb.lt k hk).2
      have h3 := Option.some.inj ha
      simp at h3
      omega
def rangeL (k : Nat) : List Int := (List.range k).map fun (i : Nat) => (i : Int)
theorem rangeL_succ (k : Nat) : rangeL (k + 1) = rangeL k ++ [(k : Int)] := by unfold rangeL; rw [List.range_succ, List.map_append]; rfl
theorem rangeL_len (k : Nat) : (rangeL k).length = k := by simp [rangeL]
theorem DRising_yes (a : Option Addr) (l : List Int) (c : Nat) (below : Int) (w : World) (hr : rising l below = true) (hl : l.length ≤ 9223372036854775807) (hi : IntsC w a l) :
    Calls Try.prog 47 #[.slice a l.length c, .int .i64 below] w fun e w' => e = .returned (.bool true) ∧ Below w.heap.size w w' := by
  have C := Rising_any a l c below w hl hi
  rw [hr] at C
  exact C.mono fun e w' ⟨h1, h2⟩ => ⟨h1, by rw [h2]; exact Below.refl _ _⟩
theorem DFewer_is (a b : Option Addr) (l m : List Int) (c d : Nat) (w : World) (r : Bool) (hr : fewer l m = r) (hl : l.length ≤ 9223372036854775807) (hm : m.length ≤ 9223372036854775807) (hi : IntsC w a l) (hj : IntsC w b m) :
    Calls Try.prog 50 #[.slice a l.length c, .slice b m.length d] w fun e w' => e = .returned (.bool r) ∧ Below w.heap.size w w' := by
  have C := Fewer_any a b l m c d w hl hm hi hj
  rw [hr] at C
  exact C.mono fun e w' ⟨h1, q, h2⟩ => ⟨h1, by rw [h2]; exact below_draws _ _ q⟩
theorem DBit_is (n : Int) (k : Nat) (r : Bool) (w : World) (hr : bitB n k = r) (hk : k ≤ 1000) (h1 : -9223372036854775808 ≤ n) (h2 : n ≤ 9223372036854775807) :
    Calls Try.prog 46 #[.int .i64 n, .int .i64 (k : Int)] w fun e w' => e = .returned (.bool r) ∧ Below w.heap.size w w' := by
  have C := Bit_any n (k : Int) w (by omega) (by omega) h1 h2
  rw [Int.toNat_natCast, hr] at C
  exact C.mono fun e w' ⟨h1, h2⟩ => ⟨h1, by rw [h2]; exact Below.refl _ _⟩
/-- 'Some' of a hall without some customers, of one with some writers. -/
theorem DSomeBut_is (aw ac : Option Addr) (kw kc : Nat) (h : DeH) (l : List Int) (r : Bool) (hr : someD (butD h l) = r) (hv : DeValid h) (b5 : Option Addr) (d5 : Nat) (w : World) (hC : HallC w aw b5 kw d5 (butD h l)) :
    Calls Try.prog 48 #[.agg #[.int .i64 h.wax, .slice aw h.writers.length kw, .slice b5 (butD h l).customers.length d5]] w fun e w' => e = .returned (.bool r) ∧ Below w.heap.size w w' := by
  have C := DRSome_any aw b5 kw d5 (butD h l) w hC (but_ok hv l)
  rw [hr] at C
  exact C
theorem DSomeOnly_is (aw ac : Option Addr) (kw kc : Nat) (h : DeH) (l : List Int) (r : Bool) (hr : someD (onlyD h l) = r) (hv : DeValid h) (hl : incr h.writers.length l) (b5 : Option Addr) (d5 : Nat) (w : World) (hC : HallC w b5 ac d5 kc (onlyD h l)) :
    Calls Try.prog 48 #[.agg #[.int .i64 h.wax, .slice b5 (onlyD h l).writers.length d5, .slice ac h.customers.length kc]] w fun e w' => e = .returned (.bool r) ∧ Below w.heap.size w w' := by
  have C := DRSome_any b5 ac d5 kc (onlyD h l) w hC (only_ok hv l (Nat.le_trans (incr_len hl) hv.nw) hl.2)
  rw [hr] at C
  exact C
theorem DOnly_is (aw ac : Option Addr) (kw kc : Nat) (h : DeH) (ab : Option Addr) (l : List Int) (cb : Nat) (w : World) (hm : HallC w aw ac kw kc h) (hv : DeValid h) (hl : incr h.writers.length l) (hsb : SlOk ab l.length cb) (hib : IntsC w ab l) :
    Calls Try.prog 51 #[(.agg #[.int .i64 h.wax, .slice aw h.writers.length kw, .slice ac h.customers.length kc]), .slice ab l.length cb] w fun e w' => ∃ b5 d5, e = .returned (.agg #[.int .i64 h.wax, .slice b5 (onlyD h l).writers.length d5, .slice ac h.customers.length kc]) ∧ HallC w' b5 ac d5 kc (onlyD h l) ∧ Below w.heap.size w w' :=
  DROnly_any aw ac kw kc h ab l cb w hm hv.nw (by have := incr_len hl; have := hv.nw; omega) hl.2 hsb hib
set_option maxRecDepth 100000 in
set_option maxHeartbeats 16000000 in
theorem DeskFewest_walk (aw ac : Option Addr) (kw kc : Nat) (h : DeH) (x0 x1 : Nat) (w : World) (hm : HallC w aw ac kw kc h) (gg0 : x0 ≤ 255) (gg1 : x1 ≤ 255) : Calls Try.prog 11 #[(.agg #[.int .i64 h.wax, .slice aw h.writers.length kw, .slice ac h.customers.length kc]), .agg #[.int .u8 (x0 : Int), .int .u8 (x1 : Int)]] w fun e w' => e = .returned (.bool true) ∧ Below w.heap.size w w' := by
  obtain ⟨X, hX⟩ : ∃ X : World, X = ((w.alloc (.cells #[.int .i64 h.wax, .slice aw h.writers.length kw, .slice ac h.customers.length kc] 25)).alloc (.cells #[.int .u8 (x0 : Int), .int .u8 (x1 : Int)] 63)) := ⟨_, rfl⟩
  have hwX : Below w.heap.size w X := by rw [hX]; exact (by (repeat' (first | assumption | exact Below.refl _ _ | refine below_drew' ?_ | refine Below.setCell ?_ (by first | omega | (simp <;> omega)) _ | refine Below.alloc ?_ (by first | omega | (simp <;> omega)) _)))
  have g1 : X.heap[w.heap.size]? = some (.cells #[.int .i64 h.wax, .slice aw h.writers.length kw, .slice ac h.customers.length kc] 25 (0, 0)) := by rw [hX]; (repeat' (first | exact alloc_at _ _ (by simp) | refine (heap_alloc_old _ _ (by first | omega | (simp <;> omega))).trans ?_))
  have g2 : X.heap[w.heap.size + 1]? = some (.cells #[.int .u8 (x0 : Int), .int .u8 (x1 : Int)] 63 (0, 0)) := by rw [hX]; (repeat' (first | exact alloc_at _ _ (by simp) | refine (heap_alloc_old _ _ (by first | omega | (simp <;> omega))).trans ?_))
  replace g1 := fun (V : World) (h : Below X.heap.size X V) => (h.block _ (lt_of_block g1)).trans g1
  replace g2 := fun (V : World) (h : Below X.heap.size X V) => (h.block _ (lt_of_block g2)).trans g2
  have HC : Hid (∀ V, Below X.heap.size X V → (V.cell? ⟨w.heap.size, 0, none⟩ = some (.int .i64 h.wax) ∧ V.cell? ⟨w.heap.size, 1, none⟩ = some (.slice aw h.writers.length kw) ∧ V.cell? ⟨w.heap.size, 2, none⟩ = some (.slice ac h.customers.length kc) ∧ V.cell? ⟨w.heap.size + 1, 0, none⟩ = some (.int .u8 (x0 : Int)) ∧ V.cell? ⟨w.heap.size + 1, 1, none⟩ = some (.int .u8 (x1 : Int)) ∧ w.heap.size < V.heap.size ∧ w.heap.size + 1 < V.heap.size)) := Lib.hid (fun V h => ⟨blk_cell 0 (g1 V h) rfl, blk_cell 1 (g1 V h) rfl, blk_cell 2 (g1 V h) rfl, blk_cell 0 (g2 V h) rfl, blk_cell 1 (g2 V h) rfl, lt_of_block (g1 V h), lt_of_block (g2 V h)⟩)
  have M := Lib.hid (fun (V : World) (h : Below X.heap.size X V) => (hm.mono hwX).mono h)
  clear g1 g2
  have hQ := Below.refl X.heap.size X
  have hx := HC.out _ hQ
  by_cases he : deErr h = 0
  · have hvd := Lib.hid (decide_eq_true he)
    have hv := deValid_of he
    have hnw := hv.nw
    have hnc := hv.nc
    have hwc := hm.okw.1
    have hcc := hm.okc.1
    obtain ⟨K, hka, hki, hks, hkm⟩ := away_plain he
    obtain ⟨L, eL, hle⟩ : ∃ L e, deEnough h = (L, e) := ⟨_, _, rfl⟩
    have hcase := enough_plain he
    rw [hle, hka] at hcase
    obtain ⟨Y, hY⟩ : ∃ Y, Y = idxTo (x1 : Int) h.customers.length := ⟨_, rfl⟩
    obtain ⟨Z, hZ⟩ : ∃ Z, Z = idxTo (x0 : Int) h.writers.length := ⟨_, rfl⟩
    obtain ⟨R, hR⟩ : ∃ R, R = rangeL h.writers.length := ⟨_, rfl⟩
    have hYi : incr h.customers.length Y := by rw [hY]; exact idxTo_incr _ _
    have hZi : incr h.writers.length Z := by rw [hZ]; exact idxTo_incr _ _
    have hRi : incr h.writers.length R := by rw [hR]; exact incr_range _
    have hKr := Lib.hid (rising_incr hki)
    have hYK := hkm Y hYi
    replace hY := Lib.hid hY
    replace hZ := Lib.hid hZ
    replace hR := Lib.hid hR
    replace hka := Lib.hid hka
    replace hle := Lib.hid hle
    replace hks := Lib.hid hks
    have BT := Lib.hid (fun (V : World) (l : List Int) (a : Option Addr) (c : Nat) (hq : Below X.heap.size X V) (ho : SlOk a l.length c) (hi : IntsC V a l) => DRBut_any aw ac kw kc h a l c V (M.out _ hq) hnc ho hi)
    have OT := Lib.hid (fun (V : World) (l : List Int) (a : Option Addr) (c : Nat) (hq : Below X.heap.size X V) (hl : incr h.writers.length l) (ho : SlOk a l.length c) (hi : IntsC V a l) => DOnly_is aw ac kw kc h a l c V (M.out _ hq) hv hl ho hi)
    clear hkm
    go_enter Try.func11, Try.ntmps11
    go_upto_region 1 with (fail)
    rw [← hX]
    clear hX
    go_upto_region 7 with (first
      | (go_at_call 37; (with_reducible refine (DValid_is _ _ _ _ h true hvd.out _ (M.out _ hQ)).mono ?_); rintro e w4 ⟨rfl, hb⟩; replace i1 := i1.mono hb; replace i2 := i2.mono hb; replace hQ := q_on hQ hb; replace hx := HC.out _ hQ; dsimp only)
      | (go_at_call 32; (with_reducible refine (DA_Away _ _ _ _ h K 0 hka.out _ (M.out _ hQ)).mono ?_); rintro e w3 ⟨b2, c2, rfl, o2, i2, hb⟩; replace i1 := i1.mono hb; replace hQ := q_on hQ hb; replace hx := HC.out _ hQ; dsimp only)
      | (go_at_call 29; (with_reducible refine (DA_Enough _ _ _ _ h L eL hle.out _ (M.out _ hQ)).mono ?_); rintro e w2 ⟨b1, c1, rfl, o1, i1, hb⟩; replace hQ := q_on hQ hb; replace hx := HC.out _ hQ; dsimp only))
    have hQ4 := hQ
    clear hx hb
    go_loopw [9, 11, 12] (fun va vb i V => ∃ k : Nat, k ≤ h.writers.length ∧ i = .int .i64 k ∧ V.ownsRow w4.heap.size 3 1 va (idxTo (x0 : Int) k).length ((idxTo (x0 : Int) k).map (Value.int .i64)) ∧ V.ownsRow w4.heap.size 3 1 vb k ((rangeL k).map (Value.int .i64)) ∧ Apart va vb ∧ Below w4.heap.size w4 V) (fun _ _ i _ => h.writers.length - (intOf i).toNat)
    case atStart => exact ⟨0, Nat.zero_le _, rfl, World.ownsRow_nil _ _ _ _, World.ownsRow_nil _ _ _ _, (fun k e => by cases e), Below.refl _ _⟩
    case round =>
      obtain ⟨k, hk, rfl, hoa, hob, hap, hb⟩ := hrel
      have hQ := q_on hQ4 hb
      have hx := HC.out _ hQ
      have hz := hb.size
      have hil := idxTo_len (x0 : Int) k
      by_cases hlt : k < h.writers.length
      · have g2 : (k : Int) < h.writers.length := by omega
        cases hbit : bitB (x0 : Int) k with
        | true =>
          have hbt := Lib.hid hbit
          have hyes := Lib.hid (idxTo_yes hbit)
          clear hbit
          go_upto_region 10 with (at_builtin; go_must (refine wpList_app (.tmp 52) (.tmp 54) E_int rfl rfl rfl rfl w4.heap.size k 1 ((rangeL k).map (Value.int .i64)) [.int .i64 (k : Int)] (hob.alloc _) (SrcAt.one _ _ _ rfl) (by omega) (by decide) (by simp; omega) ?_; intro v5 w5 ho5 hg5 hn5; (obtain ⟨hoa5, hap5⟩ := apart_push hap.symm hoa hg5 hn5); (have hb5 := app_next hb (Nat.le_refl _) (Nat.le_refl _) hob hg5); clear hg5 hn5; simp only [Act.put, List.setIfInBounds_toArray, List.set_cons_succ, List.set_cons_zero]))
          clear hx
          have hQ := q_on hQ4 hb5
          have hx := HC.out _ hQ
          go_wp2_with (first
            | (at_builtin; have hh := hb6; go_must (refine wpList_app (.tmp 61) (.tmp 63) E_int rfl rfl rfl rfl w4.heap.size (idxTo (x0 : Int) k).length 1 ((idxTo (x0 : Int) k).map (Value.int .i64)) [.int .i64 (k : Int)] (hoa6.alloc _) (SrcAt.one _ _ _ rfl) (by omega) (by decide) (by simp; omega) ?_; intro v7 w7 ho7 hg7 hn7; (obtain ⟨hob7, hap7⟩ := apart_push hap5.symm hob6 hg7 hn7); (have hb7 := app_next hb6w (Nat.le_refl _) (Nat.le_refl _) hoa6 hg7); clear hg7 hn7; simp only [Act.put, List.setIfInBounds_toArray, List.set_cons_succ, List.set_cons_zero]))
            | (go_at_call 46; (with_reducible refine (DBit_is (x0 : Int) k true _ hbt.out (by omega) (by omega) (by omega)).mono ?_); rintro e w6 ⟨rfl, hb6⟩; have hb6w := hb5.trans (hb6.mono hb5.size); have hoa6 := own_below hoa5 hb6; have hob6 := own_below ho5 hb6; have hz6 := hb6w.size; dsimp only))
          go_roundw
          case rel => exact ⟨k + 1, by omega, by go_num, by rw [hyes.out, List.length_append, List.map_append]; exact ho7, by rw [rangeL_succ, List.map_append]; exact hob7, hap7, hb7⟩
          case measure => simp [intOf]; omega
        | false =>
          have hbt := Lib.hid hbit
          have hno := Lib.hid (idxTo_no hbit)
          clear hbit
          go_upto_region 10 with (at_builtin; go_must (refine wpList_app (.tmp 52) (.tmp 54) E_int rfl rfl rfl rfl w4.heap.size k 1 ((rangeL k).map (Value.int .i64)) [.int .i64 (k : Int)] (hob.alloc _) (SrcAt.one _ _ _ rfl) (by omega) (by decide) (by simp; omega) ?_; intro v5 w5 ho5 hg5 hn5; (obtain ⟨hoa5, hap5⟩ := apart_push hap.symm hoa hg5 hn5); (have hb5 := app_next hb (Nat.le_refl _) (Nat.le_refl _) hob hg5); clear hg5 hn5; simp only [Act.put, List.setIfInBounds_toArray, List.set_cons_succ, List.set_cons_zero]))
          clear hx
          have hQ := q_on hQ4 hb5
          have hx := HC.out _ hQ
          go_wp2_with (go_at_call 46; (with_reducible refine (DBit_is (x0 : Int) k false _ hbt.out (by omega) (by omega) (by omega)).mono ?_); rintro e w6 ⟨rfl, hb6⟩; have hb6w := hb5.trans (hb6.mono hb5.size); have hoa6 := own_below hoa5 hb6; have hob6 := own_below ho5 hb6; dsimp only)
          go_roundw
          case rel => exact ⟨k + 1, by omega, by go_num, by rw [hno.out]; exact hoa6, by rw [rangeL_succ, List.map_append]; exact hob6, hap5.symm, hb6w⟩
          case measure => simp [intOf]; omega
      · obtain rfl : k = h.writers.length := by omega
        rw [← hZ.out] at hoa
        rw [← hR.out] at hob
        obtain ⟨aZ, cZ, rfl, oZ, iZ⟩ := IntsV.of_own hoa
        obtain ⟨aR, cR, rfl, oR, iR⟩ := IntsV.of_own hob
        replace i1 := i1.mono hb
        replace i2 := i2.mono hb
        have hQ5 := hQ
        go_upto_region 13 with (fail)
        clear hx hz hil hoa hob hap hb
        go_loopw [10, 13] (fun va i V => ∃ k : Nat, k ≤ h.customers.length ∧ i = .int .i64 k ∧ V.ownsRow wr.heap.size 3 1 va (idxTo (x1 : Int) k).length ((idxTo (x1 : Int) k).map (Value.int .i64)) ∧ Below wr.heap.size wr V) (fun _ i _ => h.customers.length - (intOf i).toNat)
        case atStart => exact ⟨0, Nat.zero_le _, rfl, World.ownsRow_nil _ _ _ _, Below.refl _ _⟩
        case round =>
          rename World => U
          obtain ⟨k, hk, rfl, hoa, hb⟩ := hrel
          have hQ := q_on hQ5 hb
          have hx := HC.out _ hQ
          have hz := hb.size
          have hil := idxTo_len (x1 : Int) k
          by_cases hlt : k < h.customers.length
          · have g2 : (k : Int) < h.customers.length := by omega
            cases hbit : bitB (x1 : Int) k with
            | true =>
              have hbt := Lib.hid hbit
              have hyes := Lib.hid (idxTo_yes hbit)
              clear hbit
              go_wp2_with (first
                | (at_builtin; have hh := hb6; go_must (refine wpList_app (.tmp 77) (.tmp 79) E_int rfl rfl rfl rfl wr.heap.size (idxTo (x1 : Int) k).length 1 ((idxTo (x1 : Int) k).map (Value.int .i64)) [.int .i64 (k : Int)] (hoa6.alloc _) (SrcAt.one _ _ _ rfl) (by omega) (by decide) (by simp; omega) ?_; intro v7 w7 ho7 hg7 hn7; (have hb7 := app_next hb6w (Nat.le_refl _) (Nat.le_refl _) hoa6 hg7); clear hg7 hn7; simp only [Act.put, List.setIfInBounds_toArray, List.set_cons_succ, List.set_cons_zero]))
                | (go_at_call 46; (with_reducible refine (DBit_is (x1 : Int) k true _ hbt.out (by omega) (by omega) (by omega)).mono ?_); rintro e w6 ⟨rfl, hb6⟩; have hb6w := hb.trans (hb6.mono hb.size); have hoa6 := own_below hoa hb6; have hz6 := hb6w.size; dsimp only))
              go_roundw
              case rel => exact ⟨k + 1, by omega, by go_num, by rw [hyes.out, List.length_append, List.map_append]; exact ho7, hb7⟩
              case measure => simp [intOf]; omega
            | false =>
              have hbt := Lib.hid hbit
              have hno := Lib.hid (idxTo_no hbit)
              clear hbit
              go_wp2_with (go_at_call 46; (with_reducible refine (DBit_is (x1 : Int) k false _ hbt.out (by omega) (by omega) (by omega)).mono ?_); rintro e w6 ⟨rfl, hb6⟩; have hb6w := hb.trans (hb6.mono hb.size); have hoa6 := own_below hoa hb6; dsimp only)
              go_roundw
              case rel => exact ⟨k + 1, by omega, by go_num, by rw [hno.out]; exact hoa6, hb6w⟩
              case measure => simp [intOf]; omega
          · obtain rfl : k = h.customers.length := by omega
            rw [← hY.out] at hoa
            obtain ⟨aY, cY, rfl, oY, iY⟩ := IntsV.of_own hoa
            replace i1 := i1.mono hb
            replace i2 := i2.mono hb
            replace iZ := iZ.mono hb
            replace iR := iR.mono hb
            clear hb hz hil hoa
            generalize hsy : someD (butD h Y) = b2 at hYK
            replace hsy := Lib.hid hsy
            have lY := oY.len
            have lK := o2.len
            have lL := o1.len
            have lZ := oZ.len
            rcases hcase with ⟨h1, h2, h3⟩ | ⟨L', h1, hLi, h2, h3, h4⟩
            · obtain ⟨rfl, rfl⟩ := Prod.mk.inj h1
              have hsr := Lib.hid (h2 R hRi)
              have q1 : (0 : Int) < (K.length : Int) := by omega
              have q9 : ((9 : Int) != 0) = true := rfl
              clear h1 h2 h3
              cases b2 with
              | true =>
                have hfy := Lib.hid (show fewer Y K = false by simpa using hYK)
                clear hYK
                go_wp2_with (first
                  | (go_at_call 23; (with_reducible refine (DAwake_any _).mono ?_); rintro e w24 ⟨rfl, hb⟩; replace hQ := q_on hQ hb; replace hx := HC.out _ hQ; dsimp only)
                  | (go_at_call 48; (with_reducible refine (DSomeOnly_is aw ac kw kc h R false hsr.out hv hRi _ _ _ hC7).mono ?_); rintro e w17 ⟨rfl, hb⟩; replace i1 := i1.mono hb; replace i2 := i2.mono hb; replace iY := iY.mono hb; replace iZ := iZ.mono hb; replace iR := iR.mono hb; replace hQ := q_on hQ hb; replace hx := HC.out _ hQ; dsimp only)
                  | (go_at_call 51; (with_reducible refine (OT.out _ R _ _ hQ hRi oR iR).mono ?_); rintro e w16 ⟨b7, d7, rfl, hC7, hb⟩; replace i1 := i1.mono hb; replace i2 := i2.mono hb; replace iY := iY.mono hb; replace iZ := iZ.mono hb; replace iR := iR.mono hb; replace hQ := q_on hQ hb; replace hx := HC.out _ hQ; dsimp only)
                  | (go_at_call 50; (with_reducible refine (DFewer_is _ _ Y K _ _ _ false hfy.out lY lK iY i2).mono ?_); rintro e w15 ⟨rfl, hb⟩; replace i1 := i1.mono hb; replace i2 := i2.mono hb; replace iY := iY.mono hb; replace iZ := iZ.mono hb; replace iR := iR.mono hb; replace hQ := q_on hQ hb; replace hx := HC.out _ hQ; dsimp only)
                  | (go_at_call 48; (with_reducible refine (DSomeBut_is aw ac kw kc h Y _ hsy.out hv _ _ _ hC6).mono ?_); rintro e w14 ⟨rfl, hb⟩; replace i1 := i1.mono hb; replace i2 := i2.mono hb; replace iY := iY.mono hb; replace iZ := iZ.mono hb; replace iR := iR.mono hb; replace hQ := q_on hQ hb; replace hx := HC.out _ hQ; dsimp only)
                  | (go_at_call 49; (with_reducible refine (BT.out _ Y _ _ hQ oY iY).mono ?_); rintro e w13 ⟨b6, d6, rfl, hC6, hb⟩; replace i1 := i1.mono hb; replace i2 := i2.mono hb; replace iY := iY.mono hb; replace iZ := iZ.mono hb; replace iR := iR.mono hb; replace hQ := q_on hQ hb; replace hx := HC.out _ hQ; dsimp only)
                  | (go_at_call 48; (with_reducible refine (DSomeBut_is aw ac kw kc h K true hks.out hv _ _ _ hC).mono ?_); rintro e w12 ⟨rfl, hb⟩; replace i1 := i1.mono hb; replace i2 := i2.mono hb; replace iY := iY.mono hb; replace iZ := iZ.mono hb; replace iR := iR.mono hb; replace hQ := q_on hQ hb; replace hx := HC.out _ hQ; dsimp only)
                  | (go_at_call 49; (with_reducible refine (BT.out _ K _ _ hQ o2 i2).mono ?_); rintro e w11 ⟨b5, d5, rfl, hC, hb⟩; replace i1 := i1.mono hb; replace i2 := i2.mono hb; replace iY := iY.mono hb; replace iZ := iZ.mono hb; replace iR := iR.mono hb; replace hQ := q_on hQ hb; replace hx := HC.out _ hQ; dsimp only)
                  | (go_at_call 47; (with_reducible refine (DRising_yes _ K _ _ _ hKr.out lK i2).mono ?_); rintro e w10 ⟨rfl, hb⟩; replace i1 := i1.mono hb; replace i2 := i2.mono hb; replace iY := iY.mono hb; replace iZ := iZ.mono hb; replace iR := iR.mono hb; replace hQ := q_on hQ hb; replace hx := HC.out _ hQ; dsimp only))
                go_ret
                exact ⟨rfl, hwX.trans (hQ.mono hwX.size)⟩
              | false =>
                clear hYK
                go_wp2_with (first
                  | (go_at_call 23; (with_reducible refine (DAwake_any _).mono ?_); rintro e w24 ⟨rfl, hb⟩; replace hQ := q_on hQ hb; replace hx := HC.out _ hQ; dsimp only)
                  | (go_at_call 48; (with_reducible refine (DSomeOnly_is aw ac kw kc h R false hsr.out hv hRi _ _ _ hC7).mono ?_); rintro e w17 ⟨rfl, hb⟩; replace i1 := i1.mono hb; replace i2 := i2.mono hb; replace iY := iY.mono hb; replace iZ := iZ.mono hb; replace iR := iR.mono hb; replace hQ := q_on hQ hb; replace hx := HC.out _ hQ; dsimp only)
                  | (go_at_call 51; (with_reducible refine (OT.out _ R _ _ hQ hRi oR iR).mono ?_); rintro e w16 ⟨b7, d7, rfl, hC7, hb⟩; replace i1 := i1.mono hb; replace i2 := i2.mono hb; replace iY := iY.mono hb; replace iZ := iZ.mono hb; replace iR := iR.mono hb; replace hQ := q_on hQ hb; replace hx := HC.out _ hQ; dsimp only)
                  | (go_at_call 50; (with_reducible refine (DFewer_is _ _ Y K _ _ _ false hfy.out lY lK iY i2).mono ?_); rintro e w15 ⟨rfl, hb⟩; replace i1 := i1.mono hb; replace i2 := i2.mono hb; replace iY := iY.mono hb; replace iZ := iZ.mono hb; replace iR := iR.mono hb; replace hQ := q_on hQ hb; replace hx := HC.out _ hQ; dsimp only)
                  | (go_at_call 48; (with_reducible refine (DSomeBut_is aw ac kw kc h Y _ hsy.out hv _ _ _ hC6).mono ?_); rintro e w14 ⟨rfl, hb⟩; replace i1 := i1.mono hb; replace i2 := i2.mono hb; replace iY := iY.mono hb; replace iZ := iZ.mono hb; replace iR := iR.mono hb; replace hQ := q_on hQ hb; replace hx := HC.out _ hQ; dsimp only)
                  | (go_at_call 49; (with_reducible refine (BT.out _ Y _ _ hQ oY iY).mono ?_); rintro e w13 ⟨b6, d6, rfl, hC6, hb⟩; replace i1 := i1.mono hb; replace i2 := i2.mono hb; replace iY := iY.mono hb; replace iZ := iZ.mono hb; replace iR := iR.mono hb; replace hQ := q_on hQ hb; replace hx := HC.out _ hQ; dsimp only)
                  | (go_at_call 48; (with_reducible refine (DSomeBut_is aw ac kw kc h K true hks.out hv _ _ _ hC).mono ?_); rintro e w12 ⟨rfl, hb⟩; replace i1 := i1.mono hb; replace i2 := i2.mono hb; replace iY := iY.mono hb; replace iZ := iZ.mono hb; replace iR := iR.mono hb; replace hQ := q_on hQ hb; replace hx := HC.out _ hQ; dsimp only)
                  | (go_at_call 49; (with_reducible refine (BT.out _ K _ _ hQ o2 i2).mono ?_); rintro e w11 ⟨b5, d5, rfl, hC, hb⟩; replace i1 := i1.mono hb; replace i2 := i2.mono hb; replace iY := iY.mono hb; replace iZ := iZ.mono hb; replace iR := iR.mono hb; replace hQ := q_on hQ hb; replace hx := HC.out _ hQ; dsimp only)
                  | (go_at_call 47; (with_reducible refine (DRising_yes _ K _ _ _ hKr.out lK i2).mono ?_); rintro e w10 ⟨rfl, hb⟩; replace i1 := i1.mono hb; replace i2 := i2.mono hb; replace iY := iY.mono hb; replace iZ := iZ.mono hb; replace iR := iR.mono hb; replace hQ := q_on hQ hb; replace hx := HC.out _ hQ; dsimp only))
                go_ret
                exact ⟨rfl, hwX.trans (hQ.mono hwX.size)⟩
            · obtain ⟨rfl, rfl⟩ := Prod.mk.inj h1
              have hls := Lib.hid h2
              have hLr := Lib.hid (rising_incr hLi)
              have hz4 := h4 Z hZi
              have q1 : ((K.length : Int) == 0) = true := eqi_t (by have h3' : K = [] := h3; rw [h3']; rfl)
              replace h3 := Lib.hid h3
              generalize hsz : someD (onlyD h Z) = b3 at hz4
              replace hsz := Lib.hid hsz
              clear h1 h2 h4
              cases b2 with
              | true =>
                have hfy := Lib.hid (show fewer Y K = false by simpa using hYK)
                clear hYK
                cases b3 with
                | true =>
                  have hfz := Lib.hid (show fewer Z L = false by simpa using hz4)
                  clear hz4
                  go_wp2_with (first
                    | (go_at_call 23; (with_reducible refine (DAwake_any _).mono ?_); rintro e w24 ⟨rfl, hb⟩; replace hQ := q_on hQ hb; replace hx := HC.out _ hQ; dsimp only)
                    | (go_at_call 50; (with_reducible refine (DFewer_is _ _ Z L _ _ _ false hfz.out lZ lL iZ i1).mono ?_); rintro e w23 ⟨rfl, hb⟩; replace i1 := i1.mono hb; replace i2 := i2.mono hb; replace iY := iY.mono hb; replace iZ := iZ.mono hb; replace iR := iR.mono hb; replace hQ := q_on hQ hb; replace hx := HC.out _ hQ; dsimp only)
                    | (go_at_call 48; (with_reducible refine (DSomeOnly_is aw ac kw kc h Z _ hsz.out hv hZi _ _ _ hC9).mono ?_); rintro e w22 ⟨rfl, hb⟩; replace i1 := i1.mono hb; replace i2 := i2.mono hb; replace iY := iY.mono hb; replace iZ := iZ.mono hb; replace iR := iR.mono hb; replace hQ := q_on hQ hb; replace hx := HC.out _ hQ; dsimp only)
                    | (go_at_call 51; (with_reducible refine (OT.out _ Z _ _ hQ hZi oZ iZ).mono ?_); rintro e w21 ⟨b9, d9, rfl, hC9, hb⟩; replace i1 := i1.mono hb; replace i2 := i2.mono hb; replace iY := iY.mono hb; replace iZ := iZ.mono hb; replace iR := iR.mono hb; replace hQ := q_on hQ hb; replace hx := HC.out _ hQ; dsimp only)
                    | (go_at_call 48; (with_reducible refine (DSomeOnly_is aw ac kw kc h L true hls.out hv hLi _ _ _ hC8).mono ?_); rintro e w20 ⟨rfl, hb⟩; replace i1 := i1.mono hb; replace i2 := i2.mono hb; replace iY := iY.mono hb; replace iZ := iZ.mono hb; replace iR := iR.mono hb; replace hQ := q_on hQ hb; replace hx := HC.out _ hQ; dsimp only)
                    | (go_at_call 51; (with_reducible refine (OT.out _ L _ _ hQ hLi o1 i1).mono ?_); rintro e w19 ⟨b8, d8, rfl, hC8, hb⟩; replace i1 := i1.mono hb; replace i2 := i2.mono hb; replace iY := iY.mono hb; replace iZ := iZ.mono hb; replace iR := iR.mono hb; replace hQ := q_on hQ hb; replace hx := HC.out _ hQ; dsimp only)
                    | (go_at_call 47; (with_reducible refine (DRising_yes _ L _ _ _ hLr.out lL i1).mono ?_); rintro e w18 ⟨rfl, hb⟩; replace i1 := i1.mono hb; replace i2 := i2.mono hb; replace iY := iY.mono hb; replace iZ := iZ.mono hb; replace iR := iR.mono hb; replace hQ := q_on hQ hb; replace hx := HC.out _ hQ; dsimp only)
                    | (go_at_call 50; (with_reducible refine (DFewer_is _ _ Y K _ _ _ false hfy.out lY lK iY i2).mono ?_); rintro e w15 ⟨rfl, hb⟩; replace i1 := i1.mono hb; replace i2 := i2.mono hb; replace iY := iY.mono hb; replace iZ := iZ.mono hb; replace iR := iR.mono hb; replace hQ := q_on hQ hb; replace hx := HC.out _ hQ; dsimp only)
                    | (go_at_call 48; (with_reducible refine (DSomeBut_is aw ac kw kc h Y _ hsy.out hv _ _ _ hC6).mono ?_); rintro e w14 ⟨rfl, hb⟩; replace i1 := i1.mono hb; replace i2 := i2.mono hb; replace iY := iY.mono hb; replace iZ := iZ.mono hb; replace iR := iR.mono hb; replace hQ := q_on hQ hb; replace hx := HC.out _ hQ; dsimp only)
                    | (go_at_call 49; (with_reducible refine (BT.out _ Y _ _ hQ oY iY).mono ?_); rintro e w13 ⟨b6, d6, rfl, hC6, hb⟩; replace i1 := i1.mono hb; replace i2 := i2.mono hb; replace iY := iY.mono hb; replace iZ := iZ.mono hb; replace iR := iR.mono hb; replace hQ := q_on hQ hb; replace hx := HC.out _ hQ; dsimp only)
                    | (go_at_call 48; (with_reducible refine (DSomeBut_is aw ac kw kc h K true hks.out hv _ _ _ hC).mono ?_); rintro e w12 ⟨rfl, hb⟩; replace i1 := i1.mono hb; replace i2 := i2.mono hb; replace iY := iY.mono hb; replace iZ := iZ.mono hb; replace iR := iR.mono hb; replace hQ := q_on hQ hb; replace hx := HC.out _ hQ; dsimp only)
                    | (go_at_call 49; (with_reducible refine (BT.out _ K _ _ hQ o2 i2).mono ?_); rintro e w11 ⟨b5, d5, rfl, hC, hb⟩; replace i1 := i1.mono hb; replace i2 := i2.mono hb; replace iY := iY.mono hb; replace iZ := iZ.mono hb; replace iR := iR.mono hb; replace hQ := q_on hQ hb; replace hx := HC.out _ hQ; dsimp only)
                    | (go_at_call 47; (with_reducible refine (DRising_yes _ K _ _ _ hKr.out lK i2).mono ?_); rintro e w10 ⟨rfl, hb⟩; replace i1 := i1.mono hb; replace i2 := i2.mono hb; replace iY := iY.mono hb; replace iZ := iZ.mono hb; replace iR := iR.mono hb; replace hQ := q_on hQ hb; replace hx := HC.out _ hQ; dsimp only))
                  go_ret
                  exact ⟨rfl, hwX.trans (hQ.mono hwX.size)⟩
                | false =>
                  clear hz4
                  go_wp2_with (first
                    | (go_at_call 23; (with_reducible refine (DAwake_any _).mono ?_); rintro e w24 ⟨rfl, hb⟩; replace hQ := q_on hQ hb; replace hx := HC.out _ hQ; dsimp only)
                    | (go_at_call 50; (with_reducible refine (DFewer_is _ _ Z L _ _ _ false hfz.out lZ lL iZ i1).mono ?_); rintro e w23 ⟨rfl, hb⟩; replace i1 := i1.mono hb; replace i2 := i2.mono hb; replace iY := iY.mono hb; replace iZ := iZ.mono hb; replace iR := iR.mono hb; replace hQ := q_on hQ hb; replace hx := HC.out _ hQ; dsimp only)
                    | (go_at_call 48; (with_reducible refine (DSomeOnly_is aw ac kw kc h Z _ hsz.out hv hZi _ _ _ hC9).mono ?_); rintro e w22 ⟨rfl, hb⟩; replace i1 := i1.mono hb; replace i2 := i2.mono hb; replace iY := iY.mono hb; replace iZ := iZ.mono hb; replace iR := iR.mono hb; replace hQ := q_on hQ hb; replace hx := HC.out _ hQ; dsimp only)
                    | (go_at_call 51; (with_reducible refine (OT.out _ Z _ _ hQ hZi oZ iZ).mono ?_); rintro e w21 ⟨b9, d9, rfl, hC9, hb⟩; replace i1 := i1.mono hb; replace i2 := i2.mono hb; replace iY := iY.mono hb; replace iZ := iZ.mono hb; replace iR := iR.mono hb; replace hQ := q_on hQ hb; replace hx := HC.out _ hQ; dsimp only)
                    | (go_at_call 48; (with_reducible refine (DSomeOnly_is aw ac kw kc h L true hls.out hv hLi _ _ _ hC8).mono ?_); rintro e w20 ⟨rfl, hb⟩; replace i1 := i1.mono hb; replace i2 := i2.mono hb; replace iY := iY.mono hb; replace iZ := iZ.mono hb; replace iR := iR.mono hb; replace hQ := q_on hQ hb; replace hx := HC.out _ hQ; dsimp only)
                    | (go_at_call 51; (with_reducible refine (OT.out _ L _ _ hQ hLi o1 i1).mono ?_); rintro e w19 ⟨b8, d8, rfl, hC8, hb⟩; replace i1 := i1.mono hb; replace i2 := i2.mono hb; replace iY := iY.mono hb; replace iZ := iZ.mono hb; replace iR := iR.mono hb; replace hQ := q_on hQ hb; replace hx := HC.out _ hQ; dsimp only)
                    | (go_at_call 47; (with_reducible refine (DRising_yes _ L _ _ _ hLr.out lL i1).mono ?_); rintro e w18 ⟨rfl, hb⟩; replace i1 := i1.mono hb; replace i2 := i2.mono hb; replace iY := iY.mono hb; replace iZ := iZ.mono hb; replace iR := iR.mono hb; replace hQ := q_on hQ hb; replace hx := HC.out _ hQ; dsimp only)
                    | (go_at_call 50; (with_reducible refine (DFewer_is _ _ Y K _ _ _ false hfy.out lY lK iY i2).mono ?_); rintro e w15 ⟨rfl, hb⟩; replace i1 := i1.mono hb; replace i2 := i2.mono hb; replace iY := iY.mono hb; replace iZ := iZ.mono hb; replace iR := iR.mono hb; replace hQ := q_on hQ hb; replace hx := HC.out _ hQ; dsimp only)
                    | (go_at_call 48; (with_reducible refine (DSomeBut_is aw ac kw kc h Y _ hsy.out hv _ _ _ hC6).mono ?_); rintro e w14 ⟨rfl, hb⟩; replace i1 := i1.mono hb; replace i2 := i2.mono hb; replace iY := iY.mono hb; replace iZ := iZ.mono hb; replace iR := iR.mono hb; replace hQ := q_on hQ hb; replace hx := HC.out _ hQ; dsimp only)
                    | (go_at_call 49; (with_reducible refine (BT.out _ Y _ _ hQ oY iY).mono ?_); rintro e w13 ⟨b6, d6, rfl, hC6, hb⟩; replace i1 := i1.mono hb; replace i2 := i2.mono hb; replace iY := iY.mono hb; replace iZ := iZ.mono hb; replace iR := iR.mono hb; replace hQ := q_on hQ hb; replace hx := HC.out _ hQ; dsimp only)
                    | (go_at_call 48; (with_reducible refine (DSomeBut_is aw ac kw kc h K true hks.out hv _ _ _ hC).mono ?_); rintro e w12 ⟨rfl, hb⟩; replace i1 := i1.mono hb; replace i2 := i2.mono hb; replace iY := iY.mono hb; replace iZ := iZ.mono hb; replace iR := iR.mono hb; replace hQ := q_on hQ hb; replace hx := HC.out _ hQ; dsimp only)
                    | (go_at_call 49; (with_reducible refine (BT.out _ K _ _ hQ o2 i2).mono ?_); rintro e w11 ⟨b5, d5, rfl, hC, hb⟩; replace i1 := i1.mono hb; replace i2 := i2.mono hb; replace iY := iY.mono hb; replace iZ := iZ.mono hb; replace iR := iR.mono hb; replace hQ := q_on hQ hb; replace hx := HC.out _ hQ; dsimp only)
                    | (go_at_call 47; (with_reducible refine (DRising_yes _ K _ _ _ hKr.out lK i2).mono ?_); rintro e w10 ⟨rfl, hb⟩; replace i1 := i1.mono hb; replace i2 := i2.mono hb; replace iY := iY.mono hb; replace iZ := iZ.mono hb; replace iR := iR.mono hb; replace hQ := q_on hQ hb; replace hx := HC.out _ hQ; dsimp only))
                  go_ret
                  exact ⟨rfl, hwX.trans (hQ.mono hwX.size)⟩
              | false =>
                clear hYK
                cases b3 with
                | true =>
                  have hfz := Lib.hid (show fewer Z L = false by simpa using hz4)
                  clear hz4
                  go_wp2_with (first
                    | (go_at_call 23; (with_reducible refine (DAwake_any _).mono ?_); rintro e w24 ⟨rfl, hb⟩; replace hQ := q_on hQ hb; replace hx := HC.out _ hQ; dsimp only)
                    | (go_at_call 50; (with_reducible refine (DFewer_is _ _ Z L _ _ _ false hfz.out lZ lL iZ i1).mono ?_); rintro e w23 ⟨rfl, hb⟩; replace i1 := i1.mono hb; replace i2 := i2.mono hb; replace iY := iY.mono hb; replace iZ := iZ.mono hb; replace iR := iR.mono hb; replace hQ := q_on hQ hb; replace hx := HC.out _ hQ; dsimp only)
                    | (go_at_call 48; (with_reducible refine (DSomeOnly_is aw ac kw kc h Z _ hsz.out hv hZi _ _ _ hC9).mono ?_); rintro e w22 ⟨rfl, hb⟩; replace i1 := i1.mono hb; replace i2 := i2.mono hb; replace iY := iY.mono hb; replace iZ := iZ.mono hb; replace iR := iR.mono hb; replace hQ := q_on hQ hb; replace hx := HC.out _ hQ; dsimp only)
                    | (go_at_call 51; (with_reducible refine (OT.out _ Z _ _ hQ hZi oZ iZ).mono ?_); rintro e w21 ⟨b9, d9, rfl, hC9, hb⟩; replace i1 := i1.mono hb; replace i2 := i2.mono hb; replace iY := iY.mono hb; replace iZ := iZ.mono hb; replace iR := iR.mono hb; replace hQ := q_on hQ hb; replace hx := HC.out _ hQ; dsimp only)
                    | (go_at_call 48; (with_reducible refine (DSomeOnly_is aw ac kw kc h L true hls.out hv hLi _ _ _ hC8).mono ?_); rintro e w20 ⟨rfl, hb⟩; replace i1 := i1.mono hb; replace i2 := i2.mono hb; replace iY := iY.mono hb; replace iZ := iZ.mono hb; replace iR := iR.mono hb; replace hQ := q_on hQ hb; replace hx := HC.out _ hQ; dsimp only)
                    | (go_at_call 51; (with_reducible refine (OT.out _ L _ _ hQ hLi o1 i1).mono ?_); rintro e w19 ⟨b8, d8, rfl, hC8, hb⟩; replace i1 := i1.mono hb; replace i2 := i2.mono hb; replace iY := iY.mono hb; replace iZ := iZ.mono hb; replace iR := iR.mono hb; replace hQ := q_on hQ hb; replace hx := HC.out _ hQ; dsimp only)
                    | (go_at_call 47; (with_reducible refine (DRising_yes _ L _ _ _ hLr.out lL i1).mono ?_); rintro e w18 ⟨rfl, hb⟩; replace i1 := i1.mono hb; replace i2 := i2.mono hb; replace iY := iY.mono hb; replace iZ := iZ.mono hb; replace iR := iR.mono hb; replace hQ := q_on hQ hb; replace hx := HC.out _ hQ; dsimp only)
                    | (go_at_call 50; (with_reducible refine (DFewer_is _ _ Y K _ _ _ false hfy.out lY lK iY i2).mono ?_); rintro e w15 ⟨rfl, hb⟩; replace i1 := i1.mono hb; replace i2 := i2.mono hb; replace iY := iY.mono hb; replace iZ := iZ.mono hb; replace iR := iR.mono hb; replace hQ := q_on hQ hb; replace hx := HC.out _ hQ; dsimp only)
                    | (go_at_call 48; (with_reducible refine (DSomeBut_is aw ac kw kc h Y _ hsy.out hv _ _ _ hC6).mono ?_); rintro e w14 ⟨rfl, hb⟩; replace i1 := i1.mono hb; replace i2 := i2.mono hb; replace iY := iY.mono hb; replace iZ := iZ.mono hb; replace iR := iR.mono hb; replace hQ := q_on hQ hb; replace hx := HC.out _ hQ; dsimp only)
                    | (go_at_call 49; (with_reducible refine (BT.out _ Y _ _ hQ oY iY).mono ?_); rintro e w13 ⟨b6, d6, rfl, hC6, hb⟩; replace i1 := i1.mono hb; replace i2 := i2.mono hb; replace iY := iY.mono hb; replace iZ := iZ.mono hb; replace iR := iR.mono hb; replace hQ := q_on hQ hb; replace hx := HC.out _ hQ; dsimp only)
                    | (go_at_call 48; (with_reducible refine (DSomeBut_is aw ac kw kc h K true hks.out hv _ _ _ hC).mono ?_); rintro e w12 ⟨rfl, hb⟩; replace i1 := i1.mono hb; replace i2 := i2.mono hb; replace iY := iY.mono hb; replace iZ := iZ.mono hb; replace iR := iR.mono hb; replace hQ := q_on hQ hb; replace hx := HC.out _ hQ; dsimp only)
                    | (go_at_call 49; (with_reducible refine (BT.out _ K _ _ hQ o2 i2).mono ?_); rintro e w11 ⟨b5, d5, rfl, hC, hb⟩; replace i1 := i1.mono hb; replace i2 := i2.mono hb; replace iY := iY.mono hb; replace iZ := iZ.mono hb; replace iR := iR.mono hb; replace hQ := q_on hQ hb; replace hx := HC.out _ hQ; dsimp only)
                    | (go_at_call 47; (with_reducible refine (DRising_yes _ K _ _ _ hKr.out lK i2).mono ?_); rintro e w10 ⟨rfl, hb⟩; replace i1 := i1.mono hb; replace i2 := i2.mono hb; replace iY := iY.mono hb; replace iZ := iZ.mono hb; replace iR := iR.mono hb; replace hQ := q_on hQ hb; replace hx := HC.out _ hQ; dsimp only))
                  go_ret
                  exact ⟨rfl, hwX.trans (hQ.mono hwX.size)⟩
                | false =>
                  clear hz4
                  go_wp2_with (first
                    | (go_at_call 23; (with_reducible refine (DAwake_any _).mono ?_); rintro e w24 ⟨rfl, hb⟩; replace hQ := q_on hQ hb; replace hx := HC.out _ hQ; dsimp only)
                    | (go_at_call 50; (with_reducible refine (DFewer_is _ _ Z L _ _ _ false hfz.out lZ lL iZ i1).mono ?_); rintro e w23 ⟨rfl, hb⟩; replace i1 := i1.mono hb; replace i2 := i2.mono hb; replace iY := iY.mono hb; replace iZ := iZ.mono hb; replace iR := iR.mono hb; replace hQ := q_on hQ hb; replace hx := HC.out _ hQ; dsimp only)
                    | (go_at_call 48; (with_reducible refine (DSomeOnly_is aw ac kw kc h Z _ hsz.out hv hZi _ _ _ hC9).mono ?_); rintro e w22 ⟨rfl, hb⟩; replace i1 := i1.mono hb; replace i2 := i2.mono hb; replace iY := iY.mono hb; replace iZ := iZ.mono hb; replace iR := iR.mono hb; replace hQ := q_on hQ hb; replace hx := HC.out _ hQ; dsimp only)
                    | (go_at_call 51; (with_reducible refine (OT.out _ Z _ _ hQ hZi oZ iZ).mono ?_); rintro e w21 ⟨b9, d9, rfl, hC9, hb⟩; replace i1 := i1.mono hb; replace i2 := i2.mono hb; replace iY := iY.mono hb; replace iZ := iZ.mono hb; replace iR := iR.mono hb; replace hQ := q_on hQ hb; replace hx := HC.out _ hQ; dsimp only)
                    | (go_at_call 48; (with_reducible refine (DSomeOnly_is aw ac kw kc h L true hls.out hv hLi _ _ _ hC8).mono ?_); rintro e w20 ⟨rfl, hb⟩; replace i1 := i1.mono hb; replace i2 := i2.mono hb; replace iY := iY.mono hb; replace iZ := iZ.mono hb; replace iR := iR.mono hb; replace hQ := q_on hQ hb; replace hx := HC.out _ hQ; dsimp only)
                    | (go_at_call 51; (with_reducible refine (OT.out _ L _ _ hQ hLi o1 i1).mono ?_); rintro e w19 ⟨b8, d8, rfl, hC8, hb⟩; replace i1 := i1.mono hb; replace i2 := i2.mono hb; replace iY := iY.mono hb; replace iZ := iZ.mono hb; replace iR := iR.mono hb; replace hQ := q_on hQ hb; replace hx := HC.out _ hQ; dsimp only)
                    | (go_at_call 47; (with_reducible refine (DRising_yes _ L _ _ _ hLr.out lL i1).mono ?_); rintro e w18 ⟨rfl, hb⟩; replace i1 := i1.mono hb; replace i2 := i2.mono hb; replace iY := iY.mono hb; replace iZ := iZ.mono hb; replace iR := iR.mono hb; replace hQ := q_on hQ hb; replace hx := HC.out _ hQ; dsimp only)
                    | (go_at_call 50; (with_reducible refine (DFewer_is _ _ Y K _ _ _ false hfy.out lY lK iY i2).mono ?_); rintro e w15 ⟨rfl, hb⟩; replace i1 := i1.mono hb; replace i2 := i2.mono hb; replace iY := iY.mono hb; replace iZ := iZ.mono hb; replace iR := iR.mono hb; replace hQ := q_on hQ hb; replace hx := HC.out _ hQ; dsimp only)
                    | (go_at_call 48; (with_reducible refine (DSomeBut_is aw ac kw kc h Y _ hsy.out hv _ _ _ hC6).mono ?_); rintro e w14 ⟨rfl, hb⟩; replace i1 := i1.mono hb; replace i2 := i2.mono hb; replace iY := iY.mono hb; replace iZ := iZ.mono hb; replace iR := iR.mono hb; replace hQ := q_on hQ hb; replace hx := HC.out _ hQ; dsimp only)
                    | (go_at_call 49; (with_reducible refine (BT.out _ Y _ _ hQ oY iY).mono ?_); rintro e w13 ⟨b6, d6, rfl, hC6, hb⟩; replace i1 := i1.mono hb; replace i2 := i2.mono hb; replace iY := iY.mono hb; replace iZ := iZ.mono hb; replace iR := iR.mono hb; replace hQ := q_on hQ hb; replace hx := HC.out _ hQ; dsimp only)
                    | (go_at_call 48; (with_reducible refine (DSomeBut_is aw ac kw kc h K true hks.out hv _ _ _ hC).mono ?_); rintro e w12 ⟨rfl, hb⟩; replace i1 := i1.mono hb; replace i2 := i2.mono hb; replace iY := iY.mono hb; replace iZ := iZ.mono hb; replace iR := iR.mono hb; replace hQ := q_on hQ hb; replace hx := HC.out _ hQ; dsimp only)
                    | (go_at_call 49; (with_reducible refine (BT.out _ K _ _ hQ o2 i2).mono ?_); rintro e w11 ⟨b5, d5, rfl, hC, hb⟩; replace i1 := i1.mono hb; replace i2 := i2.mono hb; replace iY := iY.mono hb; replace iZ := iZ.mono hb; replace iR := iR.mono hb; replace hQ := q_on hQ hb; replace hx := HC.out _ hQ; dsimp only)
                    | (go_at_call 47; (with_reducible refine (DRising_yes _ K _ _ _ hKr.out lK i2).mono ?_); rintro e w10 ⟨rfl, hb⟩; replace i1 := i1.mono hb; replace i2 := i2.mono hb; replace iY := iY.mono hb; replace iZ := iZ.mono hb; replace iR := iR.mono hb; replace hQ := q_on hQ hb; replace hx := HC.out _ hQ; dsimp only))
                  go_ret
                  exact ⟨rfl, hwX.trans (hQ.mono hwX.size)⟩
  · have hvd := Lib.hid (decide_eq_false he)
    have hbe := enough_bad he
    have hba := away_bad he
    have hne := nei_t he
    obtain ⟨er, her⟩ : ∃ er, er = deErr h := ⟨_, rfl⟩
    rw [← her] at hbe hba hne
    have q1 := eqi_t (show er = er from rfl)
    replace hbe := Lib.hid hbe
    replace hba := Lib.hid hba
    clear he her
    go_enter Try.func11, Try.ntmps11
    go_upto_region 1 with (fail)
    rw [← hX]
    clear hX
    go_wp2_with (first
      | (go_at_call 23; (with_reducible refine (DAwake_any _).mono ?_); rintro e w5 ⟨rfl, hb⟩; replace hQ := q_on hQ hb; replace hx := HC.out _ hQ; dsimp only)
      | (go_at_call 37; (with_reducible refine (DValid_is _ _ _ _ h false hvd.out _ (M.out _ hQ)).mono ?_); rintro e w4 ⟨rfl, hb⟩; replace hQ := q_on hQ hb; replace hx := HC.out _ hQ; dsimp only)
      | (go_at_call 32; (with_reducible refine (DA_Away _ _ _ _ h [] er hba.out _ (M.out _ hQ)).mono ?_); rintro e w3 ⟨b2, c2, rfl, o2, -, hb⟩; replace hQ := q_on hQ hb; replace hx := HC.out _ hQ; dsimp only [List.length_nil])
      | (go_at_call 29; (with_reducible refine (DA_Enough _ _ _ _ h [] er hbe.out _ (M.out _ hQ)).mono ?_); rintro e w2 ⟨b1, c1, rfl, o1, -, hb⟩; replace hQ := q_on hQ hb; replace hx := HC.out _ hQ; dsimp only [List.length_nil]))
    go_ret
    exact ⟨rfl, hwX.trans (hQ.mono hwX.size)⟩
end Go.Proofs.Ytchnpekgmkhacaa
