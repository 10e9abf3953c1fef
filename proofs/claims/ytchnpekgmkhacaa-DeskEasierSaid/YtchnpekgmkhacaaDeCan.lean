/- What is proved here: the contracts of can, of begin, of next and of look. Conditions: the hall is looked at and valid. -/
import Derived.Test.YtchnpekgmkhacaaDeHall
import Derived.Test.YtchnpekgmkhacaaDeFew
import Derived.BigQuiet
set_option linter.unusedVariables false
set_option linter.unusedSimpArgs false
namespace Go.Proofs.Ytchnpekgmkhacaa
open Go Go.RowKit Go.Shelf

theorem can_bits {h : DeH} {w c : Nat} (hw : w < h.writers.length) (hc : c < h.customers.length) : canD h w c = h.writers[w].kinds.toNat.testBit h.customers[c].kind.toNat := by
  unfold canD bitB writerAt customerAt
  rw [List.getElem?_eq_getElem hw, List.getElem?_eq_getElem hc]
  rfl
set_option maxRecDepth 100000 in
set_option maxHeartbeats 1000000 in
theorem DCan_any (aw ac : Option Addr) (kw kc : Nat) (h : DeH) (bm bo wm cm u c : Nat) (w : World) (hm : HallW w bm bo aw ac kw kc h wm cm) (hv : DeValid h) (hwm : wm < 8) (hu : u < h.writers.length) (hc : c < h.customers.length) :
    Calls Try.prog 100 #[.pointer (some ⟨bm, 0, none⟩), .int .i64 (u : Int), .int .i64 (c : Int)] w fun e w' => e = .returned (.bool (wm.testBit u && canD h u c)) ∧ ∃ q, w' = w.drewN q := by
  have l1 := hm.hall.okw.len
  have l1c := hm.hall.okw.1
  have l2 := hm.hall.okc.len
  have l2c := hm.hall.okc.1
  have hnw := hv.nw
  have hnc := hv.nc
  obtain ⟨y0, y1, y2, y3, y4, y5, y6⟩ := hm.blk.cells
  obtain ⟨b1, o1, rfl, z1, -, h1, -, -⟩ := hm.hall.writers u hu
  obtain ⟨b2, o2, rfl, z2, -, h2, -, -, -⟩ := hm.hall.custs c hc
  have hw := hv.w u hu
  have hc' := hv.c c hc
  rw [can_bits hu hc]
  generalize h.writers[u].kinds = K at h1 hw ⊢
  generalize h.customers[c].kind = k at h2 hc' ⊢
  obtain ⟨K, rfl⟩ : ∃ n : Nat, K = n := ⟨K.toNat, by omega⟩
  obtain ⟨k, rfl⟩ : ∃ n : Nat, k = n := ⟨k.toNat, by omega⟩
  simp only [Int.toNat_natCast]
  have g1 := bit_and wm (by omega) u (by omega)
  have g2 := bit_and K (by omega) k (by omega)
  have hk64 : (k : Int) < 64 := by omega
  have hu64 : (u : Int) < 64 := by omega
  have hul : (u : Int) < h.writers.length := by omega
  have hcl : (c : Int) < h.customers.length := by omega
  clear hw hc' hm
  cases hb : wm.testBit u
  · rw [hb] at g1
    clear hb
    go_enter Try.func100, Try.ntmps100
    go_upto_region 1 with (fail)
    go_quiet (fail)
    go_wp2
    go_ret
    exact ⟨rfl, _, rfl⟩
  · rw [hb] at g1
    clear hb
    go_enter Try.func100, Try.ntmps100
    go_upto_region 1 with (fail)
    go_quiet (fail)
    go_wp2
    go_ret
    exact ⟨ret_bool (by simp), _, rfl⟩

/-- The begin of stands, of the first writers. -/
def beginL (h : DeH) (k : Nat) : List Int := [0, 0, if 0 < k then (writerAt h 0).hi else 0, if 1 < k then (writerAt h 1).hi else 0, if 2 < k then (writerAt h 2).hi else 0]
theorem beginL_set (h : DeH) (k : Nat) (hk : k < 3) : (beginL h k).set (2 + k) (writerAt h k).hi = beginL h (k + 1) := by
  obtain rfl | rfl | rfl : k = 0 ∨ k = 1 ∨ k = 2 := by omega
  all_goals rfl
theorem beginL_all {h : DeH} (hv : DeValid h) : beginL h h.writers.length = stL (beginD h) := by
  have hn := hv.nw
  unfold beginL stL
  rw [begin_minute hn, begin_minute hn, begin_minute hn]
  rfl
set_option maxRecDepth 100000 in
set_option maxHeartbeats 1000000 in
theorem DBegin_any (aw ac : Option Addr) (kw kc : Nat) (h : DeH) (bm bo wm cm : Nat) (w : World) (hm : HallW w bm bo aw ac kw kc h wm cm) (hv : DeValid h) :
    Calls Try.prog 74 #[.pointer (some ⟨bm, 0, none⟩)] w fun e w' => e = .returned (standV (beginD h)) ∧ Below w.heap.size w w' := by
  have l1 := hm.hall.okw.len
  have l1c := hm.hall.okw.1
  have hnw := hv.nw
  have HBS := Lib.hid (fun k hk => beginL_set h k hk)
  have HBA := Lib.hid (beginL_all hv)
  generalize hst : beginD h = st at HBA ⊢
  clear hst
  obtain ⟨Y, hY⟩ : ∃ Y : World, Y = (w.alloc (.cells #[.int .i64 0, .int .i64 0, .int .i64 0, .int .i64 0, .int .i64 0] 105)).alloc (.cells #[.int .i64 0, .int .i64 0, .int .i64 0, .int .i64 0, .int .i64 0] 105) := ⟨_, rfl⟩
  have hYs : Y.heap.size = w.heap.size + 1 + 1 := by rw [hY]; simp
  have hYb : Below w.heap.size w Y := by rw [hY]; exact ((Below.refl _ w).alloc (Nat.le_refl _) _).alloc (by simp) _
  have hR : BlkI Y w.heap.size 105 [0, 0, 0, 0, 0] := by rw [hY]; exact (heap_alloc_old _ _ (by simp)).trans (alloc_at _ _ rfl)
  have hS : BlkI Y (w.heap.size + 1) 105 (beginL h 0) := by rw [hY]; exact alloc_at _ _ (by simp)
  go_enter Try.func74, Try.ntmps74
  go_upto_region 2 with (fail)
  rw [← hY]
  clear hY
  obtain ⟨y0, y1, y2, y3, y4, y5, y6⟩ := (hm.below hYb).blk.cells
  replace hYs := Lib.hid hYs
  go_wp2
  go_loopw [12] (fun i wr => ∃ k : Nat, k ≤ h.writers.length ∧ i = .int .i64 k ∧ BlkI wr (w.heap.size + 1) 105 (beginL h k) ∧ BlkI wr w.heap.size 105 [0, 0, 0, 0, 0] ∧ Below w.heap.size w wr) (fun i _ => h.writers.length - (intOf i).toNat)
  case atStart => exact ⟨0, Nat.zero_le _, rfl, hS, hR, hYb⟩
  case round =>
    clear hS hR hYb y0 y1 y2 y3 y4 y5 y6
    obtain ⟨k, hk, rfl, hS, hR, hb⟩ := hrel
    have hz := hb.size
    have hrl := hR.lt
    by_cases hlt : k < h.writers.length
    · have HB := Lib.hid (HBS.out k (by omega))
      obtain ⟨b, off, rfl, hbb, h1, h2, h3, h4⟩ := (hm.hall.writers.mono hb) k hlt
      have e : (writerAt h k).hi = h.writers[k].hi := by unfold writerAt; rw [List.getElem?_eq_getElem hlt]; rfl
      rw [e] at HB
      clear e
      generalize h.writers[k] = x at HB h1 h2 h3 h4
      obtain ⟨name, kinds, lo, hi⟩ := x
      simp only at HB h1 h2 h3 h4
      have hk3 : (k : Int) < 3 := by omega
      have hkn : (k : Int) < h.writers.length := by omega
      have sf := hS.free (2 + k)
      have sc := hS.cell (2 + k) (by simp [beginL]; omega)
      have sz := hS.lt
      have HSET := Lib.hid (hS.set (2 + k) hi)
      go_wp2
      go_roundw
      case rel => exact ⟨k + 1, by omega, by go_num, by rw [← HB.out]; exact HSET.out.same (heap_alloc_old _ _ (by simpa using sz)), (hR.same (Below.heap_setCell _ _ _ _ (by simp))).same (heap_alloc_old _ _ (by simpa using hrl)), (hb.setCell (by simp) _).alloc (by simpa using hz) _⟩
      case measure => simp [intOf]; omega
    · obtain rfl : k = h.writers.length := by omega
      rw [HBA.out] at hS
      obtain ⟨e0, e1, e2, e3, e4, ez⟩ := StB.cells hS
      have r0 := hR.cell 0 (by simp)
      have r1 := hR.cell 1 (by simp)
      have r2 := hR.cell 2 (by simp)
      have r3 := hR.cell 3 (by simp)
      have r4 := hR.cell 4 (by simp)
      simp only [List.getElem_cons_zero, List.getElem_cons_succ] at r0 r1 r2 r3 r4
      have f0 := hR.free 0
      have f1 := hR.free 1
      have f2 := hR.free 2
      have f3 := hR.free 3
      have f4 := hR.free 4
      go_wp2
      (try simp only [Exit.inBlock, Exit.then])
      refine bodyPost_ret (v := standV st) ?_ rfl ⟨rfl, (by (repeat' (first | assumption | exact Below.refl _ _ | refine below_drew' ?_ | refine Below.setCell ?_ (by first | omega | (simp <;> omega)) _ | refine Below.alloc ?_ (by first | omega | (simp <;> omega)) _)))⟩
      rw [results_one rfl]
      go_simp
theorem DNext_any (bm : Nat) (x : DeSt) (w : World) : Calls Try.prog 77 #[.pointer (some ⟨bm, 0, none⟩), standV x] w fun e w' => e = .returned (.func (.func 99) #[] #[.pointer (some ⟨w.heap.size + 1, 0, none⟩), .pointer (some ⟨w.heap.size, 0, none⟩)]) ∧ w' = (w.alloc (.cells #[.pointer (some ⟨bm, 0, none⟩)] 94)).alloc (.cells ((stL x).map (Value.int .i64)).toArray 105) := by
  go_enter Try.func77, Try.ntmps77
  go_wp2
  go_ret
  exact ⟨by simp, by simp⟩
theorem less_one5 : ∀ n : Nat, n ≤ 5 → wrap64 (wrap64 (2 ^ n) - 1) = ((2 ^ n - 1 : Nat) : Int) := by decide +kernel
set_option maxRecDepth 100000 in
set_option maxHeartbeats 1000000 in
theorem DLookN_any (aw ac : Option Addr) (kw kc : Nat) (h : DeH) (w : World) (hm : HallC w aw ac kw kc h) (hv : DeValid h) :
    Calls Try.prog 73 #[(.agg #[.int .i64 h.wax, .slice aw h.writers.length kw, .slice ac h.customers.length kc])] w fun e w' => ∃ bm bo : Nat, e = .returned (.pointer (some ⟨bm, 0, none⟩)) ∧ HBlk w' bm bo aw ac kw kc h (fullW h) (fullC h) ∧ MapV w' Try.prog 105 bo [] ∧ Below w.heap.size w w' ∧ w.heap.size < bo ∧ w.heap.size < bm := by
  have l1 := hm.okw.len
  have l2 := hm.okc.len
  have hnw := hv.nw
  have hnc := hv.nc
  have p1 := less_one5 h.writers.length (by omega)
  have p2 := less_one5 h.customers.length (by omega)
  have hmm := @run_makeMap Try.prog
  have hQ := Below.refl (w.heap.size + 1) (w.alloc (.cells #[.int .i64 h.wax, .slice aw h.writers.length kw, .slice ac h.customers.length kc] 25))
  have x0 := box_cell hQ 0 _ rfl
  have x1 := box_cell hQ 1 _ rfl
  have x2 := box_cell hQ 2 _ rfl
  have xz := box_size hQ
  have hM0 : MapV ((w.alloc (.cells #[.int .i64 h.wax, .slice aw h.writers.length kw, .slice ac h.customers.length kc] 25)).drew.alloc (.map #[] 0)) Try.prog 105 (w.heap.size + 1) [] := by have := MapV.made (w.alloc (.cells #[.int .i64 h.wax, .slice aw h.writers.length kw, .slice ac h.customers.length kc] 25)).drew Try.prog 105; simpa [drew_heap] using this
  replace hM0 := fun (V : World) (e : V.heap[w.heap.size + 1]? = ((w.alloc (.cells #[.int .i64 h.wax, .slice aw h.writers.length kw, .slice ac h.customers.length kc] 25)).drew.alloc (.map #[] 0)).heap[w.heap.size + 1]?) => hM0.same e
  replace hM0 := Lib.hid hM0
  have hn64 : (h.writers.length : Int) < 64 := by omega
  have hc64 : (h.customers.length : Int) < 64 := by omega
  go_enter Try.func73, Try.ntmps73
  go_upto_region 1 with (fail)
  (focus go_region)
  all_goals
    go_wp2
    go_ret
    rw [p1, p2]
    refine (fun hb => ⟨w.heap.size + 1 + 1, w.heap.size + 1, rfl, ?_, hM0.out _ ?_, hb, by omega, by omega⟩ : Below w.heap.size w _ → _) (by (repeat' (first | assumption | exact Below.refl _ _ | refine below_drew' ?_ | refine Below.setCell ?_ (by first | omega | (simp <;> omega)) _ | refine Below.alloc ?_ (by first | omega | (simp <;> omega)) _)))
    · exact alloc_at _ _ (by simp)
    · exact heap_alloc_old _ _ (by simp)
theorem DLook_any (aw ac : Option Addr) (kw kc : Nat) (h : DeH) (w : World) (hm : HallC w aw ac kw kc h) (hv : DeValid h) :
    Calls Try.prog 73 #[(.agg #[.int .i64 h.wax, .slice aw h.writers.length kw, .slice ac h.customers.length kc])] w fun e w' => ∃ bm bo : Nat, e = .returned (.pointer (some ⟨bm, 0, none⟩)) ∧ HallW w' bm bo aw ac kw kc h (fullW h) (fullC h) ∧ Below w.heap.size w w' ∧ w.heap.size < bo ∧ w.heap.size < bm :=
  (DLookN_any aw ac kw kc h w hm hv).mono fun e w' ⟨bm, bo, h1, h2, h3, h4, h5, h6⟩ => ⟨bm, bo, h1, ⟨hm.mono h4, h2, [], h3, memoD_nil h _ _⟩, h4, h5, h6⟩
end Go.Proofs.Ytchnpekgmkhacaa
