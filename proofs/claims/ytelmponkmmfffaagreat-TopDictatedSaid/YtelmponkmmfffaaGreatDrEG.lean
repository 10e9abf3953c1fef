/- What is proved here: plain facts on any plan, and on any truth, of layer 9. No program. No condition. -/
/- What is proved here: the contract of ends: when letters of a plan are sealed. Conditions: the hall is looked at and valid; the plan is one of it. -/
/- What is proved here: the contract of the reference's Sealed of layer 9. Conditions: the hall and the plan lie in memory; the hall is valid, the plan one of it. -/
import Derived.Test.YtelmponkmmfffaaGreatDeLaterG
import Derived.Test.YtelmponkmmfffaaGreatDeEnterG
import Derived.BigRegion
set_option linter.unusedVariables false
set_option linter.unusedSimpArgs false
namespace Go.Proofs.YtelmponkmmfffaaGreat

theorem plan_idx {h : DeH} {k : Nat} {p : List (List Int)} (hp : PlanOk h k p) : ∀ l ∈ p, ∀ c ∈ l, 0 ≤ c ∧ c < (k : Int) := fun l hl c hc => (hp.mem c).1 (List.mem_flatten.2 ⟨l, hl, hc⟩)
/-- What 'Best' says of a valid hall. -/
theorem best_cases {h : DeH} (he : deErr h = 0) : (deBest h = ([], 0, 9) ∧ ∀ p, PlanOk h h.customers.length p → deDoes h p ≠ 1) ∨
    ∃ q, deBest h = (q, deOver h q, 0) ∧ PlanOk h h.customers.length q ∧ deDoes h q = 1 ∧ ∀ p, PlanOk h h.customers.length p → deDoes h p = 1 → deOver h q < deOver h p ∨ (deOver h q = deOver h p ∧ beforeD p q = false) := by
  have hb := best_of h
  unfold deBest
  rw [if_pos he]
  cases e : bestD h with
  | none =>
    rw [e] at hb
    exact .inl ⟨rfl, fun p hp => hb p (mem_plans.2 hp)⟩
  | some qn =>
    obtain ⟨q, n⟩ := qn
    rw [e] at hb
    obtain ⟨b1, b2, rfl, b4⟩ := hb
    exact .inr ⟨q, rfl, mem_plans.1 b1, b2, fun p hp => b4 p (mem_plans.2 hp)⟩
theorem plan_good {h : DeH} {p : List (List Int)} (he : deErr h = 0) (hp : PlanOk h h.customers.length p) : dePlanErr h p = 0 := plan_iff.2 ⟨he, hp⟩
def lateB (h : DeH) (c : Nat) : Option Nat → Bool
  | none => true
  | some f => decide ((customerAt h c).ship < (customerAt h f).ship)
def lateStep (h : DeH) (c : Nat) (s : Int × Int) (out : Option Nat) : Option Nat := if decide ((customerAt h c).ship < s.2) && lateB h c out then some c else out
theorem lateFrom_cons (h : DeH) (c : Nat) (s : Int × Int) (L : List (Int × Int)) (out : Option Nat) : lateFrom h c (s :: L) out = lateFrom h (c + 1) L (lateStep h c s out) := by cases out <;> rfl
end Go.Proofs.YtelmponkmmfffaaGreat
namespace Go.Proofs.YtelmponkmmfffaaGreat
open Go Go.RowKit Go.Shelf

def spanFlat : List (Int × Int) → List Int
  | [] => []
  | s :: l => s.1 :: s.2 :: spanFlat l
theorem spanFlat_len : ∀ l : List (Int × Int), (spanFlat l).length = 2 * l.length
  | [] => rfl
  | s :: l => by
    show (spanFlat l).length + 1 + 1 = 2 * (l.length + 1)
    rw [spanFlat_len l]; omega
theorem spanFlat_set : ∀ (l : List (Int × Int)) (c : Nat) (a b : Int), c < l.length → ((spanFlat l).set (c * 2) a).set (c * 2 + 1) b = spanFlat (l.set c (a, b))
  | [], c, a, b, h => absurd h (Nat.not_lt_zero _)
  | s :: l, 0, a, b, _ => rfl
  | s :: l, c + 1, a, b, h => by
    have ih := spanFlat_set l c a b (Nat.lt_of_succ_lt_succ h)
    rw [show (c + 1) * 2 = c * 2 + 1 + 1 by omega]
    show s.1 :: s.2 :: ((spanFlat l).set (c * 2) a).set (c * 2 + 1) b = s.1 :: s.2 :: spanFlat (l.set c (a, b))
    rw [ih]
theorem spanFlat_get : ∀ (l : List (Int × Int)) (c : Nat) (h : c < l.length), (spanFlat l)[c * 2]? = some l[c].1 ∧ (spanFlat l)[c * 2 + 1]? = some l[c].2
  | [], c, h => absurd h (Nat.not_lt_zero _)
  | s :: l, 0, _ => ⟨rfl, rfl⟩
  | s :: l, c + 1, h => by
    have ih := spanFlat_get l c (Nat.lt_of_succ_lt_succ h)
    rw [show (c + 1) * 2 = c * 2 + 1 + 1 by omega]
    exact ih
theorem spanFlat_zero (n : Nat) : madeCells #[.int .i64 0, .int .i64 0] (n * 2) = ((spanFlat (List.replicate n (0, 0))).map (Value.int .i64)).toArray := by
  have e : spanFlat (List.replicate n (0, 0)) = List.replicate (n * 2) 0 := by
    induction n with
    | zero => rfl
    | succ n ih =>
      rw [List.replicate_succ, show (n + 1) * 2 = n * 2 + 1 + 1 by omega, List.replicate_succ, List.replicate_succ, ← ih]
      rfl
  rw [e]
  apply Array.ext
  · rw [size_madeCells]; simp
  · intro i h1 h2
    have : i % 2 = 0 ∨ i % 2 = 1 := by omega
    rcases this with h | h <;> simp [madeCells, h]
theorem sealRows_append (h : DeH) : ∀ (a b : List (List Int)) (w : Nat) (out : List (Int × Int)), sealRows h w (a ++ b) out = sealRows h (w + a.length) b (sealRows h w a out)
  | [], _, _, _ => rfl
  | l :: a, b, w, out => by
    rw [List.cons_append, sealRows, sealRows, sealRows_append h a b, List.length_cons, show w + 1 + a.length = w + (a.length + 1) by omega]
theorem sealRow_append (h : DeH) : ∀ (a b : List Int) (s : Int × Int) (out : List (Int × Int)), sealRow h (a ++ b) s out = sealRow h b (spanD h s a) (sealRow h a s out)
  | [], _, _, _ => rfl
  | c :: a, b, s, out => by rw [List.cons_append, sealRow, sealRow, spanD, sealRow_append h a b]
def sealTo (h : DeH) (p : List (List Int)) (u : Nat) : List (Int × Int) := sealRows h 0 (p.take u) (List.replicate h.customers.length (0, 0))
def sealIn (h : DeH) (p : List (List Int)) (u k : Nat) : List (Int × Int) := sealRow h ((p[u]?.getD []).take k) ((writerAt h u).lo, (writerAt h u).hi) (sealTo h p u)
def spanIn (h : DeH) (p : List (List Int)) (u k : Nat) : Int × Int := spanD h ((writerAt h u).lo, (writerAt h u).hi) ((p[u]?.getD []).take k)
theorem sealTo_len (h : DeH) (p : List (List Int)) (u : Nat) : (sealTo h p u).length = h.customers.length := by unfold sealTo; rw [sealRows_len]; simp
theorem sealIn_len (h : DeH) (p : List (List Int)) (u k : Nat) : (sealIn h p u k).length = h.customers.length := by unfold sealIn; rw [sealRow_len, sealTo_len]
theorem sealIn_zero (h : DeH) (p : List (List Int)) (u : Nat) : sealIn h p u 0 = sealTo h p u := by unfold sealIn; rw [List.take_zero]; rfl
theorem spanIn_zero (h : DeH) (p : List (List Int)) (u : Nat) : spanIn h p u 0 = ((writerAt h u).lo, (writerAt h u).hi) := by unfold spanIn; rw [List.take_zero]; rfl
theorem sealIn_row {h : DeH} {p : List (List Int)} {u : Nat} (hu : u < p.length) : sealIn h p u p[u].length = sealTo h p (u + 1) := by
  unfold sealIn
  rw [List.getElem?_eq_getElem hu, Option.getD_some, List.take_length]
  unfold sealTo
  rw [List.take_succ_eq_append_getElem hu, sealRows_append, List.length_take, Nat.min_eq_left (by omega), Nat.zero_add]
  rfl
theorem spanIn_next {h : DeH} {p : List (List Int)} {u k : Nat} (hu : u < p.length) (hk : k < p[u].length) : spanIn h p u (k + 1) = ((spanIn h p u k).1 + (customerAt h p[u][k].toNat).lo + h.wax, (spanIn h p u k).2 + (customerAt h p[u][k].toNat).hi + h.wax) := by
  unfold spanIn
  rw [List.getElem?_eq_getElem hu, Option.getD_some, List.take_succ_eq_append_getElem hk, spanD_append]
  rfl
theorem sealIn_next {h : DeH} {p : List (List Int)} {u k : Nat} (hu : u < p.length) (hk : k < p[u].length) : sealIn h p u (k + 1) = (sealIn h p u k).set p[u][k].toNat (spanIn h p u (k + 1)) := by
  rw [spanIn_next hu hk]
  unfold sealIn
  rw [List.getElem?_eq_getElem hu, Option.getD_some, List.take_succ_eq_append_getElem hk, sealRow_append]
  have e : spanD h ((writerAt h u).lo, (writerAt h u).hi) (p[u].take k) = spanIn h p u k := by unfold spanIn; rw [List.getElem?_eq_getElem hu, Option.getD_some]
  rw [e]
  rfl
theorem spanD_bd {h : DeH} (hv : DeValid h) : ∀ (l : List Int) (s : Int × Int), (∀ c ∈ l, 0 ≤ c ∧ c < (h.customers.length : Int)) → 0 ≤ s.1 → 0 ≤ s.2 → 0 ≤ (spanD h s l).1 ∧ 0 ≤ (spanD h s l).2 ∧ (spanD h s l).1 ≤ s.1 + 35 * l.length ∧ (spanD h s l).2 ≤ s.2 + 35 * l.length
  | [], s, _, h1, h2 => by simp [spanD]; omega
  | c :: l, s, hl, h1, h2 => by
    have hc := hl c (by simp)
    have hx := hv.wax
    have h3 := hv.cust (c := c.toNat) (by omega)
    have h4 := customer_ship hv (c := c.toNat) (by omega)
    have h5 := spanD_bd hv l (s.1 + (customerAt h c.toNat).lo + h.wax, s.2 + (customerAt h c.toNat).hi + h.wax) (fun d hd => hl d (List.mem_cons_of_mem _ hd)) (by simp only; omega) (by simp only; omega)
    rw [spanD, List.length_cons]
    simp only at h5
    omega
theorem plan_short {h : DeH} (hv : DeValid h) {p : List (List Int)} (hp : PlanOk h h.customers.length p) : p.flatten.length ≤ 5 := by
  have h1 := nodup_below h.customers.length (p.flatten.map Int.toNat) (by
    rw [List.Nodup, List.pairwise_map]
    refine List.Pairwise.imp_of_mem (fun {a b} ha hb hne e => hne ?_) hp.nodup
    have := (hp.mem a).1 ha
    have := (hp.mem b).1 hb
    omega) (fun x hx => by
      obtain ⟨c, hc, rfl⟩ := List.mem_map.1 hx
      have := (hp.mem c).1 hc
      omega)
  rw [List.length_map] at h1
  have := hv.nc
  omega
theorem row_short {p : List (List Int)} {u : Nat} (hu : u < p.length) : p[u].length ≤ p.flatten.length := by
  have := flat_take_le p (u + 1)
  rw [flat_succ hu, List.length_append] at this
  omega
theorem spanIn_bd {h : DeH} (hv : DeValid h) {p : List (List Int)} (hp : PlanOk h h.customers.length p) {u : Nat} (hu : u < p.length) (k : Nat) : 0 ≤ (spanIn h p u k).1 ∧ 0 ≤ (spanIn h p u k).2 ∧ (spanIn h p u k).1 ≤ 1000 ∧ (spanIn h p u k).2 ≤ 1000 := by
  have hw : u < h.writers.length := by rw [← hp.len]; exact hu
  have h1 := hv.w u hw
  have e : writerAt h u = h.writers[u] := by unfold writerAt; rw [List.getElem?_eq_getElem hw]; rfl
  have h2 := Nat.le_trans (row_short hu) (plan_short hv hp)
  have h3 := spanD_bd hv (p[u].take k) ((writerAt h u).lo, (writerAt h u).hi) (fun c hc => plan_idx hp p[u] (List.getElem_mem hu) c (List.mem_of_mem_take hc)) (by rw [e]; simp only; omega) (by rw [e]; simp only; omega)
  have h4 : (p[u].take k).length ≤ p[u].length := by simp; omega
  unfold spanIn
  rw [List.getElem?_eq_getElem hu, Option.getD_some]
  rw [e] at h3 ⊢
  simp only at h3
  omega
theorem spans_blk {W : World} {g : Nat} {L : List (Int × Int)} (h : BlkI W g 37 (spanFlat L)) : SpansC W (some ⟨g, 0, none⟩) L := fun i hi => by
  obtain ⟨e1, e2⟩ := spanFlat_get L i hi
  have hl := spanFlat_len L
  obtain ⟨h1, e1⟩ := List.getElem?_eq_some_iff.1 e1
  obtain ⟨h2, e2⟩ := List.getElem?_eq_some_iff.1 e2
  refine ⟨g, 0, rfl, h.lt, ?_, ?_⟩
  · rw [Nat.zero_add, ← e1]; exact h.cell _ h1
  · rw [Nat.zero_add, ← e2]; exact h.cell _ h2

set_option maxRecDepth 100000 in
set_option maxHeartbeats 2000000 in
theorem DEndsM_any (aw ac : Option Addr) (kw kc : Nat) (h : DeH) (bm bo wm cm : Nat) (ad : Option Addr) (p : List (List Int)) (cp : Nat) (w : World) (hm : HallW w bm bo aw ac kw kc h wm cm) (hv : DeValid h) (hp : PlanOk h h.customers.length p) (hc : SlOk ad p.length cp) (hi : RowsC w ad p) :
    Calls Tryz.prog 84 #[.pointer (some ⟨bm, 0, none⟩), .slice ad p.length cp] w fun e w' => ∃ v, e = .returned v ∧ SpansV w' v (deSealed h p) ∧ Below w.heap.size w w' := by
  have l1 := hm.hall.okw.len
  have l1c := hm.hall.okw.1
  have l2 := hm.hall.okc.len
  have l2c := hm.hall.okc.1
  have hcc := hc.1
  have hnc := hv.nc
  have hnw := hv.nw
  have HPL := Lib.hid hp.len
  obtain ⟨i, hi', hz, hsz, hby⟩ := info_parts (show (Tryz.prog.info? 37).map (fun i => (i.zero, i.size, i.bytes)) = some (some (.agg #[.int .i64 0, .int .i64 0]), 2, 16) by kernel_rfl)
  have hmk : ∀ W : World, (Instr.makeSlice 85 (.int .i64 (h.customers.length : Int)) (.int .i64 (h.customers.length : Int))).run Tryz.prog W = .ok (.slice (some ⟨W.heap.size, 0, none⟩) h.customers.length h.customers.length) (W.alloc (.cells (madeCells #[.int .i64 0, .int .i64 0] (h.customers.length * 2)) 37)) := fun W => by
    have := run_make (P := Tryz.prog) W 85 37 i (.agg #[.int .i64 0, .int .i64 0]) (by kernel_rfl) hi' hz .i64 .i64 h.customers.length h.customers.length (by omega) (Int.le_refl _) (by rw [hby]; omega) (by omega)
    simp only [Int.toNat_natCast, hsz] at this
    exact this
  clear hi' hz hsz hby
  rw [spanFlat_zero] at hmk
  obtain ⟨y0, y1, y2, y3, y4, y5, y6⟩ := hm.blk.cells
  have hS0 : BlkI (w.alloc (.cells ((spanFlat (List.replicate h.customers.length (0, 0))).map (Value.int .i64)).toArray 37)) w.heap.size 37 (spanFlat (sealTo h p 0)) := alloc_at _ _ rfl
  go_enter Tryz.func84, Tryz.ntmps84
  go_wp2
  go_loopw [20] (fun i wr => ∃ u : Nat, u ≤ p.length ∧ i = .int .i64 u ∧ BlkI wr w.heap.size 37 (spanFlat (sealTo h p u)) ∧ Below w.heap.size w wr) (fun i _ => p.length - (intOf i).toNat)
  case atStart => exact ⟨0, Nat.zero_le _, rfl, hS0, (Below.refl _ _).alloc (Nat.le_refl _) _⟩
  case round =>
    clear hS0 y0 y1 y2 y3 y4 y5 y6
    obtain ⟨u, hu, rfl, hS, hb⟩ := hrel
    have hbz := hb.size
    by_cases hlt : u < p.length
    · obtain ⟨y0, y1, y2, y3, y4, y5, y6⟩ := (hm.below hb).blk.cells
      obtain ⟨b1, o1, ar, cr, rfl, -, h1, h2, h3⟩ := hi u hlt
      have g1 := cell_below hb h1
      have z1 := lt_of_cell g1
      have h2c := h2.1
      have h2l := h2.len
      obtain ⟨b2, o2, rfl, -, k0, k1, k2, k3⟩ := hm.hall.writers u (by have := HPL.out; omega)
      have q2 := cell_below hb k2
      have q3 := cell_below hb k3
      have z2 := lt_of_cell q2
      have huc : (u : Int) < p.length := by omega
      have huwn : u < h.writers.length := by have := HPL.out; omega
      have huw : (u : Int) < h.writers.length := by omega
      have ew : writerAt h u = h.writers[u] := by unfold writerAt; rw [List.getElem?_eq_getElem huwn]; rfl
      have HS0 := Lib.hid (spanIn_zero h p u)
      rw [ew] at HS0
      clear h1 k0 k1 k2 k3 ew
      generalize h.writers[u].lo = slo at q2 HS0
      generalize h.writers[u].hi = shi at q3 HS0
      have SB := Lib.hid (fun k => spanIn_bd hv hp hlt k)
      have SN := Lib.hid (fun k hk => spanIn_next (h := h) hlt (k := k) hk)
      have LN := Lib.hid (fun k hk => sealIn_next (h := h) hlt (k := k) hk)
      have LL := Lib.hid (fun k => sealIn_len h p u k)
      have HPI := Lib.hid (fun (k : Nat) (hk : k < p[u].length) => plan_idx hp p[u] (List.getElem_mem hlt) p[u][k] (List.getElem_mem hk))
      have LR := Lib.hid (sealIn_row (h := h) hlt)
      obtain ⟨Y, hY⟩ : ∃ Y : World, Y = wr.alloc (.cells #[.int .i64 slo, .int .i64 shi] 37) := ⟨_, rfl⟩
      have hYb : Below w.heap.size w Y := by rw [hY]; exact hb.alloc hbz _
      have hYs : BlkI Y wr.heap.size 37 [(spanIn h p u 0).1, (spanIn h p u 0).2] := by rw [hY, HS0.out]; exact alloc_at _ _ rfl
      have hYl : BlkI Y w.heap.size 37 (spanFlat (sealIn h p u 0)) := by rw [hY, sealIn_zero]; exact hS.same (heap_alloc_old _ _ hS.lt)
      have hne : w.heap.size ≠ wr.heap.size := by have := hS.lt; omega
      go_upto_region 6 with (fail)
      rw [← hY]
      clear hY hS q2 q3 z2 y0 y1 y2 y3 y4 y5 y6 g1 z1
      go_wp2
      go_loopw [36] (fun i V => ∃ k : Nat, k ≤ p[u].length ∧ i = .int .i64 k ∧ BlkI V w.heap.size 37 (spanFlat (sealIn h p u k)) ∧ BlkI V wr.heap.size 37 [(spanIn h p u k).1, (spanIn h p u k).2] ∧ Below w.heap.size w V) (fun i _ => p[u].length - (intOf i).toNat)
      case atStart => exact ⟨0, Nat.zero_le _, rfl, hYl, hYs, hYb⟩
      case round =>
        rename World => V
        clear hYl hYs hYb
        obtain ⟨k, hk, rfl, hL, hS, hB⟩ := hrel
        have hBz := hB.size
        by_cases hlk : k < p[u].length
        · obtain ⟨y0, y1, y2, y3, y4, y5, y6⟩ := (hm.below hB).blk.cells
          have hkc : (k : Int) < cr := by omega
          have hkl : (k : Int) < p[u].length := by omega
          have hx := (h3.mono hB) k hlk
          have hpi := HPI.out k hlk
          have HLN := Lib.hid (LN.out k hlk)
          have HSN := SN.out k hlk
          have hsb := SB.out k
          have hll := LL.out k
          generalize p[u][k] = x at hx hpi HLN HSN
          obtain ⟨c, rfl⟩ : ∃ c : Nat, x = c := ⟨x.toNat, by omega⟩
          rw [Int.toNat_natCast] at HLN HSN
          have hcn : c < h.customers.length := by omega
          have hci : (c : Int) < h.customers.length := by omega
          obtain ⟨bx, ox, rfl, hbx, hx1⟩ := hx
          have hcs := customer_ship hv hcn
          have hcl := hv.cust hcn
          have hwx := hv.wax
          have ec : customerAt h c = h.customers[c] := by unfold customerAt; rw [List.getElem?_eq_getElem hcn]; rfl
          obtain ⟨b3, o3, rfl, -, -, -, k2, k3, -⟩ := hm.hall.custs c hcn
          rw [ec] at hcs hcl HSN
          have q2 := cell_below hB k2
          have q3 := cell_below hB k3
          have z2 := lt_of_cell q2
          clear ec
          generalize h.customers[c].lo = tlo at k2 q2 hcs hcl HSN
          generalize h.customers[c].hi = thi at k3 q3 hcs hcl HSN
          rw [HSN] at HLN
          generalize spanIn h p u k = s at hS hsb HSN HLN
          obtain ⟨sa, sb⟩ := s
          simp only at hS hsb HSN HLN
          generalize sealIn h p u k = L at hL hll HLN
          generalize hwe : h.wax = wx at *
          have HWX := Lib.hid hwe
          clear hwe
          have hlf : (spanFlat L).length = 2 * h.customers.length := by rw [spanFlat_len, hll]
          have HFS := Lib.hid (spanFlat_set L c (sa + tlo + wx) (sb + thi + wx) (by omega))
          have HRN : Hid ((sa + tlo + wx, sb + thi + wx) = spanIn h p u (k + 1)) := Lib.hid HSN.symm
          clear HSN
          have s0 := hS.cell 0 (by simp)
          have s1 := hS.cell 1 (by simp)
          simp only [List.getElem_cons_zero, List.getElem_cons_succ] at s0 s1
          have f0 := hS.free 0
          have f1 := hS.free 1
          have zs := hS.lt
          go_upto_region 9 with (fail)
          apply wp_mid _ (fun W => BlkI W w.heap.size 37 (spanFlat L) ∧ BlkI W wr.heap.size 37 [sa + (tlo + wx), sb] ∧ Below w.heap.size w W)
          · (focus go_region)
            all_goals
              refine ⟨rfl, ?_, ?_, ?_⟩
              · exact hL.same (Below.heap_setCell _ _ _ _ hne)
              · exact hS.set 0 (sa + (tlo + wx))
              · exact below_drew' (hB.setCell hbz _)
          rintro W ⟨hL1, hS1, hB1⟩
          clear hS y0 y1 y2 y3 y4 y5 y6 hx1 q2 q3 z2 s0 s1 f0 f1 zs hL
          have hb1z := hB1.size
          obtain ⟨y0, y1, y2, y3, y4, y5, y6⟩ := (hm.below hB1).blk.cells
          rw [HWX.out] at y0
          have q2 := cell_below hB1 k2
          have q3 := cell_below hB1 k3
          have z2 := lt_of_cell q2
          have s0 := hS1.cell 0 (by simp)
          have s1 := hS1.cell 1 (by simp)
          simp only [List.getElem_cons_zero, List.getElem_cons_succ] at s0 s1
          have f0 := hS1.free 0
          have f1 := hS1.free 1
          have zs := hS1.lt
          go_upto_region 10 with (fail)
          apply wp_mid _ (fun Z => BlkI Z w.heap.size 37 (spanFlat L) ∧ BlkI Z wr.heap.size 37 [sa + (tlo + wx), sb + (thi + wx)] ∧ Below w.heap.size w Z)
          · (focus go_region)
            all_goals
              refine ⟨rfl, ?_, ?_, ?_⟩
              · exact hL1.same (Below.heap_setCell _ _ _ _ hne)
              · exact hS1.set 1 (sb + (thi + wx))
              · exact below_drew' (hB1.setCell hbz _)
          rintro Z ⟨hL2, hS2, hB2⟩
          clear hS1 y0 y1 y2 y3 y4 y5 y6 q2 q3 z2 s0 s1 f0 f1 zs hL1
          have s0 := hS2.cell 0 (by simp)
          have s1 := hS2.cell 1 (by simp)
          simp only [List.getElem_cons_zero, List.getElem_cons_succ] at s0 s1
          have zs := hS2.lt
          have zl := hL2.lt
          have e0 := hL2.free (c * 2)
          have e1 := hL2.free (c * 2 + 1)
          have d0 := hL2.cell (c * 2) (by omega)
          have d1 := hL2.cell (c * 2 + 1) (by omega)
          have HFIN : Hid (BlkI ((Z.setCell ⟨w.heap.size, c * 2, none⟩ (.int .i64 (sa + (tlo + wx)))).setCell ⟨w.heap.size, c * 2 + 1, none⟩ (.int .i64 (sb + (thi + wx)))) w.heap.size 37 (spanFlat (sealIn h p u (k + 1)))) := Lib.hid (by
            have h9 := (hL2.set (c * 2) (sa + (tlo + wx))).set (c * 2 + 1) (sb + (thi + wx))
            rw [HLN.out, ← HFS.out, Int.add_assoc, Int.add_assoc]
            exact h9)
          go_wp2
          go_roundw
          case rel => exact ⟨k + 1, by omega, by go_num, HFIN.out, by rw [← HRN.out]; rw [Int.add_assoc, Int.add_assoc]; exact (hS2.same (Below.heap_setCell _ _ _ _ (Ne.symm hne))).same (Below.heap_setCell _ _ _ _ (Ne.symm hne)), (hB2.setCell (Nat.le_refl _) _).setCell (Nat.le_refl _) _⟩
          case measure => simp [intOf]; omega
        · obtain rfl : k = p[u].length := by omega
          rw [LR.out] at hL
          go_wp2
          go_roundw
          case rel => exact ⟨u + 1, by omega, by go_num, hL, hB⟩
          case measure => simp [intOf]; omega
    · obtain rfl : u = p.length := by omega
      have e : sealTo h p p.length = deSealed h p := by unfold sealTo deSealed; rw [List.take_length]
      rw [e] at hS
      have HL := Lib.hid (sealed_len h p)
      go_wp2
      go_ret
      exact ⟨.slice (some ⟨w.heap.size, 0, none⟩) h.customers.length h.customers.length, rfl, ⟨some ⟨w.heap.size, 0, none⟩, h.customers.length, by rw [HL.out], ⟨by rw [HL.out]; exact Nat.le_refl _, by omega, by simp⟩, spans_blk hS⟩, hb⟩
end Go.Proofs.YtelmponkmmfffaaGreat
namespace Go.Proofs.YtelmponkmmfffaaGreat
open Go Go.RowKit Go.Shelf

end Go.Proofs.YtelmponkmmfffaaGreat
