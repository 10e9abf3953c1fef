/- What is proved here: the contract of the laws' Truly of layer 9. Conditions: the hall, the plan and the turns lie in memory; the hall is valid, the plan one of it. -/
import Derived.Test.YtchnpekgmkhacaaDw4
set_option linter.unusedVariables false
set_option linter.unusedSimpArgs false
namespace Go.Proofs.Ytchnpekgmkhacaa
open Go Go.RowKit Go.Shelf

def numRow (h : DeH) (x : List Int) : List Int → Int → Int
  | [], n => n
  | c :: l, n => numRow h x l (n + talkT h x c.toNat + h.wax)
theorem numRow_append (h : DeH) (x : List Int) : ∀ (a b : List Int) (n : Int), numRow h x (a ++ b) n = numRow h x b (numRow h x a n)
  | [], _, _ => rfl
  | c :: a, b, n => by rw [List.cons_append, numRow, numRow, numRow_append h x a b]
theorem trulyRow_append (h : DeH) (x : List Int) : ∀ (a b : List Int) (n : Int) (out : List Int), trulyRow h x (a ++ b) n out = trulyRow h x b (numRow h x a n) (trulyRow h x a n out)
  | [], _, _, _ => rfl
  | c :: a, b, n, out => by rw [List.cons_append, trulyRow, trulyRow, numRow, trulyRow_append h x a b]
theorem trulyRows_append (h : DeH) (x : List Int) : ∀ (a b : List (List Int)) (w : Nat) (out : List Int), trulyRows h x w (a ++ b) out = trulyRows h x (w + a.length) b (trulyRows h x w a out)
  | [], _, _, _ => rfl
  | l :: a, b, w, out => by
    rw [List.cons_append, trulyRows, trulyRows, trulyRows_append h x a b, List.length_cons, show w + 1 + a.length = w + (a.length + 1) by omega]
def trulyTo (h : DeH) (x : List Int) (p : List (List Int)) (u : Nat) : List Int := trulyRows h x 0 (p.take u) (List.replicate h.customers.length 0)
def trulyIn (h : DeH) (x : List Int) (p : List (List Int)) (u k : Nat) : List Int := trulyRow h x ((p[u]?.getD []).take k) (freeT h x u) (trulyTo h x p u)
def numIn (h : DeH) (x : List Int) (p : List (List Int)) (u k : Nat) : Int := numRow h x ((p[u]?.getD []).take k) (freeT h x u)
theorem trulyTo_len (h : DeH) (x : List Int) (p : List (List Int)) (u : Nat) : (trulyTo h x p u).length = h.customers.length := by unfold trulyTo; rw [trulyRows_len]; simp
theorem trulyIn_len (h : DeH) (x : List Int) (p : List (List Int)) (u k : Nat) : (trulyIn h x p u k).length = h.customers.length := by unfold trulyIn; rw [trulyRow_len, trulyTo_len]
theorem trulyIn_zero (h : DeH) (x : List Int) (p : List (List Int)) (u : Nat) : trulyIn h x p u 0 = trulyTo h x p u := by unfold trulyIn; rw [List.take_zero]; rfl
theorem numIn_zero (h : DeH) (x : List Int) (p : List (List Int)) (u : Nat) : numIn h x p u 0 = freeT h x u := by unfold numIn; rw [List.take_zero]; rfl
theorem trulyIn_row {h : DeH} {x : List Int} {p : List (List Int)} {u : Nat} (hu : u < p.length) : trulyIn h x p u p[u].length = trulyTo h x p (u + 1) := by
  unfold trulyIn
  rw [List.getElem?_eq_getElem hu, Option.getD_some, List.take_length]
  unfold trulyTo
  rw [List.take_succ_eq_append_getElem hu, trulyRows_append, List.length_take, Nat.min_eq_left (by omega), Nat.zero_add]
  rfl
theorem numIn_next {h : DeH} {x : List Int} {p : List (List Int)} {u k : Nat} (hu : u < p.length) (hk : k < p[u].length) : numIn h x p u (k + 1) = numIn h x p u k + talkT h x p[u][k].toNat + h.wax := by
  unfold numIn
  rw [List.getElem?_eq_getElem hu, Option.getD_some, List.take_succ_eq_append_getElem hk, numRow_append]
  rfl
theorem trulyIn_next {h : DeH} {x : List Int} {p : List (List Int)} {u k : Nat} (hu : u < p.length) (hk : k < p[u].length) : trulyIn h x p u (k + 1) = (trulyIn h x p u k).set p[u][k].toNat (numIn h x p u (k + 1)) := by
  rw [numIn_next hu hk]
  unfold trulyIn
  rw [List.getElem?_eq_getElem hu, Option.getD_some, List.take_succ_eq_append_getElem hk, trulyRow_append]
  have e : numRow h x (p[u].take k) (freeT h x u) = numIn h x p u k := by unfold numIn; rw [List.getElem?_eq_getElem hu, Option.getD_some]
  rw [e]
  rfl
theorem numRow_in {h : DeH} (hv : DeValid h) (x : List Int) : ∀ (l : List Int) (n : Int) (s : Int × Int), (∀ c ∈ l, c.toNat < h.customers.length) → s.1 ≤ n → n ≤ s.2 → (spanD h s l).1 ≤ numRow h x l n ∧ numRow h x l n ≤ (spanD h s l).2
  | [], _, _, _, h1, h2 => ⟨h1, h2⟩
  | c :: l, n, s, hl, h1, h2 => by
    rw [numRow, spanD]
    have hb := someN_bd (turnD x (3 + c.toNat)) (hv.cust (hl c (by simp))).2
    have e : talkT h x c.toNat = someN (customerAt h c.toNat).lo (customerAt h c.toNat).hi (turnD x (3 + c.toNat)) := rfl
    rw [← e] at hb
    exact numRow_in hv x l _ _ (fun d hd => hl d (List.mem_cons_of_mem _ hd)) (by show _ + _ + _ ≤ _; omega) (by show _ ≤ _ + _ + _; omega)
theorem numIn_bd {h : DeH} (hv : DeValid h) {p : List (List Int)} (hp : PlanOk h h.customers.length p) (x : List Int) {u : Nat} (hu : u < p.length) (k : Nat) : 0 ≤ numIn h x p u k ∧ numIn h x p u k ≤ 1000 := by
  have hw : u < h.writers.length := by rw [← hp.len]; exact hu
  have h1 := spanIn_bd hv hp hu k
  have h2 := hv.writer hw
  have hb := someN_bd (turnD x u) h2.2
  have e : freeT h x u = someN (writerAt h u).lo (writerAt h u).hi (turnD x u) := rfl
  rw [← e] at hb
  have h3 := numRow_in hv x (p[u].take k) (freeT h x u) ((writerAt h u).lo, (writerAt h u).hi) (fun c hc => by have := plan_idx hp p[u] (List.getElem_mem hu) c (List.mem_of_mem_take hc); omega) hb.1 hb.2
  unfold numIn
  unfold spanIn at h1
  rw [List.getElem?_eq_getElem hu, Option.getD_some] at h1 ⊢
  omega
theorem wrap_id {n : Int} (h1 : -9223372036854775808 ≤ n) (h2 : n ≤ 9223372036854775807) : IntKind.i64.wrap n = n := by
  have e : IntKind.i64.wrap n = (if n % 18446744073709551616 ≥ 9223372036854775808 then n % 18446744073709551616 - 18446744073709551616 else n % 18446744073709551616) := by
    simp [IntKind.wrap, IntKind.bits, IntKind.signed]
  rw [e]
  split <;> omega
theorem zeros_arr (n : Nat) : madeCells #[.int .i64 0] n = Array.replicate n (Value.int .i64 0) := by
  apply Array.ext
  · rw [size_madeCells]; simp
  · intro i h1 h2
    simp [madeCells, Nat.mod_one]
theorem zeros_map (n : Nat) : ((List.replicate n (0 : Int)).map (Value.int .i64)).toArray = Array.replicate n (Value.int .i64 0) := by
  apply Array.ext
  · simp
  · intro i h1 h2
    simp
theorem ints_of_blk {W : World} {g : Nat} {t : TypeId} {L : List Int} (h : BlkI W g t L) : IntsC W (some ⟨g, 0, none⟩) L := fun i hi => ⟨g, 0, rfl, h.lt, by rw [Nat.zero_add]; exact h.cell i hi⟩
set_option maxRecDepth 100000 in
set_option maxHeartbeats 4000000 in
theorem DTruly_any (aw ac : Option Addr) (kw kc : Nat) (h : DeH) (ad : Option Addr) (p : List (List Int)) (cp : Nat) (ax : Option Addr) (x : List Int) (cx : Nat) (w : World) (hm : HallC w aw ac kw kc h) (hv : DeValid h) (hp : PlanOk h h.customers.length p) (hc : SlOk ad p.length cp) (hi : RowsC w ad p) (hox : SlOk ax x.length cx) (hix : BytesC w ax x) :
    Calls Try.prog 39 #[(.agg #[.int .i64 h.wax, .slice aw h.writers.length kw, .slice ac h.customers.length kc]), .slice ad p.length cp, .slice ax x.length cx] w fun e w' => ∃ a c, e = .returned (.slice a (trulyD h x p).length c) ∧ SlOk a (trulyD h x p).length c ∧ IntsC w' a (trulyD h x p) ∧ Below w.heap.size w w' := by
  have l1 := hm.okw.len
  have l1c := hm.okw.1
  have l2 := hm.okc.len
  have l2c := hm.okc.1
  have hcc := hc.1
  have hnc := hv.nc
  have hnw := hv.nw
  have hxl := hox.len
  have hxb := bytes_bd hix
  have HPL := Lib.hid hp.len
  obtain ⟨i, hi', hz, hsz, hby⟩ := info_parts (show (Try.prog.info? 3).map (fun i => (i.zero, i.size, i.bytes)) = some (some (.int .i64 0), 1, 8) by kernel_rfl)
  have hmk : ∀ W : World, (Instr.makeSlice 42 (.int .i64 (h.customers.length : Int)) (.int .i64 (h.customers.length : Int))).run Try.prog W = .ok (.slice (some ⟨W.heap.size, 0, none⟩) h.customers.length h.customers.length) (W.alloc (.cells (madeCells #[.int .i64 0] h.customers.length) 3)) := fun W => by
    have := run_make (P := Try.prog) W 42 3 i (.int .i64 0) (by kernel_rfl) hi' hz .i64 .i64 h.customers.length h.customers.length (by omega) (Int.le_refl _) (by rw [hby]; omega) (by omega)
    simp only [Int.toNat_natCast, hsz, Nat.mul_one] at this
    exact this
  clear hi' hz hsz hby
  rw [zeros_arr] at hmk
  have hB := Below.refl (w.heap.size + 1) (w.alloc (.cells #[.int .i64 h.wax, .slice aw h.writers.length kw, .slice ac h.customers.length kc] 25))
  have HCL := Lib.hid (fun (V : World) (hq : Below (w.heap.size + 1) (w.alloc (.cells #[.int .i64 h.wax, .slice aw h.writers.length kw, .slice ac h.customers.length kc] 25)) V) => box_hall hq)
  obtain ⟨x0, x1, x2, z0⟩ := box_hall hB
  have hS0 : BlkI ((w.alloc (.cells #[.int .i64 h.wax, .slice aw h.writers.length kw, .slice ac h.customers.length kc] 25)).alloc (.cells (Array.replicate h.customers.length (Value.int .i64 0)) 3)) (w.heap.size + 1) 3 (trulyTo h x p 0) := by
    rw [← zeros_map]
    exact alloc_at _ _ (by simp)
  have TU := Lib.hid (fun (W : World) (n : Nat) (hn : n ≤ 1000) (hq : Below (w.heap.size + 1) (w.alloc (.cells #[.int .i64 h.wax, .slice aw h.writers.length kw, .slice ac h.customers.length kc] 25)) W) => DTurn_any ax x cx n W hxl hn (hix.mono (box_old hq)))
  have TB := Lib.hid (fun n => turnD_bd hxb n)
  go_enter Try.func39, Try.ntmps39
  go_wp2
  go_loopw [8, 9, 10, 11] (fun i d1 d2 d3 wr => ∃ u : Nat, u ≤ p.length ∧ i = .int .i64 u ∧ BlkI wr (w.heap.size + 1) 3 (trulyTo h x p u) ∧ Below (w.heap.size + 1) (w.alloc (.cells #[.int .i64 h.wax, .slice aw h.writers.length kw, .slice ac h.customers.length kc] 25)) wr) (fun i _ _ _ _ => p.length - (intOf i).toNat)
  case atStart => exact ⟨0, Nat.zero_le _, rfl, hS0, hB.alloc (by simp) _⟩
  case round =>
    clear hS0 x0 x1 x2 z0 hB
    obtain ⟨u, hu, rfl, hS, hb⟩ := hrel
    have hbo := box_old hb
    have hbz := hbo.size
    obtain ⟨x0, x1, x2, z0⟩ := HCL.out _ hb
    by_cases hlt : u < p.length
    · obtain ⟨b1, o1, ar, cr, rfl, -, h1, h2, h3⟩ := hi u hlt
      have g1 := cell_below hbo h1
      have z1 := lt_of_cell g1
      have h2c := h2.1
      have h2l := h2.len
      obtain ⟨b2, o2, e2, -, k0, k1, k2, k3⟩ := hm.writers u (by have := HPL.out; omega)
      have q2 := cell_below hbo k2
      have q3 := cell_below hbo k3
      have z2 := lt_of_cell q2
      have huc : (u : Int) < p.length := by omega
      have huwn : u < h.writers.length := by have := HPL.out; omega
      have huw : (u : Int) < h.writers.length := by omega
      have hukw : (u : Int) < kw := by omega
      have hucp : (u : Int) < cp := by omega
      have ew : writerAt h u = h.writers[u] := by unfold writerAt; rw [List.getElem?_eq_getElem huwn]; rfl
      have hwv := hv.w u huwn
      have HF0 : Hid (freeT h x u = someN h.writers[u].lo h.writers[u].hi (turnD x u)) := Lib.hid (by unfold freeT; rw [ew])
      have hzb : w.heap.size + 1 ≤ wr.heap.size := by have := hb.size; simpa using this
      have C1 := fun (V : World) (hq : Below wr.heap.size wr V) => TU.out V u (by omega) (hb.trans (hq.mono hzb))
      have hT := TB.out u
      clear k0 k1 k2 k3 ew
      generalize h.writers[u].lo = slo at q2 HF0 hwv
      generalize h.writers[u].hi = shi at q3 HF0 hwv
      generalize turnD x u = tu at HF0 C1 hT
      replace C1 := Lib.hid C1
      have C2 := Lib.hid (fun V => DSomeN_any slo shi tu V (by omega) (by omega) (by omega) hT.1 hT.2)
      have SB := Lib.hid (fun k => numIn_bd hv hp x hlt k)
      have SN := Lib.hid (fun k hk => numIn_next (h := h) (x := x) hlt (k := k) hk)
      have LN := Lib.hid (fun k hk => trulyIn_next (h := h) (x := x) hlt (k := k) hk)
      have LL := Lib.hid (fun k => trulyIn_len h x p u k)
      have HPI := Lib.hid (fun (k : Nat) (hk : k < p[u].length) => plan_idx hp p[u] (List.getElem_mem hlt) p[u][k] (List.getElem_mem hk))
      have LR := Lib.hid (trulyIn_row (h := h) (x := x) hlt)
      have N0 := Lib.hid (numIn_zero h x p u)
      have L0 := Lib.hid (trulyIn_zero h x p u)
      have HKE := Lib.hid hm
      have HRC := Lib.hid (fun (V : World) (hq : Below (w.heap.size + 1) (w.alloc (.cells #[.int .i64 h.wax, .slice aw h.writers.length kw, .slice ac h.customers.length kc] 25)) V) => cell_below (box_old hq) h1)
      have hww : Below wr.heap.size wr wr.drew := below_drew' (Below.refl _ _)
      have KE := Lib.hid (fun (V : World) (hq : Below wr.heap.size wr V) => (⟨hq, cell_below hq x0, cell_below hq x1, cell_below hq x2, cell_below hq q2, cell_below hq q3, lt_of_cell (cell_below hq x0), lt_of_cell (cell_below hq q2)⟩ : Below wr.heap.size wr V ∧ V.cell? ⟨w.heap.size, 0, none⟩ = some (.int .i64 h.wax) ∧ V.cell? ⟨w.heap.size, 1, none⟩ = some (.slice aw h.writers.length kw) ∧ V.cell? ⟨w.heap.size, 2, none⟩ = some (.slice ac h.customers.length kc) ∧ V.cell? ⟨b2, o2 + u * 4 + 2, none⟩ = some (.int .i64 slo) ∧ V.cell? ⟨b2, o2 + u * 4 + 3, none⟩ = some (.int .i64 shi) ∧ w.heap.size < V.heap.size ∧ b2 < V.heap.size))
      subst e2
      go_upto_region 5 with (fail)
      go_region_held3 (fun V => Below wr.heap.size wr V ∧ V.cell? ⟨w.heap.size, 0, none⟩ = some (.int .i64 h.wax) ∧ V.cell? ⟨w.heap.size, 1, none⟩ = some (.slice (some ⟨b2, o2, none⟩) h.writers.length kw) ∧ V.cell? ⟨w.heap.size, 2, none⟩ = some (.slice ac h.customers.length kc) ∧ V.cell? ⟨b2, o2 + u * 4 + 2, none⟩ = some (.int .i64 slo) ∧ V.cell? ⟨b2, o2 + u * 4 + 3, none⟩ = some (.int .i64 shi) ∧ w.heap.size < V.heap.size ∧ b2 < V.heap.size) (first | exact KE.out _ (by assumption)) (first
          | (go_at_call 53; ((with_reducible refine (C2.out _).mono ?_); rintro e V ⟨rfl, hb5⟩; have hbV := q_on (And.left (by assumption)) hb5; dsimp only))
          | (go_at_call 89; ((with_reducible refine (C1.out _ (And.left (by assumption))).mono ?_); rintro e w4 ⟨rfl, rfl⟩; dsimp only)))
      have hBV := hb.trans (hbV.mono hzb)
      have hSV : BlkI V (w.heap.size + 1) 3 (trulyIn h x p u 0) := by rw [L0.out]; exact hS.same (hbV.block _ hS.lt)
      have hN9 : someN slo shi tu = numIn h x p u 0 := by rw [N0.out, HF0.out]
      replace hN9 := Lib.hid hN9
      clear hS x0 x1 x2 z0 g1 z1 q2 q3 z2 hb hbo hbV hb5 hww C1 C2 hbz KE
      go_wp2
      go_loopw [9, 10, 11] (fun n i d V => ∃ k : Nat, k ≤ p[u].length ∧ i = .int .i64 k ∧ n = .int .i64 (numIn h x p u k) ∧ BlkI V (w.heap.size + 1) 3 (trulyIn h x p u k) ∧ Below (w.heap.size + 1) (w.alloc (.cells #[.int .i64 h.wax, .slice (some ⟨b2, o2, none⟩) h.writers.length kw, .slice ac h.customers.length kc] 25)) V) (fun _ i _ _ => p[u].length - (intOf i).toNat)
      case atStart => exact ⟨0, Nat.zero_le _, rfl, by rw [hN9.out], hSV, hBV⟩
      case round =>
        rename World => U
        clear hSV hBV hN9
        obtain ⟨k, hk, rfl, rfl, hL, hB⟩ := hrel
        have hBo := box_old hB
        have hBz : w.heap.size + 1 ≤ U.heap.size := by have := hB.size; simpa using this
        obtain ⟨x0, x1, x2, z0⟩ := HCL.out _ hB
        have g1 := HRC.out _ hB
        have z1 := lt_of_cell g1
        by_cases hlk : k < p[u].length
        · have hkc : (k : Int) < cr := by omega
          have hkl : (k : Int) < p[u].length := by omega
          have hx := h3 k hlk
          have hpi := HPI.out k hlk
          have HLN := Lib.hid (LN.out k hlk)
          have HSN := SN.out k hlk
          have hsb := SB.out k
          have hsb2 := SB.out (k + 1)
          have hll := LL.out k
          generalize p[u][k] = y at hx hpi HLN HSN
          obtain ⟨c, rfl⟩ : ∃ c : Nat, y = c := ⟨y.toNat, by omega⟩
          rw [Int.toNat_natCast] at HLN HSN
          have hcn : c < h.customers.length := by omega
          have hci : (c : Int) < h.customers.length := by omega
          obtain ⟨bx, ox, ex, hbx, hx1⟩ := hx
          have hcs := customer_ship hv hcn
          have hcl := hv.cust hcn
          have hcv := hv.c c hcn
          have hwx := hv.wax
          have ec : customerAt h c = h.customers[c] := by unfold customerAt; rw [List.getElem?_eq_getElem hcn]; rfl
          obtain ⟨b3, o3, e3, -, -, -, k2, k3, -⟩ := HKE.out.custs c hcn
          have q2 := cell_below hBo k2
          have q3 := cell_below hBo k3
          have z2 := lt_of_cell q2
          have qx := cell_below hBo hx1
          have zx := lt_of_cell qx
          have HF1 : talkT h x c = someN h.customers[c].lo h.customers[c].hi (turnD x (3 + c)) := by unfold talkT; rw [ec]
          rw [HF1] at HSN
          have C1 := fun (V : World) (hq : Below U.heap.size U V) => TU.out V (3 + c) (by omega) (hB.trans (hq.mono hBz))
          have hT := TB.out (3 + c)
          rw [show ((3 + c : Nat) : Int) = 3 + (c : Int) by omega] at C1
          have hwr : IntKind.i64.wrap (3 + (c : Int)) = 3 + (c : Int) := wrap_id (by omega) (by omega)
          clear ec HF1 hcs hcl
          generalize h.customers[c].lo = tlo at k2 q2 HSN hcv
          generalize h.customers[c].hi = thi at k3 q3 HSN hcv
          generalize turnD x (3 + c) = tu at HSN C1 hT
          replace C1 := Lib.hid C1
          have C2 := Lib.hid (fun V => DSomeN_any tlo thi tu V (by omega) (by omega) (by omega) hT.1 hT.2)
          have hsn := someN_bd tu (show tlo ≤ thi by omega)
          have HRN : Hid (numIn h x p u k + someN tlo thi tu + h.wax = numIn h x p u (k + 1)) := Lib.hid HSN.symm
          rw [← HRN.out] at HLN
          generalize someN tlo thi tu = sn at C2 hsn HRN HLN
          generalize numIn h x p u k = n at hsb HRN HLN
          generalize trulyIn h x p u k = L at hL hll HLN
          clear HSN hsb2
          have hwn : IntKind.i64.wrap (IntKind.i64.wrap (n + sn) + h.wax) = n + sn + h.wax := by rw [wrap_id (n := n + sn) (by omega) (by omega), wrap_id (by omega) (by omega)]
          have hUU : Below U.heap.size U U.drew := below_drew' (Below.refl _ _)
          have KE := Lib.hid (fun (V : World) (hq : Below U.heap.size U V) => (⟨hq, cell_below hq x0, cell_below hq x2, cell_below hq q2, cell_below hq q3, lt_of_cell (cell_below hq x0), lt_of_cell (cell_below hq q2)⟩ : Below U.heap.size U V ∧ V.cell? ⟨w.heap.size, 0, none⟩ = some (.int .i64 h.wax) ∧ V.cell? ⟨w.heap.size, 2, none⟩ = some (.slice ac h.customers.length kc) ∧ V.cell? ⟨b3, o3 + c * 5 + 2, none⟩ = some (.int .i64 tlo) ∧ V.cell? ⟨b3, o3 + c * 5 + 3, none⟩ = some (.int .i64 thi) ∧ w.heap.size < V.heap.size ∧ b3 < V.heap.size))
          subst e3
          subst ex
          go_upto_region 10 with (fail)
          go_region_held3 (fun V => Below U.heap.size U V ∧ V.cell? ⟨w.heap.size, 0, none⟩ = some (.int .i64 h.wax) ∧ V.cell? ⟨w.heap.size, 2, none⟩ = some (.slice (some ⟨b3, o3, none⟩) h.customers.length kc) ∧ V.cell? ⟨b3, o3 + c * 5 + 2, none⟩ = some (.int .i64 tlo) ∧ V.cell? ⟨b3, o3 + c * 5 + 3, none⟩ = some (.int .i64 thi) ∧ w.heap.size < V.heap.size ∧ b3 < V.heap.size) (first | exact KE.out _ (by assumption)) (first
              | (go_at_call 53; ((with_reducible refine (C2.out _).mono ?_); rintro e W ⟨rfl, hb5⟩; have hbW := q_on (And.left (by assumption)) hb5; have hg5 := hbW; dsimp only))
              | (go_at_call 89; (try rw [hwr]); ((with_reducible refine (C1.out _ (And.left (by assumption))).mono ?_); rintro e w4 ⟨rfl, rfl⟩; dsimp only)))
          have hBW := hB.trans (hbW.mono hBz)
          have hLW := hL.same (hbW.block _ hL.lt)
          have e0 := hLW.free c
          have d0 := hLW.cell c (by omega)
          have zl := hLW.lt
          go_wp2
          go_roundw
          case rel => (try rw [hwn]); (try rw [hwn]); exact ⟨k + 1, by omega, by go_num, by rw [HRN.out], by rw [HLN.out]; exact hLW.set c _, hBW.setCell (Nat.le_refl _) _⟩
          case measure => simp [intOf]; omega
        · obtain rfl : k = p[u].length := by omega
          rw [LR.out] at hL
          go_wp2
          go_roundw
          case rel => exact ⟨u + 1, by omega, by go_num, hL, hB⟩
          case measure => simp [intOf]; omega
    · obtain rfl : u = p.length := by omega
      have e : trulyTo h x p p.length = trulyD h x p := by unfold trulyTo trulyD; rw [List.take_length]
      rw [e] at hS
      have HL := Lib.hid (truly_len h x p)
      go_wp2
      go_ret
      exact ⟨some ⟨w.heap.size + 1, 0, none⟩, h.customers.length, by rw [HL.out]; rfl, ⟨by rw [HL.out]; exact Nat.le_refl _, by omega, by simp⟩, ints_of_blk hS, hbo⟩
end Go.Proofs.Ytchnpekgmkhacaa
