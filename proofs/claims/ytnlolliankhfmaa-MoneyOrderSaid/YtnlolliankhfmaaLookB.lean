/- What is proved here: the contract of truths' inner closure, which goes on from the claimants of the first sums. Conditions: the list is valid. -/
/- What is proved here: the contract of truths' inner closure, whole. Conditions: the list is valid. -/
/- What is proved here: truths gives all truths, in order. Conditions: the list is valid. -/
import Derived.Test.YtnlolliankhfmaaLook3
import Derived.Test.YtnlolliankhfmaaGround
import Derived.RangeFuncCalls
import Derived.Shelf.RegionOpen
import Derived.OwnWalkIn
import Derived.TacticsInMore
import Derived.LoopNIn
import Derived.LoopIn
import Derived.WalkMore
import Derived.Test.YtnlolliankhfmaaPlain
import Derived.Deep.Cut
set_option linter.unusedVariables false
set_option linter.unusedSimpArgs false
namespace Go.Proofs.Ytnlolliankhfmaa
open Go Go.RowKit Go.Shelf
attribute [local go_sem] Oper.semAt_some

theorem wpIn_scope0 {P : Program} {c : Code} {Q : Exit → Act → World → Prop} {a : Act} {w : World} (h : c.wpIn Fence.wide 0 P (Exit.noGoto Q) a w) : (Code.scope c).wpIn Fence.wide 0 P Q a w :=
  wpIn_wide.2 (wp_scope_straight (wpIn_wide.1 h))
/-- Block b holds the numbers L, as an array. -/
def BlkI (W : World) (b : Nat) (t : TypeId) (L : List Int) : Prop := W.heap[b]? = some (.cells ((L.map (Value.int .i64)).toArray) t (0, 0))
theorem BlkI.cell {W : World} {b : Nat} {t : TypeId} {L : List Int} (h : BlkI W b t L) (j : Nat) (hj : j < L.length) : W.cell? ⟨b, j, none⟩ = some (.int .i64 L[j]) :=
  blk_cell j h (by simp [hj])
theorem BlkI.free {W : World} {b : Nat} {t : TypeId} {L : List Int} (h : BlkI W b t L) (j : Nat) : W.frozen? ⟨b, j, none⟩ = false := blk_free j h
theorem BlkI.set {W : World} {b : Nat} {t : TypeId} {L : List Int} (h : BlkI W b t L) (j : Nat) (x : Int) : BlkI (W.setCell ⟨b, j, none⟩ (.int .i64 x)) b t (L.set j x) := by
  have := blk_set j (.int .i64 x) h
  unfold BlkI
  rw [this]
  simp
theorem BlkI.lt {W : World} {b : Nat} {t : TypeId} {L : List Int} (h : BlkI W b t L) : b < W.heap.size := lt_of_block h
theorem BlkI.same {W W' : World} {b : Nat} {t : TypeId} {L : List Int} (h : BlkI W b t L) (e : W'.heap[b]? = W.heap[b]?) : BlkI W' b t L := e.trans h

/-- The three boxes of the inner closure. -/
structure Box3 (W : World) (bm l bx yy bt bn : Nat) : Prop where
  x : W.heap[bx]? = some (.cells #[.pointer (some ⟨bm, 0, none⟩)] 92 (0, 0))
  y : W.heap[yy]? = some (.cells #[.func (.yield l) #[] #[]] 130 (0, 0))
  n : W.heap[bn]? = some (.cells #[.func (.func 110) #[] #[.pointer (some ⟨bx, 0, none⟩), .pointer (some ⟨yy, 0, none⟩), .pointer (some ⟨bt, 0, none⟩), .pointer (some ⟨bn, 0, none⟩)]] 106 (0, 0))
theorem Box3.same {W W' : World} {bm l bx yy bt bn : Nat} (h : Box3 W bm l bx yy bt bn) (e1 : W'.heap[bx]? = W.heap[bx]?) (e2 : W'.heap[yy]? = W.heap[yy]?) (e3 : W'.heap[bn]? = W.heap[bn]?) : Box3 W' bm l bx yy bt bn :=
  ⟨e1.trans h.x, e2.trans h.y, e3.trans h.n⟩

@[reducible] def five (T : List Int) : Value := .agg #[.int .i64 (T[0]?.getD 0), .int .i64 (T[1]?.getD 0), .int .i64 (T[2]?.getD 0), .int .i64 (T[3]?.getD 0), .int .i64 (T[4]?.getD 0)]
theorem five_of {T : List Int} (h : T.length = 5) : T = [T[0]?.getD 0, T[1]?.getD 0, T[2]?.getD 0, T[3]?.getD 0, T[4]?.getD 0] := by
  match T, h with
  | [a, b, c, d, e], _ => rfl

set_option maxRecDepth 100000 in
set_option maxHeartbeats 4000000 in
theorem MNext_end (ac az aw ap : Option Addr) (cc cz cw cp : Nat) (m : MoList) (c bm l bx yy bt bn : Nat) (t0 t1 t2 t3 t4 : Int) (W : World) (hm : LookC W bm ac az aw ap cc cz cw cp m c) (hb : Box3 W bm l bx yy bt bn) (hT : BlkI W bt 96 [t0, t1, t2, t3, t4])
    (Q : World → Prop) (hy : YieldAt Fence.wide 0 Try.prog l #[.agg #[.int .i64 t0, .int .i64 t1, .int .i64 t2, .int .i64 t3, .int .i64 t4]] W fun e W' => e = .returned (.bool true) ∧ Q W') :
    CallsIn Fence.wide 0 Try.prog 110 #[.int .i64 (m.sums.length : Int), .pointer (some ⟨bx, 0, none⟩), .pointer (some ⟨yy, 0, none⟩), .pointer (some ⟨bt, 0, none⟩), .pointer (some ⟨bn, 0, none⟩)] W fun e W' => e = .returned (.bool true) ∧ Q W' := by
  have l2 := hm.lst.okz.len
  have c1 := hm.c1
  have x0 := blk_cell 0 hb.x rfl
  have y0 := blk_cell 0 hb.y rfl
  have d0 := blk_cell 0 hT rfl
  have d1 := blk_cell 1 hT rfl
  have d2 := blk_cell 2 hT rfl
  have d3 := blk_cell 3 hT rfl
  have d4 := blk_cell 4 hT rfl
  simp only [List.map_cons, List.map_nil, List.getElem_toArray, List.getElem_cons_succ, List.getElem_cons_zero] at x0 y0 d0 d1 d2 d3 d4
  obtain ⟨fn, tmps, assign, body, hyr, hR⟩ := hy
  have HR := Lib.hid hR
  clear hR
  refine callsIn_of_wp Try.func110 rfl trivial ?_ rfl
  simp only [Try.ntmps110, List.size_toArray, List.length_cons, List.length_nil, Nat.reduceAdd, Nat.reduceSub, Array.replicate_succ, Array.replicate_zero, List.push_toArray, List.append_toArray, List.nil_append, List.cons_append]
  gi_wp2
  refine wpIn_scope0 ?_
  gi_wp2
  refine ⟨rfl, HR.out.mono ?_⟩
  rintro e W2 ⟨rfl, hQ⟩
  gi_wp2
  rw [Exit.noGoto_ret]
  go_ret
  exact ⟨rfl, hQ⟩
end Go.Proofs.Ytnlolliankhfmaa
namespace Go.Proofs.Ytnlolliankhfmaa
open Go Go.RowKit Go.Shelf

theorem bit_for : ∀ f : Nat, f < 16 → ∀ k : Nat, k < 5 → (bits BinOp.and IntKind.i64 ((f : Int) / 2 ^ k) 1 == 0) = !f.testBit k := by decide +kernel

theorem blk_ne {W : World} {bm l bx yy bt bn : Nat} {L : List Int} (h : BlkI W bt 96 L) (hb : Box3 W bm l bx yy bt bn) : bt ≠ bx ∧ bt ≠ yy ∧ bt ≠ bn := by
  have h1 := hb.x
  have h2 := hb.y
  have h3 := hb.n
  unfold BlkI at h
  refine ⟨fun e => ?_, fun e => ?_, fun e => ?_⟩
  · rw [e, h1] at h; simp at h
  · rw [e, h2] at h; simp at h
  · rw [e, h3] at h; simp at h
theorem Box3.bd {W : World} {bm l bx yy bt bn : Nat} (h : Box3 W bm l bx yy bt bn) : bx < W.heap.size ∧ yy < W.heap.size ∧ bn < W.heap.size := ⟨lt_of_block h.x, lt_of_block h.y, lt_of_block h.n⟩
theorem allBits_15 (n : Nat) (h : n ≤ 4) : allBits n ≤ 15 := by
  rcases n with _ | _ | _ | _ | _ | n
  · decide
  · decide
  · decide
  · decide
  · decide
  · omega
theorem five_ex (T : List Int) (h : T.length = 5) : ∃ a b c d e, T = [a, b, c, d, e] := by
  match T, h with
  | [a, b, c, d, e], _ => exact ⟨a, b, c, d, e, rfl⟩

set_option maxRecDepth 100000 in
set_option maxHeartbeats 8000000 in
theorem MNext_step (ac az aw ap : Option Addr) (cc cz cw cp : Nat) (m : MoList) (c bm l bx yy bt bn : Nat) (hv : Valid m) (hc : c < 64) (W0 : World) (hbt : W0.heap.size ≤ bt) (all : List (List Int)) (J : List (List Int) → World → Prop) (hJ : ∀ s A A', J s A → Below W0.heap.size A A' → J s A') (hJZ : ∀ s A, J s A → LookC A bm ac az aw ap cc cz cw cp m c)
    (k : Nat) (t : List Int) (hk : t.length + (k + 1) = m.sums.length) (hw : wordsSo (withBits m c) t = true)
    (IH : ∀ (x : Nat) (pre : List (List Int)) (W : World), wordsSo (withBits m c) (t ++ [(x : Int)]) = true → x < m.claimants.length → J pre W → pre ++ dfs (withBits m c) k (t ++ [(x : Int)]) <+: all → Box3 W bm l bx yy bt bn → BlkI W bt 96 (pad 5 (t ++ [(x : Int)])) → W0.heap.size ≤ W.heap.size →
      Calls Try.prog 110 #[.int .i64 ((t.length + 1 : Nat) : Int), .pointer (some ⟨bx, 0, none⟩), .pointer (some ⟨yy, 0, none⟩), .pointer (some ⟨bt, 0, none⟩), .pointer (some ⟨bn, 0, none⟩)] W fun e W' => e = .returned (.bool true) ∧ J (pre ++ dfs (withBits m c) k (t ++ [(x : Int)])) W' ∧ Box3 W' bm l bx yy bt bn ∧ BlkI W' bt 96 (pad 5 (t ++ [(x : Int)])) ∧ W0.heap.size ≤ W'.heap.size)
    (pre : List (List Int)) (W : World) (hj : J pre W) (hpre : pre ++ dfs (withBits m c) (k + 1) t <+: all) (hb : Box3 W bm l bx yy bt bn) (hT : BlkI W bt 96 (pad 5 t)) (hz : W0.heap.size ≤ W.heap.size) :
    Calls Try.prog 110 #[.int .i64 (t.length : Int), .pointer (some ⟨bx, 0, none⟩), .pointer (some ⟨yy, 0, none⟩), .pointer (some ⟨bt, 0, none⟩), .pointer (some ⟨bn, 0, none⟩)] W fun e W' => e = .returned (.bool true) ∧ J (pre ++ dfs (withBits m c) (k + 1) t) W' ∧ Box3 W' bm l bx yy bt bn ∧ BlkI W' bt 96 (pad 5 t) ∧ W0.heap.size ≤ W'.heap.size := by
  have hm := hJZ _ _ hj
  have l1 := hm.lst.okc.len
  have l2 := hm.lst.okz.len
  have v1 := hv.nc
  have v2 := hv.nz
  have hne := eqn_f (a := t.length) (b := m.sums.length) (by omega)
  have HK := Lib.hid hk
  have HW := Lib.hid hw
  have HIH := Lib.hid IH
  have HP := Lib.hid hpre
  have HT0 := Lib.hid hT
  have hs5 : t.length < 5 := by omega
  have hsz : t.length < m.sums.length := by omega
  clear hk hw IH hpre hT
  obtain ⟨s, hs⟩ : ∃ s, s = t.length := ⟨_, rfl⟩
  rw [← hs] at hne hs5 hsz ⊢
  have HS := Lib.hid hs
  clear hs
  have c1 := hm.c1
  have c0 := hm.c0
  have x0 := blk_cell 0 hb.x rfl
  simp only [List.getElem_toArray, List.getElem_cons_zero] at x0
  go_enter Try.func110, Try.ntmps110
  go_wp2
  go_step3
  go_wp2
  go_step3
  go_wp2
  go_loopw [25] (fun i wr => ∃ x : Nat, x ≤ m.claimants.length ∧ i = .int .i64 x ∧ J (pre ++ dfsTo (withBits m c) k t x) wr ∧ (∃ y, BlkI wr bt 96 (pad 5 (t ++ [y]))) ∧ Box3 wr bm l bx yy bt bn ∧ W0.heap.size ≤ wr.heap.size) (fun i _ => m.claimants.length - (intOf i).toNat)
  case atStart => exact ⟨0, Nat.zero_le _, rfl, by rw [dfsTo_zero, List.append_nil]; exact hj, ⟨0, by rw [pad_zero 5 t (by have := HS.out; omega)]; exact HT0.out⟩, hb, hz⟩
  case round =>
    clear x0 c1 c0
    obtain ⟨x, hx, rfl, hj1, ⟨y, hy⟩, hb1, hz1⟩ := hrel
    by_cases hlt : x < m.claimants.length
    · have hy5 : (pad 5 (t ++ [y])).length = 5 := pad_len 5 _ (by have := HS.out; simp; omega)
      have ecell := hy.cell s (by omega)
      have efree := hy.free s
      have hyx : BlkI (wr.setCell ⟨bt, s, none⟩ (.int .i64 (x : Int))) bt 96 (pad 5 (t ++ [(x : Int)])) := by
        have := hy.set s (x : Int)
        rw [HS.out, pad_put 5 t _ _ (by have := HS.out; omega)] at this
        rw [HS.out]
        exact this
      have hbs : Below W0.heap.size wr (wr.setCell ⟨bt, s, none⟩ (.int .i64 (x : Int))) := (Below.refl _ _).setCell (by exact hbt) _
      have hjs := hJ _ _ _ hj1 hbs
      have hzs : W0.heap.size ≤ (wr.setCell ⟨bt, s, none⟩ (.int .i64 (x : Int))).heap.size := Nat.le_trans hz1 hbs.size
      have hbts : bt ≠ bx ∧ bt ≠ yy ∧ bt ≠ bn := blk_ne hy hb1
      have hbx : Box3 (wr.setCell ⟨bt, s, none⟩ (.int .i64 (x : Int))) bm l bx yy bt bn := hb1.same (Below.heap_setCell _ _ _ _ (by exact fun e => hbts.1 e.symm)) (Below.heap_setCell _ _ _ _ (by exact fun e => hbts.2.1 e.symm)) (Below.heap_setCell _ _ _ _ (by exact fun e => hbts.2.2 e.symm))
      go_upto_region 6 with (fail)
      apply wp_mid _ (fun W' => BlkI W' bt 96 (pad 5 (t ++ [(x : Int)])) ∧ J (pre ++ dfsTo (withBits m c) k t x) W' ∧ W0.heap.size ≤ W'.heap.size ∧ Box3 W' bm l bx yy bt bn)
      · go_wp2
        exact ⟨rfl, hyx, hjs, hzs, hbx⟩
      clear hyx hjs hzs hbx hbs ecell efree hy hy5 hj1 hb1 hz1
      rintro w1 ⟨hT1, hj1, hz1, hb1⟩
      have hm1 := hJZ _ _ hj1
      obtain ⟨t0, t1, t2, t3, t4, hTT⟩ := five_ex (pad 5 (t ++ [(x : Int)])) (pad_len 5 _ (by have := HS.out; simp; omega))
      have x0 := blk_cell 0 hb1.x rfl
      simp only [List.getElem_toArray, List.getElem_cons_zero] at x0
      have c1 := hm1.c1
      have HF : Hid (fine (withBits m c) t.length t x = (bitB m.sums[s].for_ x && keptB (withBits m c) [t0, t1, t2, t3, t4] s)) := by
        show _ = _
        have e := HS.out
        subst e
        rw [← hTT]
        exact fine_eq (withBits m c) (valid_bits hv c) t x 5 hs5 hsz HW.out
      have HA := Lib.hid (fun (h : fine (withBits m c) t.length t x = true) => show wordsSo (withBits m c) (t ++ [(x : Int)]) = true from by unfold fine at h; simp only [Bool.and_eq_true] at h; exact h.2)
      have HY := Lib.hid (dfsTo_yes (withBits m c) k t x)
      have HN := Lib.hid (dfsTo_no (withBits m c) k t x)
      have HL := Lib.hid (dfsTo_le (withBits m c) k t (x+1) (m.claimants.length - (x+1)))
      obtain ⟨fo, hfo⟩ : ∃ fo : Nat, m.sums[s].for_ = (fo : Int) := Int.eq_ofNat_of_zero_le (show 0 ≤ m.sums[s].for_ from (by have := (hv.sums s hsz).2.1; omega))
      have hfo15 : fo < 16 := by
        have h1 := (hv.sums s hsz).2.2
        have h2 := allBits_15 m.claimants.length (by omega)
        omega
      have KE := Lib.hid (fun W hW => MKept_any ac az aw ap cc cz cw cp m c bm s [t0, t1, t2, t3, t4] t0 t1 t2 t3 t4 rfl W hW hv hc hsz)
      have NX : Hid (∀ W', fine (withBits m c) t.length t x = true → J (pre ++ dfsTo (withBits m c) k t x) W' → Box3 W' bm l bx yy bt bn → BlkI W' bt 96 [t0, t1, t2, t3, t4] → W0.heap.size ≤ W'.heap.size →
          Calls Try.prog 110 #[.int .i64 ((s : Int) + 1), .pointer (some ⟨bx, 0, none⟩), .pointer (some ⟨yy, 0, none⟩), .pointer (some ⟨bt, 0, none⟩), .pointer (some ⟨bn, 0, none⟩)] W' fun e W'' => e = .returned (.bool true) ∧ J (pre ++ dfsTo (withBits m c) k t (x+1)) W'' ∧ Box3 W'' bm l bx yy bt bn ∧ BlkI W'' bt 96 (pad 5 (t ++ [(x : Int)])) ∧ W0.heap.size ≤ W''.heap.size) := Lib.hid (fun W' hfi hj' hb' hT' hz' => by
        rw [HY.out hfi, ← List.append_assoc]
        have e := HS.out
        have h := HIH.out x (pre ++ dfsTo (withBits m c) k t x) W' (HA.out hfi) hlt hj' (by
          rw [List.append_assoc, ← HY.out hfi]
          refine pre_app HL.out ?_
          rw [show x + 1 + (m.claimants.length - (x + 1)) = m.claimants.length from by omega]
          exact HP.out) hb' (by rw [hTT]; exact hT') hz'
        rw [e]
        exact h)
      clear HIH HP HL HA
      obtain ⟨bz, oz, rfl, hbz, hz1', hz2', hz3'⟩ := hm1.lst.sums s hsz
      rw [hfo] at hz3' HF
      have e1 : bitB (fo : Int) x = fo.testBit x := by unfold bitB; simp
      rw [e1] at HF
      have HB := Lib.hid (bit_for fo hfo15 x (by omega))
      clear e1 hfo hz1' hz2'
      rw [hTT] at hT1
      have d0 := blk_cell 0 hT1 rfl
      have d1 := blk_cell 1 hT1 rfl
      have d2 := blk_cell 2 hT1 rfl
      have d3 := blk_cell 3 hT1 rfl
      have d4 := blk_cell 4 hT1 rfl
      simp only [List.map_cons, List.map_nil, List.getElem_toArray, List.getElem_cons_succ, List.getElem_cons_zero] at d0 d1 d2 d3 d4
      generalize fo.testBit x = tb at HF HB
      cases tb
      · have hbit := HB.out
        simp only [Bool.not_false] at hbit
        go_wp2
        go_roundw
        case rel => exact ⟨x + 1, by omega, by go_num, by rw [HN.out (by rw [HF.out]; rfl)]; exact hj1, ⟨(x : Int), by rw [hTT]; exact hT1⟩, hb1, hz1⟩
        case measure => simp [intOf]; omega
      · have hbit := HB.out
        simp only [Bool.not_true] at hbit
        generalize keptB (withBits m c) [t0, t1, t2, t3, t4] s = kb at HF KE
        have hbb := hb1.bd
        have hT1b := hT1.lt
        cases kb
        · go_wp2_with (go_at_call 111; go_must (refine (KE.out _ hm1).mono ?_; rintro e w2 ⟨rfl, hb2⟩; dsimp only))
          go_roundw
          case rel => exact ⟨x + 1, by omega, by go_num, hJ _ _ _ (by rw [HN.out (by rw [HF.out]; rfl)]; exact hj1) (hb2.mono hz1), ⟨(x : Int), by rw [hTT]; exact hT1.same (hb2.block _ hT1b)⟩, hb1.same (hb2.block _ hbb.1) (hb2.block _ hbb.2.1) (hb2.block _ hbb.2.2), Nat.le_trans hz1 hb2.size⟩
          case measure => simp [intOf]; omega
        · go_wp2_with (first
            | (go_at_call 111; go_must (refine (KE.out _ hm1).mono ?_; rintro e w2 ⟨rfl, hb2⟩; have hb2b := hb1.same (hb2.block _ hbb.1) (hb2.block _ hbb.2.1) (hb2.block _ hbb.2.2); have n0 := blk_cell 0 hb2b.n rfl; simp only [List.getElem_toArray, List.getElem_cons_zero] at n0; dsimp only))
            | (go_at_call 110; go_must (refine (NX.out _ (by rw [HF.out]; rfl) (hJ _ _ _ hj1 (hb2.mono hz1)) hb2b (hT1.same (hb2.block _ hT1b)) (Nat.le_trans hz1 hb2.size)).mono ?_; rintro e w3 ⟨rfl, hj3, hb3, hT3, hz3⟩; dsimp only)))
          go_roundw
          case rel => exact ⟨x + 1, by omega, by go_num, hj3, ⟨(x : Int), hT3⟩, hb3, hz3⟩
          case measure => simp [intOf]; omega
    · obtain rfl : x = m.claimants.length := by omega
      have hy5 : (pad 5 (t ++ [y])).length = 5 := pad_len 5 _ (by have := HS.out; simp; omega)
      have ecell := hy.cell s (by omega)
      have efree := hy.free s
      go_wp2
      rw [Exit.noGoto_ret]
      go_ret
      refine ⟨rfl, hJ _ _ _ hj1 ((Below.refl _ _).setCell (by exact hbt) _), ?_, ?_, Nat.le_trans hz1 (by simp)⟩
      · have hbts : bt ≠ bx ∧ bt ≠ yy ∧ bt ≠ bn := blk_ne hy hb1
        exact hb1.same (Below.heap_setCell _ _ _ _ (by exact fun e => hbts.1 e.symm)) (Below.heap_setCell _ _ _ _ (by exact fun e => hbts.2.1 e.symm)) (Below.heap_setCell _ _ _ _ (by exact fun e => hbts.2.2 e.symm))
      · have := hy.set s 0
        rw [HS.out, pad_reset 5 t _ (by have := HS.out; omega)] at this
        rw [HS.out]
        exact this
end Go.Proofs.Ytnlolliankhfmaa
namespace Go.Proofs.Ytnlolliankhfmaa
open Go Go.RowKit Go.Shelf

theorem MNext_any (ac az aw ap : Option Addr) (cc cz cw cp : Nat) (m : MoList) (c bm l bx yy bt bn B : Nat) (hv : Valid m) (hc : c < 64) (W0 : World) (hbt : W0.heap.size ≤ bt) (hBx : B ≤ bx) (hBy : B ≤ yy) (hBt : B ≤ bt) (hBn : B ≤ bn) (all : List (List Int)) (J : List (List Int) → World → Prop) (hJ : ∀ s A A', J s A → Below W0.heap.size A A' → J s A') (hJZ : ∀ s A, J s A → LookC A bm ac az aw ap cc cz cw cp m c)
    (hY : ∀ pre x W1, J pre W1 → pre ++ [x] <+: all → YieldAt Fence.wide 0 Try.prog l #[five (pad 5 x)] W1 fun e W' => e = .returned (.bool true) ∧ J (pre ++ [x]) W' ∧ Above B W1 W') :
    ∀ (k : Nat) (t : List Int) (pre : List (List Int)) (W : World), t.length + k = m.sums.length → wordsSo (withBits m c) t = true → J pre W → pre ++ dfs (withBits m c) k t <+: all → Box3 W bm l bx yy bt bn → BlkI W bt 96 (pad 5 t) → W0.heap.size ≤ W.heap.size →
    Calls Try.prog 110 #[.int .i64 (t.length : Int), .pointer (some ⟨bx, 0, none⟩), .pointer (some ⟨yy, 0, none⟩), .pointer (some ⟨bt, 0, none⟩), .pointer (some ⟨bn, 0, none⟩)] W fun e W' => e = .returned (.bool true) ∧ J (pre ++ dfs (withBits m c) k t) W' ∧ Box3 W' bm l bx yy bt bn ∧ BlkI W' bt 96 (pad 5 t) ∧ W0.heap.size ≤ W'.heap.size := by
  intro k
  induction k with
  | zero =>
    intro t pre W hk hw hj hpre hb hT hz
    have hl : t.length = m.sums.length := by omega
    have v2 := hv.nz
    obtain ⟨t0, t1, t2, t3, t4, hTT⟩ := five_ex (pad 5 t) (pad_len 5 t (by omega))
    have hy := hY pre t W hj (by simpa [dfs] using hpre)
    rw [hTT] at hy
    have hbd := hb.bd
    have hTl := hT.lt
    have h := MNext_end ac az aw ap cc cz cw cp m c bm l bx yy bt bn t0 t1 t2 t3 t4 W (hJZ _ _ hj) hb (by rw [← hTT]; exact hT)
      (fun W' => J (pre ++ dfs (withBits m c) 0 t) W' ∧ Box3 W' bm l bx yy bt bn ∧ BlkI W' bt 96 (pad 5 t) ∧ W0.heap.size ≤ W'.heap.size)
      (YieldAt.mono hy fun e W' hq => ⟨hq.1, hq.2.1, hb.same (hq.2.2.block _ hBx hbd.1) (hq.2.2.block _ hBy hbd.2.1) (hq.2.2.block _ hBn hbd.2.2), hT.same (hq.2.2.block _ hBt hTl), Nat.le_trans hz hq.2.2.size⟩)
    rw [hl]
    exact callsIn_wide.1 h
  | succ k ih =>
    intro t pre W hk hw hj hpre hb hT hz
    refine MNext_step ac az aw ap cc cz cw cp m c bm l bx yy bt bn hv hc W0 hbt all J hJ hJZ k t hk hw ?_ pre W hj hpre hb hT hz
    intro x pre' W' hw' hx hj' hpre' hb' hT' hz'
    have := ih (t ++ [(x : Int)]) pre' W' (by simp; omega) hw' hj' hpre' hb' hT' hz'
    simpa using this

theorem alloc_at (w : World) (o : Obj) {n : Nat} (h : n = w.heap.size) : (w.alloc o).heap[n]? = some o := by subst h; exact heap_alloc_new w o
theorem wordsSo_nil (m : MoList) (hv : Valid m) : wordsSo m [] = true := by
  unfold wordsSo
  rw [List.all_eq_true]
  intro i hi
  have hi2 : i < m.words.length := by simpa using hi
  simp only [List.getElem?_eq_getElem hi2, Bool.or_eq_true]
  right
  unfold so
  rw [if_pos (by have := (hv.words i hi2).sum; simp; omega)]

set_option maxRecDepth 100000 in
set_option maxHeartbeats 2000000 in
theorem MTruths1_any (ac az aw ap : Option Addr) (cc cz cw cp : Nat) (m : MoList) (c bm l bx B : Nat) (hv : Valid m) (hc : c < 64) (hBx : B ≤ bx) (W : World) (hx : W.heap[bx]? = some (.cells #[.pointer (some ⟨bm, 0, none⟩)] 92 (0, 0))) (hBW : B ≤ W.heap.size) (J : List (List Int) → World → Prop) (hJ : ∀ s A A', J s A → Below W.heap.size A A' → J s A') (hJZ : ∀ s A, J s A → LookC A bm ac az aw ap cc cz cw cp m c)
    (hY : ∀ pre x W1, J pre W1 → pre ++ [x] <+: dfs (withBits m c) m.sums.length [] → YieldAt Fence.wide 0 Try.prog l #[five (pad 5 x)] W1 fun e W' => e = .returned (.bool true) ∧ J (pre ++ [x]) W' ∧ Above B W1 W') (hj : J [] W) :
    Calls Try.prog 109 #[.func (.yield l) #[] #[], .pointer (some ⟨bx, 0, none⟩)] W fun e W' => (∃ v, e = .returned v) ∧ J (dfs (withBits m c) m.sums.length []) W' := by
  obtain ⟨X, hX⟩ : ∃ X, X = (((W.alloc (.cells #[.func (.yield l) #[] #[]] 130)).alloc (.cells #[.int .i64 0, .int .i64 0, .int .i64 0, .int .i64 0, .int .i64 0] 96)).alloc (.cells #[.func (.func 110) #[] #[.pointer (some ⟨bx, 0, none⟩), .pointer (some ⟨W.heap.size, 0, none⟩), .pointer (some ⟨W.heap.size + 1, 0, none⟩), .pointer (some ⟨W.heap.size + 1 + 1, 0, none⟩)]] 106)) := ⟨_, rfl⟩
  have hWX : Below W.heap.size W X := by subst hX; exact ((((Below.refl _ W).alloc (Nat.le_refl _) _).alloc (by simp) _).alloc (by simp; omega) _)
  have hb : Box3 X bm l bx W.heap.size (W.heap.size + 1) (W.heap.size + 1 + 1) := by
    subst hX
    refine ⟨(hWX.block _ (lt_of_block hx)).trans hx, ?_, ?_⟩
    · exact (heap_alloc_old _ _ (by simp; omega)).trans ((heap_alloc_old _ _ (by simp)).trans (heap_alloc_new _ _))
    · exact alloc_at _ _ (by simp)
  have hT : BlkI X (W.heap.size + 1) 96 (pad 5 []) := by
    subst hX
    exact (heap_alloc_old _ _ (by simp)).trans (alloc_at _ _ (by simp))
  have NX : Calls Try.prog 110 #[.int .i64 0, .pointer (some ⟨bx, 0, none⟩), .pointer (some ⟨W.heap.size, 0, none⟩), .pointer (some ⟨W.heap.size + 1, 0, none⟩), .pointer (some ⟨W.heap.size + 1 + 1, 0, none⟩)] X fun e W' => e = .returned (.bool true) ∧ J ([] ++ dfs (withBits m c) m.sums.length []) W' ∧ Box3 W' bm l bx W.heap.size (W.heap.size + 1) (W.heap.size + 1 + 1) ∧ BlkI W' (W.heap.size + 1) 96 (pad 5 []) ∧ W.heap.size ≤ W'.heap.size :=
    MNext_any ac az aw ap cc cz cw cp m c bm l bx W.heap.size (W.heap.size + 1) (W.heap.size + 1 + 1) B hv hc W (by omega) hBx (by omega) (by omega) (by omega) _ J hJ hJZ hY m.sums.length [] [] X (by simp) (wordsSo_nil (withBits m c) (valid_bits hv c)) (hJ _ _ _ hj hWX) (List.prefix_refl _) hb hT hWX.size
  rw [hX, List.nil_append] at NX
  have HN := Lib.hid NX
  clear NX hY hX hb hT hWX
  go_enter Try.func109, Try.ntmps109
  go_wp2_with (go_at_call 110; go_must ((with_reducible refine HN.out.mono ?_); rintro e w2 ⟨rfl, hj2, -, -, -⟩; dsimp only))
  go_end0
  exact ⟨⟨_, rfl⟩, hj2⟩

theorem MTruths_any (bm : Nat) (w : World) : Calls Try.prog 103 #[.pointer (some ⟨bm, 0, none⟩)] w fun e w' => e = .returned (.func (.func 109) #[] #[.pointer (some ⟨w.heap.size, 0, none⟩)]) ∧ w' = w.alloc (.cells #[.pointer (some ⟨bm, 0, none⟩)] 92) := by
  go_enter Try.func103, Try.ntmps103
  go_wp2
  go_ret
  exact ⟨rfl, rfl⟩

/-- truths, as an iterator. -/
theorem MTruths_seq (ac az aw ap : Option Addr) (cc cz cw cp : Nat) (m : MoList) (c bm bx B : Nat) (hv : Valid m) (hc : c < 64) (hBx : B ≤ bx) (w : World) (hx : w.heap[bx]? = some (.cells #[.pointer (some ⟨bm, 0, none⟩)] 92 (0, 0))) :
    SeqT Try.prog 109 #[.pointer (some ⟨bx, 0, none⟩)] (fun t => #[five (pad 5 t)]) B (fun A => LookC A bm ac az aw ap cc cz cw cp m c) (truths (withBits m c)) w := by
  intro l J W hb hsz hJ hJZ hY hj
  have e : truths (withBits m c) = dfs (withBits m c) m.sums.length [] := truths_eq (withBits m c)
  rw [e] at hY ⊢
  have hbx := lt_of_block hx
  exact callsIn_wide.2 (MTruths1_any ac az aw ap cc cz cw cp m c bm l bx B hv hc hBx W ((hb.block _ hbx).trans hx) (by omega) J hJ hJZ hY hj)
end Go.Proofs.Ytnlolliankhfmaa
