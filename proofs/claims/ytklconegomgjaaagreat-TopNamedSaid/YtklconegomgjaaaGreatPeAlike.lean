/- What is proved here: the contracts of look, alike and the first rule of layer 3. Conditions: the town lies in memory and can be looked at. -/
import Derived.Test.YtklconegomgjaaaGreatCmpG
import Derived.Test.YtklconegomgjaaaGreatEaCommonG
set_option linter.unusedVariables false
set_option linter.unusedSimpArgs false
namespace Go.Proofs.YtklconegomgjaaaGreat
open Go Go.RowKit Go.Shelf

set_option maxRecDepth 100000 in
set_option maxHeartbeats 2000000 in
theorem PLook_any (a1 a2 a3 a4 : Option Addr) (k1 k2 k3 k4 : Nat) (t : PeW) (but : Nat) (w : World) (hm : TownC w a1 a2 a3 a4 k1 k2 k3 k4 t) :
    Calls Tryz.prog 41 #[(.agg #[.int .i64 t.ear.sounds, .slice a1 t.ear.alphas.length k1, .slice a2 t.ear.spells.length k2, .int .i64 t.vills, .slice a3 t.ments.length k3, .slice a4 t.ties.length k4]), .int .i64 (but : Int)] w fun e w' => ∃ bt bc bk : Nat, e = .returned (.pointer (some ⟨bt, 0, none⟩)) ∧ TownW w' bt bc bk a1 a2 a3 a4 k1 k2 k3 k4 t but ∧ Below w.heap.size w w' ∧ w.heap.size ≤ bt ∧ w.heap.size ≤ bc ∧ w.heap.size ≤ bk := by
  have hmm := @run_makeMap Tryz.prog
  go_enter Tryz.func41, Tryz.ntmps41
  go_wp2
  obtain ⟨Z, hZ⟩ : ∃ Z : World, Z = (((w.alloc (.cells #[.int .i64 t.ear.sounds, .slice a1 t.ear.alphas.length k1, .slice a2 t.ear.spells.length k2, .int .i64 t.vills, .slice a3 t.ments.length k3, .slice a4 t.ties.length k4] 29)).alloc (.map #[] 0)).alloc (.map #[] 0)).alloc (.cells #[.int .i64 t.ear.sounds, .slice a1 t.ear.alphas.length k1, .slice a2 t.ear.spells.length k2, .int .i64 t.vills, .slice a3 t.ments.length k3, .slice a4 t.ties.length k4, .int .i64 (but : Int), .map (some (w.heap.size + 1)), .map (some (w.heap.size + 1 + 1))] 166) := ⟨_, rfl⟩
  rw [← hZ]
  have hb : Below w.heap.size w Z := by rw [hZ]; exact ((((Below.refl _ _).alloc (Nat.le_refl _) _).alloc (by simp) _).alloc (by simp; omega) _).alloc (by simp; omega) _
  have hT : TownW Z (w.heap.size + 1 + 1 + 1) (w.heap.size + 1) (w.heap.size + 1 + 1) a1 a2 a3 a4 k1 k2 k3 k4 t but := by
    refine ⟨hm.mono hb, ?_, ⟨[], ?_, com_nil t⟩, ⟨[], ?_, kno_nil t⟩, by omega⟩
    · unfold TBlk
      rw [hZ]
      exact alloc_atE _ _ (by simp)
    · have := MapV.made (w.alloc (.cells #[.int .i64 t.ear.sounds, .slice a1 t.ear.alphas.length k1, .slice a2 t.ear.spells.length k2, .int .i64 t.vills, .slice a3 t.ments.length k3, .slice a4 t.ties.length k4] 29)) Tryz.prog 3
      rw [hZ]
      refine MapV.same (by simpa using this) ?_
      exact (heap_alloc_old _ _ (by simp)).trans (heap_alloc_old _ _ (by simp))
    · have := MapV.made ((w.alloc (.cells #[.int .i64 t.ear.sounds, .slice a1 t.ear.alphas.length k1, .slice a2 t.ear.spells.length k2, .int .i64 t.vills, .slice a3 t.ments.length k3, .slice a4 t.ties.length k4] 29)).alloc (.map #[] 0)) Tryz.prog 109
      rw [hZ]
      refine MapV.same (by simpa using this) ?_
      exact heap_alloc_old _ _ (by simp)
  clear hZ
  go_ret
  exact ⟨_, _, _, rfl, hT, hb, by omega, by omega, by omega⟩
theorem comV_eq1 (t : PeW) (s : Nat) : (comV t s == 1) = aliveB t s := by unfold comV; cases aliveB t s <;> rfl
theorem comV_eq0 (t : PeW) (s : Nat) : (comV t s == 0) = false := by unfold comV; cases aliveB t s <;> rfl
set_option maxRecDepth 100000 in
set_option maxHeartbeats 2000000 in
theorem PAlike_old (a1 a2 a3 a4 : Option Addr) (k1 k2 k3 k4 : Nat) (t : PeW) (bt bc bk but set : Nat) (w : World) (hm : TownW w bt bc bk a1 a2 a3 a4 k1 k2 k3 k4 t but) (hs : set < 32) {T : List (Value × Value)} (hT : MapV w Tryz.prog 3 bc T) (hC : ComOk t T) (hin : ∃ p ∈ T, p.1 = Value.int .i64 (set : Int)) :
    Calls Tryz.prog 137 #[.pointer (some ⟨bt, 0, none⟩), .int .i64 (set : Int)] w fun e w' => e = .returned (.bool (aliveB t set)) ∧ w' = w := by
  obtain ⟨y0, y1, y2, y3, y4, y5, y6, y7, y8, yz⟩ := hm.cells
  have hl : (Instr.lookup 163 (.map (some bc)) (.int .i64 (set : Int)) false).run Tryz.prog w = .ok (.int .i64 (comV t set)) w := by
    rcases hT.get key_intE map_common (key_numE set (by omega)) (zero_intE w) with ⟨h1, _⟩ | ⟨j, v, h1, h2⟩
    · obtain ⟨p, hp, e⟩ := hin
      exact absurd e (h1 p hp)
    · rw [h2, hC.get (List.mem_of_getElem? h1)]
  have e0 := comV_eq0 t set
  have e1 := comV_eq1 t set
  generalize comV t set = v at hl e0 e1
  generalize aliveB t set = r at e1 ⊢
  clear hm hT hC hin
  go_enter Tryz.func137, Tryz.ntmps137
  go_wp2
  go_ret
  exact ⟨rfl, rfl⟩
set_option maxRecDepth 100000 in
set_option maxHeartbeats 4000000 in
theorem PAlike_new (a1 a2 a3 a4 : Option Addr) (k1 k2 k3 k4 : Nat) (t : PeW) (bt bc bk but set : Nat) (w : World) (hm : TownW w bt bc bk a1 a2 a3 a4 k1 k2 k3 k4 t but) (hv : PeOk t) (hs : set < 2 ^ t.ear.spells.length) (h0 : set ≠ 0) {T : List (Value × Value)} (hT : MapV w Tryz.prog 3 bc T) (hC : ComOk t T) (hnew : ∀ p ∈ T, p.1 ≠ Value.int .i64 (set : Int)) :
    Calls Tryz.prog 137 #[.pointer (some ⟨bt, 0, none⟩), .int .i64 (set : Int)] w fun e w' => e = .returned (.bool (aliveB t set)) ∧ Lrn bc bk w w' ∧ TownW w' bt bc bk a1 a2 a3 a4 k1 k2 k3 k4 t but := by
  have hns := hv.ear.ns
  have hs32 : set < 32 := Nat.lt_of_lt_of_le hs (Nat.pow_le_pow_right (n := 2) (by omega) hns)
  have hk := key_numE set (by omega)
  obtain ⟨y0, y1, y2, y3, y4, y5, y6, y7, y8, yz⟩ := hm.cells
  have hl : (Instr.lookup 163 (.map (some bc)) (.int .i64 (set : Int)) false).run Tryz.prog w = .ok (.int .i64 0) w := by
    rcases hT.get key_intE map_common hk (zero_intE w) with ⟨_, h2⟩ | ⟨j, v, h1, _⟩
    · exact h2
    · exact absurd rfl (hnew _ (List.mem_of_getElem? h1))
  obtain ⟨w1, hrun, hM1, hg1, hs1⟩ := hT.update key_intE map_common (by have hmx : maxLen = 9223372036854775807 := rfl; have := hC.len; omega) hk hnew (val := .int .i64 2)
  have hL1 : Lrn bc bk w w1 := .of_common hg1
  have hB1 := hL1.cellsB hm hm.blk
  have hT1 := hm.town.keep (hL1.keeps hm)
  have z0 := blk_cell 0 hB1 rfl
  have z1 := blk_cell 1 hB1 rfl
  have z2 := blk_cell 2 hB1 rfl
  have z3 := blk_cell 7 hB1 rfl
  have zz := lt_of_block hB1
  simp only [List.getElem_toArray, List.getElem_cons_zero, List.getElem_cons_succ] at z0 z1 z2 z3
  have HB1 := Lib.hid hB1
  have HHM := Lib.hid hm
  have HG1 := Lib.hid hg1
  have HT1 := Lib.hid hT1
  have HM1 := Lib.hid hM1
  have HC := Lib.hid hC
  have HNW := Lib.hid hnew
  have hle := hm.town.book.oks.len
  clear hm hT hC hnew hB1 hT1 hM1 hg1 y0 y1 y2 y3 y4 y5 y6 y8
  go_enter Tryz.func137, Tryz.ntmps137
  go_upto_region 3 with (fail)
  have KE := Lib.hid (fun (V : World) (hb : Below w1.heap.size w1 V) => (show Below w1.heap.size w1 V ∧ V.cell? ⟨bt, 0, none⟩ = some (.int .i64 t.ear.sounds) ∧ V.cell? ⟨bt, 1, none⟩ = some (.slice a1 t.ear.alphas.length k1) ∧ V.cell? ⟨bt, 2, none⟩ = some (.slice a2 t.ear.spells.length k2) ∧ bt < V.heap.size from ⟨hb, cell_below hb z0, cell_below hb z1, cell_below hb z2, Nat.lt_of_lt_of_le zz hb.size⟩))
  have NU := Lib.hid (fun (V : World) => PNumbersN_any set t.ear.spells.length (by omega) (by omega) V)
  have CO := Lib.hid (fun (V : World) (hb : Below w1.heap.size w1 V) (a : Option Addr) (c : Nat) (ho : SlOk a (bitsList set t.ear.spells.length).length c) (hi : IntsC V a (bitsList set t.ear.spells.length)) => (show Calls Tryz.prog 25 #[.agg #[.int .i64 t.ear.sounds, .slice a1 t.ear.alphas.length k1, .slice a2 t.ear.spells.length k2], .slice a (bitsList set t.ear.spells.length).length c] V fun e w' => ∃ v, e = .returned (.tuple #[v, .int .i64 (if aliveB t set = true then 0 else 9)]) ∧ Below V.heap.size V w' from by
    have := ECommon_any a1 a2 k1 k2 t.ear a (bitsList set t.ear.spells.length) c V ((HT1.out.mono hb).book) hv.ear ho hi (bits_incr _ _) (fun e => by
      have := setOf_numbers hs
      rw [e] at this
      exact h0 this.symm)
    rw [setOf_numbers hs] at this
    refine this.mono ?_
    rintro e w' ⟨v, rfl, _, hb'⟩
    refine ⟨v, ?_, hb'⟩
    unfold aliveB
    cases (comN t.ear set).isEmpty <;> rfl))
  have hg0 : Below w1.heap.size w1 w1.drew := below_drew' (Below.refl _ _)
  (focus go_region_held3 (fun V => Below w1.heap.size w1 V ∧ V.cell? ⟨bt, 0, none⟩ = some (.int .i64 t.ear.sounds) ∧ V.cell? ⟨bt, 1, none⟩ = some (.slice a1 t.ear.alphas.length k1) ∧ V.cell? ⟨bt, 2, none⟩ = some (.slice a2 t.ear.spells.length k2) ∧ bt < V.heap.size) (first | exact KE.out _ hg2 | exact KE.out _ hg1 | exact KE.out _ hg0) (first
    | (go_at_call 25; refine (CO.out _ hg1 _ _ hso hin).mono ?_; rintro e w3 ⟨v, rfl, hb3⟩; have hg2 := hg1.trans (hb3.mono hg1.size); dsimp only)
    | (go_at_call 59; refine (NU.out _).mono ?_; rintro e w2 ⟨v2, rfl, hn2, hb2⟩; obtain ⟨ad, cc, rfl, hso, hin, hnl⟩ := hn2; have hg1 := hg0.trans (hb2.mono hg0.size); dsimp only)))
  have hM3 := (HM1.out).below hg2 HM1.out.lt
  have hg3 : w.grownBy w3 (some bc) := grown_belowE HG1.out hg2 (by omega)
  have c7 := cell_below hg2 z3
  have cz := Nat.lt_of_lt_of_le zz hg2.size
  have HM3 := Lib.hid hM3
  have HG3 := Lib.hid hg3
  clear KE NU CO hg0 hg1 hg2 hb2 hb3 hM3 hg3 hL1 hl hrun z0 z1 z2 z3 zz hso hin y7 yz
  cases hr : aliveB t set
  · have hv2 : comV t set = 2 := by unfold comV; rw [hr]; rfl
    have hC2 := HC.out.more hs32 HNW.out
    rw [hv2] at hC2
    have hl2 : (Instr.lookup 163 (.map (some bc)) (.int .i64 (set : Int)) false).run Tryz.prog w3 = .ok (.int .i64 2) w3 := by
      rcases HM3.out.get key_intE map_common hk (zero_intE w3) with ⟨h1, _⟩ | ⟨j, v, h1, h2⟩
      · exact absurd rfl (h1 (Value.int .i64 (set : Int), Value.int .i64 2) (by simp))
      · have := hC2.get (List.mem_of_getElem? h1)
        rw [hv2] at this
        rw [h2, this]
    have HR := Lib.hid (show Lrn bc bk w w3 ∧ TownW w3 bt bc bk a1 a2 a3 a4 k1 k2 k3 k4 t but from ⟨.of_common HG3.out, HHM.out.learn_common HG3.out ⟨_, HM3.out, hC2⟩⟩)
    clear hC2 hk
    simp only [Bool.false_eq_true, if_false]
    go_wp2
    go_ret
    exact ⟨by rw [hr]; rfl, HR.out⟩
  · have hv2 : comV t set = 1 := by unfold comV; rw [hr]; rfl
    have hC2 := HC.out.more hs32 HNW.out
    rw [hv2] at hC2
    obtain ⟨j, v0, w4, hj, hrun, hM4, hg4, hs4⟩ := HM3.out.again key_intE map_common hk (val := .int .i64 1) ⟨(Value.int .i64 (set : Int), Value.int .i64 2), by simp, rfl⟩
    have hjT : j = T.length := by
      obtain ⟨hlt, he⟩ := List.getElem?_eq_some_iff.1 hj
      have h1 : j < T.length + 1 := by simpa using hlt
      apply Classical.byContradiction
      intro hne
      have h2 : j < T.length := by omega
      rw [List.getElem_append_left h2] at he
      exact HNW.out _ (List.getElem_mem h2) (by rw [he])
    subst hjT
    have hset : (T ++ [(Value.int .i64 (set : Int), Value.int .i64 2)]).set T.length (Value.int .i64 (set : Int), Value.int .i64 1) = T ++ [(Value.int .i64 (set : Int), Value.int .i64 1)] := by
      rw [List.set_append_right _ _ (Nat.le_refl _), Nat.sub_self]
      rfl
    rw [hset] at hM4
    have hl2 : (Instr.lookup 163 (.map (some bc)) (.int .i64 (set : Int)) false).run Tryz.prog w4 = .ok (.int .i64 1) w4 := by
      rcases hM4.get key_intE map_common hk (zero_intE w4) with ⟨h1, _⟩ | ⟨j, v, h1, h2⟩
      · exact absurd rfl (h1 (Value.int .i64 (set : Int), Value.int .i64 1) (by simp))
      · have := hC2.get (List.mem_of_getElem? h1)
        rw [hv2] at this
        rw [h2, this]
    have hg5 := grown_transE HG3.out hg4
    have HR := Lib.hid (show Lrn bc bk w w4 ∧ TownW w4 bt bc bk a1 a2 a3 a4 k1 k2 k3 k4 t but from ⟨.of_common hg5, HHM.out.learn_common hg5 ⟨_, hM4, hC2⟩⟩)
    have d7 : w4.cell? ⟨bt, 7, none⟩ = some (.map (some bc)) := (HR.out.2.cells).2.2.2.2.2.2.2.1
    have dz := HR.out.2.bt_lt
    clear hC2 hM4 hg4 hg5 hk hj
    simp only [if_true]
    go_wp2
    go_ret
    exact ⟨by rw [hr]; rfl, HR.out⟩
theorem PAlike_any (a1 a2 a3 a4 : Option Addr) (k1 k2 k3 k4 : Nat) (t : PeW) (bt bc bk but set : Nat) (w : World) (hm : TownW w bt bc bk a1 a2 a3 a4 k1 k2 k3 k4 t but) (hv : PeOk t) (hs : set < 2 ^ t.ear.spells.length) (h0 : set ≠ 0) :
    Calls Tryz.prog 137 #[.pointer (some ⟨bt, 0, none⟩), .int .i64 (set : Int)] w fun e w' => e = .returned (.bool (aliveB t set)) ∧ Lrn bc bk w w' ∧ TownW w' bt bc bk a1 a2 a3 a4 k1 k2 k3 k4 t but := by
  obtain ⟨T, hT, hC⟩ := hm.common
  by_cases hin : ∃ p ∈ T, p.1 = Value.int .i64 (set : Int)
  · refine (PAlike_old a1 a2 a3 a4 k1 k2 k3 k4 t bt bc bk but set w hm (Nat.lt_of_lt_of_le hs (Nat.pow_le_pow_right (n := 2) (by omega) hv.ear.ns)) hT hC hin).mono ?_
    rintro e w' ⟨rfl, rfl⟩
    exact ⟨rfl, Lrn.refl _ _ _, hm⟩
  · exact PAlike_new a1 a2 a3 a4 k1 k2 k3 k4 t bt bc bk but set w hm hv hs h0 hT hC (fun p hp e => hin ⟨p, hp, e⟩)
end Go.Proofs.YtklconegomgjaaaGreat
