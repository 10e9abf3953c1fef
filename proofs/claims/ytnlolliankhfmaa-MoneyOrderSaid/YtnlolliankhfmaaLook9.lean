/- What is proved here: the contract of enter; the length of a map. Conditions: the list lies in memory; lengths. -/
import Derived.Test.YtnlolliankhfmaaLook8
import Derived.Test.YtnlolliankhfmaaMoney10
import Derived.Test.YtnlolliankhfmaaPlain
set_option linter.unusedVariables false
set_option linter.unusedSimpArgs false
namespace Go.Proofs.Ytnlolliankhfmaa
open Go Go.RowKit

theorem MapV.len {P : Program} {k t e : TypeId} {w : World} {b : Nat} {T : List (Value × Value)} (h : MapV w P k b T) (ht : P.underlying t = some (.map k e)) (ty : TypeId) :
    (Builtin.len_ #[t] ty #[.map (some b)]).run P w = .ok (.int .i64 (T.length : Int)) w := by
  obtain ⟨es, clock, hb, _, _, rfl⟩ := h
  simp [Builtin.len_, run_underlying ht, MapKept.run_getObj_map hb, goInt, Result.andThen]
theorem wpList_len_v {P : Program} {w : World} {ops : Array Oper} {rest : List Oper} {o : Oper} {a : Act} {Q : Exit → Act → World → Prop} (hg : o.guard = none) (m : Operand) (t : TypeId) (hop : o.op = Op.call { callee := Callee.builtin Builtin.len, args := #[m], argTypes := #[t] })
    (k e : TypeId) (ht : P.underlying t = some (.map k e)) (b : Nat) (T : List (Value × Value)) (hm : a.eval m = .map (some b)) (hown : MapV w P k b T)
    (hK : wpList P ops Q rest (a.put o.dst (.int .i64 (T.length : Int))) w) :
    wpList P ops Q (o :: rest) a w := by
  refine wpList_plain hg fun K' hK' => ?_
  unfold Oper.wp
  simp [execOp, hop, resolve, invoke, builtin, hm, hown.len ht o.type, Result.andThen]
  exact hK' _ _ hK

theorem ents_len (m : MoList) (T : List (List Int)) : (ents m T).length = T.length := by simp [ents]

set_option maxRecDepth 100000 in
set_option maxHeartbeats 4000000 in
theorem MEnter2_any (ac az aw ap : Option Addr) (cc cz cw cp : Nat) (m : MoList) (many : Int) (a : Option Addr) (ns : List Int) (c : Nat) (w : World) (hm : ListC w ac az aw ap cc cz cw cp m) (h1 : 0 ≤ many) (h2 : many ≤ 9223372036854775807) (hl : ns.length ≤ 9223372036854775807) (hns : IntsC w a ns) :
    Calls Try.prog 74 #[(.agg #[.slice ac m.claimants.length cc, .slice az m.sums.length cz, .slice aw m.words.length cw, .slice ap m.paid.length cp]), .int .i64 many, .slice a ns.length c] w fun e w' => ∃ v, e = .returned (.tuple #[v, .int .i64 (enterErr m many ns)]) ∧ (enterErr m many ns = 0 → ∃ bm bo : Nat, v = .pointer (some ⟨bm, 0, none⟩) ∧ LookW w' bm bo ac az aw ap cc cz cw cp m (lookBits m 0)) ∧ Below w.heap.size w w' ∧ (enterErr m many ns ≠ 0 → v = .pointer none) := by
  have HE : Hid (enterErr m many ns = if errOf m = 0 then (if ns.any (outB 0 (many - 1)) then 4 else if (truths m).length = 0 then 8 else 0) else errOf m) := rfl
  have HV := Lib.hid (fun h : errOf m = 0 => valid_of h)
  have hQ := Below.refl (w.heap.size + 1) (w.alloc (.cells #[.slice ac m.claimants.length cc, .slice az m.sums.length cz, .slice aw m.words.length cw, .slice ap m.paid.length cp] 27))
  obtain ⟨c0, c1, c2, c3⟩ := box_four hQ
  have hbz := box_size hQ
  have C := MCheck_any ac az aw ap cc cz cw cp m (w.alloc (.cells #[.slice ac m.claimants.length cc, .slice az m.sums.length cz, .slice aw m.words.length cw, .slice ap m.paid.length cp] 27)) (hm.mono (box_old hQ))
  have hce : (check m).2.2 = errOf m := rfl
  rw [hce] at C
  clear hce
  generalize (check m).1 = q1 at C
  generalize (check m).2.1 = q2 at C
  have C := Lib.hid C
  have B := fun (W : World) (h : Below w.heap.size w W) => MBeyond_any a ns c 0 (many - 1) W hl (hns.mono h)
  have L := fun (h : errOf m = 0) (W : World) (hb : Below w.heap.size w W) => MLook_any ac az aw ap cc cz cw cp m 0 W (hm.mono hb) (HV.out h) (by decide)
  have L := Lib.hid L
  generalize enterErr m many ns = r at HE ⊢
  generalize errOf m = er at C HE HV L
  by_cases he : er = 0
  · have g1 := nei_f he
    have HE := Lib.hid (HE.out.trans (if_pos he))
    have L := Lib.hid (L.out he)
    have hw : many - 1 ≤ 9223372036854775807 := by omega
    generalize ns.any (outB 0 (many - 1)) = ob at B HE
    have B := Lib.hid B
    cases ob
    · have HM := Lib.hid (look_none m)
      generalize hn : (truths m).length = tn at HE
      have HTN := Lib.hid hn
      clear hn he
      by_cases h0 : tn = 0
      all_goals
        (first | have k0 := eqn_t h0 | have k0 := eqn_f h0)
        have HX := Lib.hid h0
        clear h0
        go_enter Try.func74, Try.ntmps74
        go_wp2_with (first
          | (at_len; go_must (refine wpList_len_v rfl (.tmp 32) _ rfl _ _ key_map bo _ rfl hLW.map ?_; rw [ents_len, HM.out, HTN.out]; simp only [Act.put, List.setIfInBounds_toArray, List.set_cons_succ, List.set_cons_zero]))
          | (go_at_call 85; go_must (refine (L.out _ (box_old hQ3)).mono ?_; rintro e w4 ⟨bm, bo, rfl, hLW, hb4⟩; have hQ4 := box_on hQ3 hb4; have c5 := hLW.blk.cells.2.2.2.2.2; have hbm := hLW.blk.lt; dsimp only))
          | (go_at_call 65; go_must (refine (B.out _ (box_old hQ2)).mono ?_; rintro e w3 ⟨rfl, hb3⟩; have hQ3 := box_on hQ2 hb3; obtain ⟨e0, e1, e2, e3⟩ := box_four hQ3; have hbz3 := box_size hQ3; dsimp only))
          | (go_at_call 16; go_must (refine C.out.mono ?_; rintro e w2 ⟨rfl, hb2⟩; have hQ2 := box_on hQ hb2; obtain ⟨d0, d1, d2, d3⟩ := box_four hQ2; have hbz2 := box_size hQ2; dsimp only)))
      · go_ret2
        have hr := HE.out
        simp only [Bool.false_eq_true, if_false, HX.out, if_true] at hr
        subst hr
        exact ⟨_, rfl, (fun h => by simp at h), box_old hQ4, fun _ => rfl⟩
      · go_ret2
        have hr := HE.out
        simp only [Bool.false_eq_true, if_false, HX.out] at hr
        subst hr
        exact ⟨_, rfl, (fun _ => ⟨bm, bo, rfl, hLW⟩), box_old hQ4, fun h => absurd rfl h⟩
    · go_enter Try.func74, Try.ntmps74
      go_wp2_with (first
        | (go_at_call 65; go_must (refine (B.out _ (box_old hQ2)).mono ?_; rintro e w3 ⟨rfl, hb3⟩; have hQ3 := box_on hQ2 hb3; dsimp only))
        | (go_at_call 16; go_must (refine C.out.mono ?_; rintro e w2 ⟨rfl, hb2⟩; have hQ2 := box_on hQ hb2; obtain ⟨d0, d1, d2, d3⟩ := box_four hQ2; have hbz2 := box_size hQ2; dsimp only)))
      go_ret2
      have hr := HE.out
      simp only [if_true] at hr
      subst hr
      exact ⟨_, rfl, (fun h => by simp at h), box_old hQ3, fun _ => rfl⟩
  · have g1 := nei_t he
    have HE := Lib.hid (HE.out.trans (if_neg he))
    have HX := Lib.hid he
    clear he
    go_enter Try.func74, Try.ntmps74
    go_wp2_with (go_at_call 16; go_must (refine C.out.mono ?_; rintro e w2 ⟨rfl, hb2⟩; have hQ2 := box_on hQ hb2; dsimp only))
    go_ret2
    have hr := HE.out
    subst hr
    exact ⟨_, rfl, (fun h => absurd h HX.out), box_old hQ2, fun _ => rfl⟩
theorem MEnter_any (ac az aw ap : Option Addr) (cc cz cw cp : Nat) (m : MoList) (many : Int) (a : Option Addr) (ns : List Int) (c : Nat) (w : World) (hm : ListC w ac az aw ap cc cz cw cp m) (h1 : 0 ≤ many) (h2 : many ≤ 9223372036854775807) (hl : ns.length ≤ 9223372036854775807) (hns : IntsC w a ns) :
    Calls Try.prog 74 #[(.agg #[.slice ac m.claimants.length cc, .slice az m.sums.length cz, .slice aw m.words.length cw, .slice ap m.paid.length cp]), .int .i64 many, .slice a ns.length c] w fun e w' => ∃ v, e = .returned (.tuple #[v, .int .i64 (enterErr m many ns)]) ∧ (enterErr m many ns = 0 → ∃ bm bo : Nat, v = .pointer (some ⟨bm, 0, none⟩) ∧ LookW w' bm bo ac az aw ap cc cz cw cp m (lookBits m 0)) ∧ Below w.heap.size w w' :=
  (MEnter2_any ac az aw ap cc cz cw cp m many a ns c w hm h1 h2 hl hns).mono fun _ _ ⟨v, h1, h2, h3, _⟩ => ⟨v, h1, h2, h3⟩
end Go.Proofs.Ytnlolliankhfmaa
