/- What is proved here: the contract of enter: a hall is looked at, if it and a plan are fine. Conditions: the hall and the plan lie in memory; the plan is not long. -/
import Derived.Test.YtchnpekgmkhacaaDeConcat
import Derived.Test.YtchnpekgmkhacaaDeCheck
import Derived.Laws.EntriesVeiled
set_option linter.unusedVariables false
set_option linter.unusedSimpArgs false
namespace Go.Proofs.Ytchnpekgmkhacaa
open Go Go.RowKit Go.Shelf

theorem store_fnD (P : Program) (w : World) (a : Addr) (m : Mode) (fn : Fn) (first captured : Array Value) : (store a (.func fn first captured) m).run P w = stored P w a (.func fn first captured) m := run_store P w a _ m rfl
attribute [local go_sem] store_fnD
def flawB (h : DeH) (p : List (List Int)) : Nat → Bool
  | 0 => decide (p.length ≠ h.writers.length)
  | 1 => !p.flatten.all fun c => inB c 0 ((h.customers.length : Int) - 1)
  | 2 => twiceB p.flatten
  | 3 => wrongB h 0 p
  | _ => decide (p.flatten.length < h.customers.length)
def flawE : Nat → Int
  | 0 => 3
  | 1 => 4
  | 2 => 5
  | 3 => 2
  | _ => 8
def flawF : Nat → Nat
  | 0 => 105
  | 1 => 106
  | 2 => 109
  | 3 => 112
  | _ => 114
theorem flaw_zero {h : DeH} {p : List (List Int)} (h0 : flawB h p 0 = false) : p.length = h.writers.length := by
  unfold flawB at h0
  simpa using h0
theorem flaw_err {h : DeH} {p : List (List Int)} (he : deErr h = 0) {k : Nat} (hk : k < 5) (hz : ∀ j, j < k → flawB h p j = false) (hb : flawB h p k = true) : dePlanErr h p = flawE k := by
  unfold dePlanErr
  rw [if_pos he]
  obtain rfl | rfl | rfl | rfl | rfl : k = 0 ∨ k = 1 ∨ k = 2 ∨ k = 3 ∨ k = 4 := by omega
  · have : ¬ p.length = h.writers.length := by simpa [flawB] using hb
    rw [if_neg this]; rfl
  · rw [if_pos (flaw_zero (hz 0 (by omega)))]
    have : ¬ (p.flatten.all fun c => inB c 0 ((h.customers.length : Int) - 1)) = true := by
      have hb2 : (!p.flatten.all fun c => inB c 0 ((h.customers.length : Int) - 1)) = true := hb
      rw [Bool.not_eq_true'] at hb2; rw [hb2]; simp
    rw [if_neg this]; rfl
  · have h1 : (!p.flatten.all fun c => inB c 0 ((h.customers.length : Int) - 1)) = false := hz 1 (by omega)
    rw [Bool.not_eq_false'] at h1
    have h2 : twiceB p.flatten = true := hb
    rw [if_pos (flaw_zero (hz 0 (by omega))), if_pos h1, if_pos h2]; rfl
  · have h1 : (!p.flatten.all fun c => inB c 0 ((h.customers.length : Int) - 1)) = false := hz 1 (by omega)
    rw [Bool.not_eq_false'] at h1
    have h2 : twiceB p.flatten = false := hz 2 (by omega)
    have h3 : wrongB h 0 p = true := hb
    rw [if_pos (flaw_zero (hz 0 (by omega))), if_pos h1, h2, if_neg (by simp), if_pos h3]; rfl
  · have h1 : (!p.flatten.all fun c => inB c 0 ((h.customers.length : Int) - 1)) = false := hz 1 (by omega)
    rw [Bool.not_eq_false'] at h1
    have h2 : twiceB p.flatten = false := hz 2 (by omega)
    have h3 : wrongB h 0 p = false := hz 3 (by omega)
    have h4 : decide (p.flatten.length < h.customers.length) = true := hb
    rw [if_pos (flaw_zero (hz 0 (by omega))), if_pos h1, h2, if_neg (by simp), h3, if_neg (by simp), if_pos (of_decide_eq_true h4)]; rfl
theorem flaw_ok {h : DeH} {p : List (List Int)} (he : deErr h = 0) (hz : ∀ j, j < 5 → flawB h p j = false) : dePlanErr h p = 0 := by
  unfold dePlanErr
  rw [if_pos he]
  have h1 : (!p.flatten.all fun c => inB c 0 ((h.customers.length : Int) - 1)) = false := hz 1 (by omega)
  rw [Bool.not_eq_false'] at h1
  have h2 : twiceB p.flatten = false := hz 2 (by omega)
  have h3 : wrongB h 0 p = false := hz 3 (by omega)
  have h4 : decide (p.flatten.length < h.customers.length) = false := hz 4 (by omega)
  rw [if_pos (flaw_zero (hz 0 (by omega))), if_pos h1, h2, if_neg (by simp), h3, if_neg (by simp), if_neg (of_decide_eq_false h4)]
theorem flat_few {h : DeH} {p : List (List Int)} (hv : DeValid h) (h1 : flawB h p 1 = false) (h2 : flawB h p 2 = false) : p.flatten.length ≤ 5 := by
  have h1' : (!p.flatten.all fun c => inB c 0 ((h.customers.length : Int) - 1)) = false := h1
  rw [Bool.not_eq_false', List.all_eq_true] at h1'
  have hn := twice_iff.1 (show twiceB p.flatten = false from h2)
  have := hv.nc
  have hm := nodup_below h.customers.length (p.flatten.map Int.toNat) (by
    rw [List.Nodup, List.pairwise_map]
    refine List.Pairwise.imp_of_mem (fun {a b} ha hb hne e => hne ?_) hn
    have := inB_iff.1 (h1' a ha)
    have := inB_iff.1 (h1' b hb)
    omega) (fun x hx => by
      obtain ⟨c, hc, rfl⟩ := List.mem_map.1 hx
      have := inB_iff.1 (h1' c hc)
      omega)
  rw [List.length_map] at hm
  omega
theorem full_lt8 {h : DeH} (hv : DeValid h) : fullW h < 8 := by
  have := Nat.pow_le_pow_right (n := 2) (by omega) hv.nw
  have := pow_pred h.writers.length
  show 2 ^ h.writers.length - 1 < 8
  omega
/-- Each flaw's contract, where none was before. -/
theorem DFlawK_any (aw ac : Option Addr) (kw kc : Nat) (h : DeH) (bm bo : Nat) (ad : Option Addr) (p : List (List Int)) (cp : Nat) (k : Nat) (hk : k < 5) (w : World) (hm : HallW w bm bo aw ac kw kc h (fullW h) (fullC h)) (hv : DeValid h) (hz : ∀ j, j < k → flawB h p j = false) (hc : SlOk ad p.length cp) (hsz : p.flatten.length ≤ 1048576) (hi : RowsC w ad p) :
    Calls Try.prog (flawF k) #[.pointer (some ⟨bm, 0, none⟩), .slice ad p.length cp] w fun e w' => e = .returned (.bool (flawB h p k)) ∧ Below w.heap.size w w' := by
  have hp : 0 < k → p.length = h.writers.length := fun h0 => flaw_zero (hz 0 h0)
  have hl : 0 < k → p.length ≤ 3 := fun h0 => by rw [hp h0]; exact hv.nw
  obtain rfl | rfl | rfl | rfl | rfl : k = 0 ∨ k = 1 ∨ k = 2 ∨ k = 3 ∨ k = 4 := by omega
  · exact DFlaw1_any aw ac kw kc h bm bo _ _ ad p cp w hm hc.len
  · exact DFlaw2_any aw ac kw kc h bm bo _ _ ad p cp w hm (hl (by omega)) hc hsz hi
  · exact DFlaw3_any bm ad p cp w (hl (by omega)) hc hsz hi
  · have h1 : (!p.flatten.all fun c => inB c 0 ((h.customers.length : Int) - 1)) = false := hz 1 (by omega)
    rw [Bool.not_eq_false'] at h1
    exact DFlaw4_any aw ac kw kc h bm bo _ _ ad p cp w hm hv (full_lt8 hv) (fun u hu => by rw [full_bit]; simpa using hu) (hp (by omega)) h1 hc hsz hi
  · exact DFlaw5_any aw ac kw kc h bm bo _ _ ad p cp w hm (hl (by omega)) hc (Nat.le_trans (flat_few hv (hz 1 (by omega)) (hz 2 (by omega))) (by omega)) hi
@[reducible] def flawCells : Array Value := #[.int .i64 3, .func (.func 105) #[] #[], .int .i64 4, .func (.func 106) #[] #[], .int .i64 5, .func (.func 109) #[] #[], .int .i64 2, .func (.func 112) #[] #[], .int .i64 8, .func (.func 114) #[] #[]]
theorem DFlaws_any (w : World) : Calls Try.prog 98 #[] w fun e w' => e = .returned (.slice (some ⟨w.heap.size, 0, none⟩) 5 5) ∧ w' = w.alloc (.cells flawCells 133) := by
  go_enter Try.func98, Try.ntmps98
  go_wp2
  go_ret
  exact ⟨rfl, rfl⟩
/-- What enter gives back. -/
def EnterD (w W : World) (v : Value) (er : Int) (aw ac : Option Addr) (kw kc : Nat) (h : DeH) : Prop := (er = 0 → ∃ bm bo : Nat, v = .pointer (some ⟨bm, 0, none⟩) ∧ HallW W bm bo aw ac kw kc h (fullW h) (fullC h) ∧ w.heap.size < bo ∧ w.heap.size < bm) ∧ (er ≠ 0 → v = .pointer none)
set_option maxRecDepth 100000 in
set_option maxHeartbeats 4000000 in
theorem DEnter_any (aw ac : Option Addr) (kw kc : Nat) (h : DeH) (ad : Option Addr) (p : List (List Int)) (cp : Nat) (w : World) (hm : HallC w aw ac kw kc h) (hc : SlOk ad p.length cp) (hsz : p.flatten.length ≤ 1048576) (hi : RowsC w ad p) :
    Calls Try.prog 69 #[(.agg #[.int .i64 h.wax, .slice aw h.writers.length kw, .slice ac h.customers.length kc]), .slice ad p.length cp] w fun e w' => ∃ v, e = .returned (.tuple #[v, .int .i64 (dePlanErr h p)]) ∧ EnterD w w' v (dePlanErr h p) aw ac kw kc h ∧ Below w.heap.size w w' := by
  have hQ := Below.refl (w.heap.size + 1) (w.alloc (.cells #[.int .i64 h.wax, .slice aw h.writers.length kw, .slice ac h.customers.length kc] 25))
  have hbX := box_old hQ
  have CK := DCheck_any aw ac kw kc h (w.alloc (.cells #[.int .i64 h.wax, .slice aw h.writers.length kw, .slice ac h.customers.length kc] 25)) (hm.mono hbX)
  have HV := Lib.hid (fun h : deErr h = 0 => deValid_of h)
  have HNO := Lib.hid (fun (e : deErr h ≠ 0) => show dePlanErr h p = deErr h by unfold dePlanErr; rw [if_neg e])
  have HFE := Lib.hid (fun (he : deErr h = 0) (k : Nat) (hk : k < 5) hz hb => flaw_err (h := h) (p := p) he (k := k) hk hz hb)
  have HFO := Lib.hid (fun (he : deErr h = 0) hz => flaw_ok (h := h) (p := p) he hz)
  have e0 : (deCheck h).2.2 = deErr h := rfl
  rw [e0] at CK
  generalize (deCheck h).1 = q1 at CK
  generalize (deCheck h).2.1 = q2 at CK
  obtain ⟨er, her0⟩ : ∃ er, er = deErr h := ⟨_, rfl⟩
  rw [← her0] at CK HV HNO HFE HFO
  clear her0 e0
  obtain ⟨pe, hpe⟩ : ∃ pe, pe = dePlanErr h p := ⟨_, rfl⟩
  rw [← hpe] at HNO HFE HFO ⊢
  clear hpe
  replace CK := Lib.hid CK
  have x0 := box_cell hQ 0 _ rfl
  have x1 := box_cell hQ 1 _ rfl
  have x2 := box_cell hQ 2 _ rfl
  have xz := box_size hQ
  by_cases her : er = 0
  · have hv := HV.out her
    replace HFE := Lib.hid (fun (k : Nat) (hk : k < 5) hz hb => HFE.out her k hk hz hb)
    replace HFO := Lib.hid (fun hz => HFO.out her hz)
    have g1 := nei_f her
    clear her HV HNO
    have LK := Lib.hid (fun (W : World) (hb : Below w.heap.size w W) => DLook_any aw ac kw kc h W (hm.mono hb) hv)
    have FS := Lib.hid (fun W : World => DFlaws_any W)
    go_enter Try.func69, Try.ntmps69
    go_wp2_with (first
      | (go_at_call 98; go_must ((with_reducible refine (FS.out _).mono ?_); rintro e w4 ⟨rfl, rfl⟩; dsimp only))
      | (go_at_call 73; go_must ((with_reducible refine (LK.out _ (box_old hQ2)).mono ?_); rintro e w3 ⟨bm, bo, rfl, hK, hb3, hbo, hbm⟩; dsimp only))
      | (go_at_call 16; go_must ((with_reducible refine CK.out.mono ?_); rintro e w2 ⟨rfl, hb2⟩; have hQ2 := hQ.trans (hb2.mono (by simp)); have x0 := box_cell hQ2 0 _ rfl; have x1 := box_cell hQ2 1 _ rfl; have x2 := box_cell hQ2 2 _ rfl; have xz := box_size hQ2; dsimp only)))
    have hb23 := (box_old hQ2).trans (hb3.mono (box_old hQ2).size)
    have hz3 := hb23.size
    have hz2 := (box_old hQ2).size
    have hFC : (w3.alloc (.cells flawCells 133)).heap[w3.heap.size]? = some (.cells flawCells 133 (0, 0)) := alloc_at _ _ rfl
    go_loopw [25] (fun i wr => ∃ k : Nat, k ≤ 5 ∧ i = .int .i64 k ∧ Below w3.heap.size w3 wr ∧ wr.heap[w3.heap.size]? = some (.cells flawCells 133 (0, 0)) ∧ Hid (∀ j, j < k → flawB h p j = false)) (fun i _ => 5 - (intOf i).toNat)
    case atStart => exact ⟨0, Nat.zero_le _, rfl, (Below.refl _ _).alloc (Nat.le_refl _) _, hFC, Lib.hid (fun j hj => absurd hj (Nat.not_lt_zero j))⟩
    case round =>
      clear hFC
      obtain ⟨k, hk, rfl, hb, hF, HZ⟩ := hrel
      have hbz := hb.size
      have zF := lt_of_block hF
      by_cases hlt : k < 5
      · have FK := fun (V : World) (hV : Below w3.heap.size w3 V) => DFlawK_any aw ac kw kc h bm bo ad p cp k hlt V (hK.below hV) hv HZ.out hc hsz (hi.mono (hb23.trans (hV.mono hz3)))
        have HE := Lib.hid (fun hb => HFE.out k hlt HZ.out hb)
        have HN := Lib.hid (fun (e : flawB h p k = false) => show ∀ j, j < k + 1 → flawB h p j = false from fun j hj => if hjk : j < k then HZ.out j hjk else (by have e2 : j = k := (by omega); subst e2; exact e))
        have c0 := blk_cell 0 hF rfl
        have c1 := blk_cell 1 hF rfl
        have c2 := blk_cell 2 hF rfl
        have c3 := blk_cell 3 hF rfl
        have c4 := blk_cell 4 hF rfl
        have c5 := blk_cell 5 hF rfl
        have c6 := blk_cell 6 hF rfl
        have c7 := blk_cell 7 hF rfl
        have c8 := blk_cell 8 hF rfl
        have c9 := blk_cell 9 hF rfl
        simp only [List.getElem_toArray, List.getElem_cons_zero, List.getElem_cons_succ] at c0 c1 c2 c3 c4 c5 c6 c7 c8 c9
        generalize flawB h p k = bk at FK HE HN
        obtain rfl | rfl | rfl | rfl | rfl : k = 0 ∨ k = 1 ∨ k = 2 ∨ k = 3 ∨ k = 4 := by omega
        all_goals
          simp only [flawF, flawE] at FK HE
          replace FK := Lib.hid FK
          replace hF := Lib.hid hF
          cases bk
          · go_wp2_with ((with_reducible refine (FK.out _ (hb.alloc hbz _)).mono ?_); rintro e w5 ⟨rfl, hb5'⟩; have hb5 := (hb.alloc hbz _).trans (hb5'.mono (by simp; omega)); have hF5 := (hb5'.block _ (by simp; omega)).trans ((heap_alloc_old _ _ zF).trans hF.out); dsimp only)
            go_roundw
            case rel => exact ⟨_, by omega, by go_num, hb5, hF5, Lib.hid (HN.out (by trivial))⟩
            case measure => simp [intOf]
          · replace HE := Lib.hid (HE.out (by trivial))
            go_wp2_with ((with_reducible refine (FK.out _ (hb.alloc hbz _)).mono ?_); rintro e w5 ⟨rfl, hb5'⟩; have hb5 := (hb.alloc hbz _).trans (hb5'.mono (by simp; omega)); have fc := blk_cell 0 ((hb5'.block wr.heap.size (by simp)).trans (heap_alloc_new wr _)) rfl; have fz := lt_of_cell fc; (simp only [List.getElem_toArray, List.getElem_cons_zero] at fc); dsimp only)
            go_upto_region 9 with (fail)
            go_quiet (fail)
            go_wp2
            go_ret2
            rw [HE.out]
            exact ⟨_, rfl, ⟨fun e => absurd e (by decide), fun _ => rfl⟩, hb23.trans ((below_drewN' hb5 _).mono hz3)⟩
      · obtain rfl : k = 5 := by omega
        have hf := HFO.out HZ.out
        go_wp2
        go_ret2
        subst hf
        exact ⟨_, rfl, ⟨fun _ => ⟨bm, bo, rfl, hK.below hb, by omega, by omega⟩, fun e => absurd rfl e⟩, hb23.trans (hb.mono hz3)⟩
  · replace HNO := HNO.out her
    have g1 := nei_t her
    have HER := Lib.hid her
    clear her HV HFE HFO
    go_enter Try.func69, Try.ntmps69
    go_wp2_with (go_at_call 16; go_must ((with_reducible refine CK.out.mono ?_); rintro e w2 ⟨rfl, hb2⟩; have hQ2 := hQ.trans (hb2.mono (by simp)); dsimp only))
    go_ret2
    subst HNO
    exact ⟨_, rfl, ⟨fun e => absurd e HER.out, fun _ => rfl⟩, box_old hQ2⟩
end Go.Proofs.Ytchnpekgmkhacaa
