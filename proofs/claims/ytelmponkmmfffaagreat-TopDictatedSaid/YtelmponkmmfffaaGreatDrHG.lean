/- What is proved here: the contracts of Ends, Fate and Late. Conditions: the hall and the plan lie in memory; the plan is not long. -/
/- What is proved here: contracts of the reference of layer 9: Ends, Does, Fate, Over. Conditions: the hall and the plan lie in memory; the plan is not long. -/
/- What is proved here: contracts of the reference of layer 9: Fate, Over. Conditions: the hall and the plan lie in memory; the plan is not long. -/
/- What is proved here: the contract of the reference's Late of layer 9. Conditions: the hall and the plan lie in memory; the plan is not long. -/
import Derived.Test.YtelmponkmmfffaaGreatDrEG
set_option linter.unusedVariables false
set_option linter.unusedSimpArgs false
namespace Go.Proofs.YtelmponkmmfffaaGreat
open Go Go.RowKit Go.Shelf

theorem plan_of_err {h : DeH} {p : List (List Int)} (e : dePlanErr h p = 0) : DeValid h ∧ PlanOk h h.customers.length p := by
  obtain ⟨h1, h2⟩ := plan_iff.1 e
  exact ⟨deValid_of h1, h2⟩
set_option maxRecDepth 100000 in
set_option maxHeartbeats 2000000 in
theorem DEnds_any (aw ac : Option Addr) (kw kc : Nat) (h : DeH) (ad : Option Addr) (p : List (List Int)) (cp : Nat) (w : World) (hm : HallC w aw ac kw kc h) (hc : SlOk ad p.length cp) (hsz : p.flatten.length ≤ 1048576) (hi : RowsC w ad p) :
    Calls Tryz.prog 34 #[(.agg #[.int .i64 h.wax, .slice aw h.writers.length kw, .slice ac h.customers.length kc]), .slice ad p.length cp] w fun e w' => ∃ v, e = .returned (.tuple #[v, .int .i64 (deEnds h p).2]) ∧ SpansV w' v (deEnds h p).1 ∧ Below w.heap.size w w' := by
  have hQ := Below.refl (w.heap.size + 1) (w.alloc (.cells #[.int .i64 h.wax, .slice aw h.writers.length kw, .slice ac h.customers.length kc] 28))
  have hbX := box_old hQ
  have EN := Lib.hid (DEnter_any aw ac kw kc h ad p cp (w.alloc (.cells #[.int .i64 h.wax, .slice aw h.writers.length kw, .slice ac h.customers.length kc] 28)) (hm.mono hbX) hc hsz (hi.mono hbX))
  have HP := Lib.hid (fun e => plan_of_err (h := h) (p := p) e)
  have HY := Lib.hid (fun (e : dePlanErr h p = 0) => show deEnds h p = (deSealed h p, 0) by unfold deEnds; rw [if_pos e])
  have HN := Lib.hid (fun (e : dePlanErr h p ≠ 0) => show deEnds h p = ([], dePlanErr h p) by unfold deEnds; rw [if_neg e])
  generalize dePlanErr h p = er at EN HP HY HN
  generalize deEnds h p = res at HY HN ⊢
  have x0 := box_cell hQ 0 _ rfl
  have x1 := box_cell hQ 1 _ rfl
  have x2 := box_cell hQ 2 _ rfl
  have xz := box_size hQ
  by_cases her : er = 0
  · obtain ⟨hv, hp⟩ := HP.out her
    replace HY := HY.out her
    have HER := Lib.hid her
    have g1 := nei_f her
    clear her HN HP
    have EM := Lib.hid (fun (bm bo : Nat) (W : World) (hK : HallW W bm bo aw ac kw kc h (fullW h) (fullC h)) (hI : RowsC W ad p) => DEndsM_any aw ac kw kc h bm bo _ _ ad p cp W hK hv hp hc hI)
    go_enter Tryz.func34, Tryz.ntmps34
    go_wp2_with (first
      | (go_at_call 84; have hh := hK; go_must ((with_reducible refine (EM.out bm bo _ hK (hi.mono hb2)).mono ?_); rintro e w3 ⟨v3, rfl, hS, hb3⟩; dsimp only))
      | (go_at_call 83; go_must ((with_reducible refine EN.out.mono ?_); rintro e w2 ⟨v2, rfl, hE, hb2'⟩; obtain ⟨bm, bo, rfl, hK, -, -⟩ := hE.1 HER.out; have hb2 := hbX.trans (hb2'.mono hbX.size); dsimp only)))
    go_ret2
    subst HY
    exact ⟨v3, rfl, hS, hb2.trans (hb3.mono hb2.size)⟩
  · replace HN := HN.out her
    have HER := Lib.hid her
    have g1 := nei_t her
    clear her HY HP
    go_enter Tryz.func34, Tryz.ntmps34
    go_wp2_with (go_at_call 83; go_must ((with_reducible refine EN.out.mono ?_); rintro e w2 ⟨v2, rfl, hE, hb2'⟩; obtain rfl := hE.2 HER.out; have hb2 := hbX.trans (hb2'.mono hbX.size); dsimp only))
    go_ret2
    subst HN
    exact ⟨.slice none 0 0, rfl, ⟨none, 0, rfl, ⟨by simp, by omega, fun _ => rfl⟩, fun i hi => absurd hi (Nat.not_lt_zero i)⟩, hb2⟩

theorem does_step (h : DeH) (L : List (Int × Int)) (k : Nat) (out : Int) (hk : k < L.length) : doesFrom h k (L.drop k) out = if (customerAt h k).ship < L[k].1 then 2 else doesFrom h (k + 1) (L.drop (k + 1)) (if (customerAt h k).ship < L[k].2 then 0 else out) := by
  rw [List.drop_eq_getElem_cons hk, doesFrom]
theorem does_done (h : DeH) (L : List (Int × Int)) (out : Int) : doesFrom h L.length (L.drop L.length) out = out := by
  rw [List.drop_length]; rfl
set_option maxRecDepth 100000 in
set_option maxHeartbeats 2000000 in
theorem DFate_any (aw ac : Option Addr) (kw kc : Nat) (h : DeH) (ad : Option Addr) (p : List (List Int)) (cp : Nat) (w : World) (hm : HallC w aw ac kw kc h) (hc : SlOk ad p.length cp) (hsz : p.flatten.length ≤ 1048576) (hi : RowsC w ad p) :
    Calls Tryz.prog 36 #[(.agg #[.int .i64 h.wax, .slice aw h.writers.length kw, .slice ac h.customers.length kc]), .slice ad p.length cp] w fun e w' => e = .returned (.tuple #[.int .i64 (deFate h p).1, .int .i64 (deFate h p).2]) ∧ Below w.heap.size w w' := by
  have hQ := Below.refl (w.heap.size + 1) (w.alloc (.cells #[.int .i64 h.wax, .slice aw h.writers.length kw, .slice ac h.customers.length kc] 28))
  have hbX := box_old hQ
  have EN := Lib.hid (DEnter_any aw ac kw kc h ad p cp (w.alloc (.cells #[.int .i64 h.wax, .slice aw h.writers.length kw, .slice ac h.customers.length kc] 28)) (hm.mono hbX) hc hsz (hi.mono hbX))
  have HP := Lib.hid (fun e => plan_of_err (h := h) (p := p) e)
  have HY := Lib.hid (fun (e : dePlanErr h p = 0) => show deFate h p = (doesFrom h 0 ((deSealed h p).drop 0) 1, 0) by unfold deFate; rw [if_pos e]; rfl)
  have HN := Lib.hid (fun (e : dePlanErr h p ≠ 0) => show deFate h p = (0, dePlanErr h p) by unfold deFate; rw [if_neg e])
  generalize dePlanErr h p = er at EN HP HY HN
  generalize deFate h p = res at HY HN ⊢
  have x0 := box_cell hQ 0 _ rfl
  have x1 := box_cell hQ 1 _ rfl
  have x2 := box_cell hQ 2 _ rfl
  have xz := box_size hQ
  by_cases her : er = 0
  · obtain ⟨hv, hp⟩ := HP.out her
    replace HY := HY.out her
    have HER := Lib.hid her
    have g1 := nei_f her
    clear her HN HP
    have EM := Lib.hid (fun (bm bo : Nat) (W : World) (hK : HallW W bm bo aw ac kw kc h (fullW h) (fullC h)) (hI : RowsC W ad p) => DEndsM_any aw ac kw kc h bm bo _ _ ad p cp W hK hv hp hc hI)
    have l2c := hm.okc.1
    have hnc := hv.nc
    have hln := sealed_len h p
    generalize deSealed h p = S at EM HY hln
    have HLN := Lib.hid hln
    have HST := Lib.hid (fun k out hk => does_step h S k out hk)
    have HDN := Lib.hid (fun out => does_done h S out)
    clear hln
    obtain ⟨r1, r2⟩ := res
    obtain ⟨rfl, rfl⟩ := Prod.mk.inj HY
    obtain ⟨dr, hdr⟩ : ∃ dr, dr = doesFrom h 0 (S.drop 0) 1 := ⟨_, rfl⟩
    simp only [← hdr]
    have HD := Lib.hid hdr
    clear hdr HY
    go_enter Tryz.func36, Tryz.ntmps36
    go_wp2_with (first
      | (go_at_call 84; have hh := hK; go_must ((with_reducible refine (EM.out bm bo _ hK (hi.mono (box_old hQ2))).mono ?_); rintro e w3 ⟨v3, rfl, ⟨a3, c3, rfl, o3, hS⟩, hb3⟩; have hQ3 := box_on hQ2 hb3; dsimp only))
      | (go_at_call 83; go_must ((with_reducible refine EN.out.mono ?_); rintro e w2 ⟨v2, rfl, hE, hb2⟩; obtain ⟨bm, bo, rfl, hK, -, -⟩ := hE.1 HER.out; have hQ2 := hQ.trans (hb2.mono (by simp)); dsimp only)))
    have hz3 := hQ3.size
    have o3l := o3.len
    have o3c := o3.1
    go_loopw [8, 25] (fun f i wr => ∃ (k : Nat) (out : Int), k ≤ S.length ∧ i = .int .i64 k ∧ f = .int .i64 out ∧ Below w3.heap.size w3 wr ∧ Hid (dr = doesFrom h k (S.drop k) out)) (fun _ i _ => S.length - (intOf i).toNat)
    case atStart => exact ⟨0, 1, Nat.zero_le _, rfl, rfl, Below.refl _ _, HD⟩
    case round =>
      obtain ⟨k, out, hk, rfl, rfl, hb, HR⟩ := hrel
      have hbz := hb.size
      by_cases hlt : k < S.length
      · have hQr := box_on hQ3 hb
        have x2 := box_cell hQr 2 _ rfl
        have xz := box_size hQr
        have hkn : k < h.customers.length := by have := HLN.out; omega
        have HS := Lib.hid ((HR.out).trans (HST.out k out hlt))
        obtain ⟨b1, o1, rfl, hb1, h1, h2⟩ := (hS.mono hb) k hlt
        obtain ⟨b2, o2, rfl, -, -, -, -, -, k4⟩ := hm.custs k hkn
        have q4 := cell_below (box_old hQr) k4
        have z4 := lt_of_cell q4
        have hkc : (k : Int) < h.customers.length := by omega
        have hks : (k : Int) < S.length := by omega
        have hkc3 : (k : Int) < c3 := by omega
        have ec : (customerAt h k).ship = h.customers[k].ship := by unfold customerAt; rw [List.getElem?_eq_getElem hkn]; rfl
        rw [ec] at HS
        clear ec k4
        generalize h.customers[k].ship = sh at q4 HS
        generalize S[k] = s at h1 h2 HS
        obtain ⟨sa, sb⟩ := s
        simp only at h1 h2 HS
        by_cases ha : sh < sa
        · replace HS := Lib.hid (HS.out.trans (if_pos ha))
          go_wp2
          go_ret2
          rw [HS.out]
          exact ⟨rfl, (box_old hQr).alloc (box_old hQr).size _⟩
        · replace HS := Lib.hid (HS.out.trans (if_neg ha))
          by_cases hbb : sh < sb
          · rw [if_pos hbb] at HS
            go_wp2
            go_roundw
            case rel => exact ⟨k + 1, 0, by omega, by go_num, rfl, hb.alloc hbz _, HS⟩
            case measure => simp [intOf]; omega
          · rw [if_neg hbb] at HS
            go_wp2
            go_roundw
            case rel => exact ⟨k + 1, out, by omega, by go_num, rfl, hb.alloc hbz _, HS⟩
            case measure => simp [intOf]; omega
      · obtain rfl : k = S.length := by omega
        have hd := HR.out.trans (HDN.out out)
        go_wp2
        go_ret2
        rw [hd]
        exact ⟨rfl, box_old (box_on hQ3 hb)⟩
  · replace HN := HN.out her
    have HER := Lib.hid her
    have g1 := nei_t her
    clear her HY HP
    go_enter Tryz.func36, Tryz.ntmps36
    go_wp2_with (go_at_call 83; go_must ((with_reducible refine EN.out.mono ?_); rintro e w2 ⟨v2, rfl, hE, hb2'⟩; obtain rfl := hE.2 HER.out; have hb2 := hbX.trans (hb2'.mono hbX.size); dsimp only))
    go_ret2
    subst HN
    exact ⟨rfl, hb2⟩

/-- The number of a letter, or -1. -/
def lateI : Option Nat → Int
  | none => -1
  | some f => (f : Int)
theorem late_next (h : DeH) (L : List (Int × Int)) (k : Nat) (out : Option Nat) (hk : k < L.length) : lateFrom h k (L.drop k) out = lateFrom h (k + 1) (L.drop (k + 1)) (lateStep h k L[k] out) := by
  rw [List.drop_eq_getElem_cons hk, lateFrom_cons]
theorem late_end (h : DeH) (L : List (Int × Int)) (out : Option Nat) : lateFrom h L.length (L.drop L.length) out = out := by
  rw [List.drop_length]; rfl
theorem lateStep_some (h : DeH) (k f : Nat) (s : Int × Int) : lateStep h k s (some f) = if decide ((customerAt h k).ship < s.2) && decide ((customerAt h k).ship < (customerAt h f).ship) then some k else some f := rfl
theorem deLate_none {h : DeH} {p : List (List Int)} (e : dePlanErr h p = 0) (hn : lateFrom h 0 ((deSealed h p).drop 0) none = none) : deLate h p = (0, 9) := by
  unfold deLate
  rw [if_pos e]
  rw [List.drop_zero] at hn
  rw [hn]
theorem deLate_some {h : DeH} {p : List (List Int)} (e : dePlanErr h p = 0) {c : Nat} (hn : lateFrom h 0 ((deSealed h p).drop 0) none = some c) : deLate h p = ((c : Int), 0) := by
  unfold deLate
  rw [if_pos e]
  rw [List.drop_zero] at hn
  rw [hn]
set_option maxRecDepth 100000 in
set_option maxHeartbeats 2000000 in
theorem DLate_any (aw ac : Option Addr) (kw kc : Nat) (h : DeH) (ad : Option Addr) (p : List (List Int)) (cp : Nat) (w : World) (hm : HallC w aw ac kw kc h) (hc : SlOk ad p.length cp) (hsz : p.flatten.length ≤ 1048576) (hi : RowsC w ad p) :
    Calls Tryz.prog 37 #[(.agg #[.int .i64 h.wax, .slice aw h.writers.length kw, .slice ac h.customers.length kc]), .slice ad p.length cp] w fun e w' => e = .returned (.tuple #[.int .i64 (deLate h p).1, .int .i64 (deLate h p).2]) ∧ Below w.heap.size w w' := by
  have hQ := Below.refl (w.heap.size + 1) (w.alloc (.cells #[.int .i64 h.wax, .slice aw h.writers.length kw, .slice ac h.customers.length kc] 28))
  have hbX := box_old hQ
  have EN := Lib.hid (DEnter_any aw ac kw kc h ad p cp (w.alloc (.cells #[.int .i64 h.wax, .slice aw h.writers.length kw, .slice ac h.customers.length kc] 28)) (hm.mono hbX) hc hsz (hi.mono hbX))
  have HP := Lib.hid (fun e => plan_of_err (h := h) (p := p) e)
  have HY0 := Lib.hid (fun (e : dePlanErr h p = 0) hn => deLate_none e hn)
  have HY1 := Lib.hid (fun (e : dePlanErr h p = 0) (c : Nat) hn => deLate_some e (c := c) hn)
  have HN := Lib.hid (fun (e : dePlanErr h p ≠ 0) => show deLate h p = (0, dePlanErr h p) by unfold deLate; rw [if_neg e])
  generalize dePlanErr h p = er at EN HP HY0 HY1 HN
  generalize deLate h p = res at HY0 HY1 HN ⊢
  have x0 := box_cell hQ 0 _ rfl
  have x1 := box_cell hQ 1 _ rfl
  have x2 := box_cell hQ 2 _ rfl
  have xz := box_size hQ
  by_cases her : er = 0
  · obtain ⟨hv, hp⟩ := HP.out her
    replace HY0 := Lib.hid (HY0.out her)
    replace HY1 := Lib.hid (HY1.out her)
    have HER := Lib.hid her
    have g1 := nei_f her
    clear her HN HP
    have EM := Lib.hid (fun (bm bo : Nat) (W : World) (hK : HallW W bm bo aw ac kw kc h (fullW h) (fullC h)) (hI : RowsC W ad p) => DEndsM_any aw ac kw kc h bm bo _ _ ad p cp W hK hv hp hc hI)
    have l2c := hm.okc.1
    have hnc := hv.nc
    have hln := sealed_len h p
    generalize deSealed h p = S at EM HY0 HY1 hln
    have HLN := Lib.hid hln
    have HST := Lib.hid (fun k out hk => late_next h S k out hk)
    have HDN := Lib.hid (fun out => late_end h S out)
    clear hln
    obtain ⟨r1, r2⟩ := res
    obtain ⟨dr, hdr⟩ : ∃ dr, dr = lateFrom h 0 (S.drop 0) none := ⟨_, rfl⟩
    simp only [← hdr] at HY0 HY1
    have HD := Lib.hid hdr
    clear hdr
    go_enter Tryz.func37, Tryz.ntmps37
    go_wp2_with (first
      | (go_at_call 84; have hh := hK; go_must ((with_reducible refine (EM.out bm bo _ hK (hi.mono (box_old hQ2))).mono ?_); rintro e w3 ⟨v3, rfl, ⟨a3, c3, rfl, o3, hS⟩, hb3⟩; have hQ3 := box_on hQ2 hb3; dsimp only))
      | (go_at_call 83; go_must ((with_reducible refine EN.out.mono ?_); rintro e w2 ⟨v2, rfl, hE, hb2⟩; obtain ⟨bm, bo, rfl, hK, -, -⟩ := hE.1 HER.out; have hQ2 := hQ.trans (hb2.mono (by simp)); dsimp only)))
    have hz3 := hQ3.size
    have o3l := o3.len
    have o3c := o3.1
    go_loopw [8, 25] (fun f i wr => ∃ (k : Nat) (out : Option Nat), k ≤ S.length ∧ i = .int .i64 k ∧ f = .int .i64 (lateI out) ∧ (∀ c, out = some c → c < S.length) ∧ Below w3.heap.size w3 wr ∧ Hid (dr = lateFrom h k (S.drop k) out)) (fun _ i _ => S.length - (intOf i).toNat)
    case atStart => exact ⟨0, none, Nat.zero_le _, rfl, rfl, (fun c e => by cases e), Below.refl _ _, HD⟩
    case round =>
      obtain ⟨k, out, hk, rfl, rfl, hof, hb, HR⟩ := hrel
      have hbz := hb.size
      by_cases hlt : k < S.length
      · have hQr := box_on hQ3 hb
        have x2 := box_cell hQr 2 _ rfl
        have xz := box_size hQr
        have hkn : k < h.customers.length := by have := HLN.out; omega
        have HS := Lib.hid ((HR.out).trans (HST.out k out hlt))
        obtain ⟨b1, o1, rfl, hb1, h1, h2⟩ := (hS.mono hb) k hlt
        obtain ⟨b2, o2, rfl, -, -, -, -, -, k4⟩ := hm.custs k hkn
        have q4 := cell_below (box_old hQr) k4
        have z4 := lt_of_cell q4
        have hkc : (k : Int) < h.customers.length := by omega
        have hks : (k : Int) < S.length := by omega
        have hkc3 : (k : Int) < c3 := by omega
        have ec : (customerAt h k).ship = h.customers[k].ship := by unfold customerAt; rw [List.getElem?_eq_getElem hkn]; rfl
        clear k4
        generalize h.customers[k].ship = sh at q4 ec
        generalize S[k] = s at h1 h2 HS
        obtain ⟨sa, sb⟩ := s
        simp only at h1 h2
        by_cases ha : sh < sb
        · cases out with
          | none =>
            have HL : Hid (lateStep h k (sa, sb) none = some k) := Lib.hid (by unfold lateStep lateB; rw [ec, decide_eq_true (show sh < (sa, sb).2 from ha)]; rfl)
            rw [HL.out] at HS
            have hm1 : (-1 : Int) < 0 := by omega
            simp only [lateI]
            clear ec
            go_wp2
            go_roundw
            case rel => exact ⟨k + 1, some k, by omega, by go_num, rfl, fun c e => by cases e; exact hlt, hb.alloc hbz _, HS⟩
            case measure => simp [intOf]; omega
          | some f =>
            have hfl := hof f rfl
            have hfn : f < h.customers.length := by have := HLN.out; omega
            obtain ⟨b2', o2', e2, -, -, -, -, -, k5⟩ := hm.custs f hfn
            cases e2
            have q5 := cell_below (box_old hQr) k5
            have z5 := lt_of_cell q5
            have ef : (customerAt h f).ship = h.customers[f].ship := by unfold customerAt; rw [List.getElem?_eq_getElem hfn]; rfl
            clear k5
            generalize h.customers[f].ship = sf at q5 ef
            have hfi : (f : Int) < h.customers.length := by omega
            have hf0 : ¬ ((f : Int) < 0) := by omega
            simp only [lateI]
            by_cases hsf : sh < sf
            · have HL : Hid (lateStep h k (sa, sb) (some f) = some k) := Lib.hid (by rw [lateStep_some, ec, ef, decide_eq_true (show sh < (sa, sb).2 from ha), decide_eq_true hsf]; rfl)
              rw [HL.out] at HS
              clear ec ef
              go_wp2
              go_roundw
              case rel => exact ⟨k + 1, some k, by omega, by go_num, rfl, fun c e => by cases e; exact hlt, hb.alloc hbz _, HS⟩
              case measure => simp [intOf]; omega
            · have HL : Hid (lateStep h k (sa, sb) (some f) = some f) := Lib.hid (by rw [lateStep_some, ec, ef, decide_eq_false hsf, Bool.and_false, if_neg (by simp)])
              rw [HL.out] at HS
              clear ec ef
              go_wp2
              go_roundw
              case rel => exact ⟨k + 1, some f, by omega, by go_num, rfl, hof, hb.alloc hbz _, HS⟩
              case measure => simp [intOf]; omega
        · have HL : Hid (lateStep h k (sa, sb) out = out) := Lib.hid (by unfold lateStep; rw [ec, decide_eq_false (show ¬ sh < (sa, sb).2 from ha), Bool.false_and, if_neg (by simp)])
          rw [HL.out] at HS
          clear ec
          go_wp2
          go_roundw
          case rel => exact ⟨k + 1, out, by omega, by go_num, rfl, hof, hb.alloc hbz _, HS⟩
          case measure => simp [intOf]; omega
      · obtain rfl : k = S.length := by omega
        have hd := HR.out.trans (HDN.out out)
        cases out with
        | none =>
          have hm1 : (-1 : Int) < 0 := by omega
          have hr := HY0.out hd
          simp only [lateI]
          go_wp2
          go_ret2
          obtain ⟨rfl, rfl⟩ := Prod.mk.inj hr
          exact ⟨rfl, box_old (box_on hQ3 hb)⟩
        | some f =>
          have hf0 : ¬ ((f : Int) < 0) := by omega
          have hr := HY1.out f hd
          simp only [lateI]
          go_wp2
          go_ret2
          obtain ⟨rfl, rfl⟩ := Prod.mk.inj hr
          exact ⟨rfl, box_old (box_on hQ3 hb)⟩
  · replace HN := HN.out her
    have HER := Lib.hid her
    have g1 := nei_t her
    clear her HY0 HY1 HP
    go_enter Tryz.func37, Tryz.ntmps37
    go_wp2_with (go_at_call 83; go_must ((with_reducible refine EN.out.mono ?_); rintro e w2 ⟨v2, rfl, hE, hb2'⟩; obtain rfl := hE.2 HER.out; have hb2 := hbX.trans (hb2'.mono hbX.size); dsimp only))
    go_ret2
    subst HN
    exact ⟨rfl, hb2⟩
end Go.Proofs.YtelmponkmmfffaaGreat
namespace Go.Proofs.YtelmponkmmfffaaGreat
open Go Go.RowKit Go.Shelf

end Go.Proofs.YtelmponkmmfffaaGreat
namespace Go.Proofs.YtelmponkmmfffaaGreat
open Go Go.RowKit Go.Shelf

end Go.Proofs.YtelmponkmmfffaaGreat
namespace Go.Proofs.YtelmponkmmfffaaGreat
open Go Go.RowKit Go.Shelf

end Go.Proofs.YtelmponkmmfffaaGreat
