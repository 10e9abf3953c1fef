/- What is proved here: contracts of what a plan cannot be like, but for the last. Conditions: the plan and the hall lie in memory; the plan is not long. -/
import Derived.Test.YtchnpekgmkhacaaDeEach
import Derived.Test.YtchnpekgmkhacaaDeNames
set_option linter.unusedVariables false
set_option linter.unusedSimpArgs false
namespace Go.Proofs.Ytchnpekgmkhacaa
open Go Go.RowKit Go.Shelf

theorem eachB_any (f : Nat → Int → Bool) : ∀ (L : List (Nat × Int)) (bef : List Int), eachB (fun w c _ => f w c) L bef = L.any fun x => f x.1 x.2
  | [], _ => rfl
  | x :: L, bef => by
    show (f x.1 x.2 || eachB (fun w c _ => f w c) L (bef ++ [x.2])) = _
    rw [eachB_any f L]; rfl
theorem pairs_any (f : Int → Bool) : ∀ (p : List (List Int)) (w : Nat), (pairsFrom w p).any (fun x => f x.2) = p.flatten.any f
  | [], _ => rfl
  | l :: p, w => by
    rw [pairsFrom, List.any_append, pairs_any f p, List.flatten_cons, List.any_append, List.any_map]
    rfl
theorem pairs_wrong (h : DeH) : ∀ (p : List (List Int)) (w : Nat), (pairsFrom w p).any (fun x => !canD h x.1 x.2.toNat) = wrongB h w p
  | [], _ => rfl
  | l :: p, w => by
    rw [pairsFrom, List.any_append, pairs_wrong h p, List.any_map, wrongB]
    rfl
theorem pairs_snd : ∀ (p : List (List Int)) (w : Nat), (pairsFrom w p).map (·.2) = p.flatten
  | [], _ => rfl
  | l :: p, w => by
    rw [pairsFrom, List.map_append, pairs_snd p, List.flatten_cons, List.map_map]
    congr 1
    exact List.map_id _
theorem each_twice : ∀ (L : List (Nat × Int)) (bef : List Int), bef.Nodup → (eachB (fun _ c bef => hasB bef c) L bef = false ↔ (bef ++ L.map (·.2)).Nodup)
  | [], bef, hb => by simpa [eachB] using hb
  | x :: L, bef, hb => by
    show (hasB bef x.2 || eachB (fun _ c bef => hasB bef c) L (bef ++ [x.2])) = false ↔ _
    have e : bef ++ (x :: L).map (·.2) = (bef ++ [x.2]) ++ L.map (·.2) := by simp
    rw [e, Bool.or_eq_false_iff]
    by_cases hx : x.2 ∈ bef
    · have h1 : hasB bef x.2 = true := by unfold hasB; rw [List.any_eq_true]; exact ⟨_, hx, by simp⟩
      constructor
      · rintro ⟨h2, _⟩; rw [h1] at h2; cases h2
      · intro hn
        have := (List.nodup_append.1 (List.nodup_append.1 hn).1).2.2 x.2 hx x.2 (by simp)
        exact absurd rfl this
    · have h1 : hasB bef x.2 = false := by
        unfold hasB; rw [List.any_eq_false]
        intro y hy
        simp only [beq_iff_eq]
        intro e
        exact hx (e ▸ hy)
      have hb2 : (bef ++ [x.2]).Nodup := by
        rw [List.nodup_append]
        refine ⟨hb, by simp, fun a ha b hb' => ?_⟩
        rw [List.mem_singleton] at hb'
        subst hb'
        intro e
        exact hx (e ▸ ha)
      rw [each_twice L _ hb2]
      exact ⟨fun hh => hh.2, fun hh => ⟨h1, hh⟩⟩
theorem each_twiceB (p : List (List Int)) : eachB (fun _ c bef => hasB bef c) (pairsFrom 0 p) [] = twiceB p.flatten := by
  have h1 := each_twice (pairsFrom 0 p) [] List.nodup_nil
  rw [List.nil_append, pairs_snd, ← twice_iff] at h1
  rw [Bool.eq_iff_iff]
  rw [← Bool.not_eq_false, ← Bool.not_eq_false, h1]
theorem any_not_all (l : List Int) (f : Int → Bool) : (l.any fun c => !f c) = !l.all f := by
  induction l with
  | nil => rfl
  | cons x l ih => rw [List.any_cons, List.all_cons, ih, Bool.not_and]

set_option maxHeartbeats 1000000 in
theorem DIndexI_any (a : Option Addr) (l : List Int) (c : Nat) (s : Int) (w : World) (hl : l.length ≤ 9223372036854775807) (hc : l.length ≤ c) (hi : IntsC w a l) :
    Calls Try.prog 117 #[.slice a l.length c, .int .i64 s] w fun e w' => ∃ k : Int, e = .returned (.int .i64 k) ∧ Hid (decide (0 ≤ k) = hasB l s) ∧ w' = w := by
  go_enter Try.func117, Try.ntmps117
  go_wp2
  go_loop [8] (fun i => ∃ k : Nat, k ≤ l.length ∧ i = .int .i64 k ∧ Hid (∀ j (_ : j < k) (h : j < l.length), (l[j] == s) = false)) (fun i => l.length - (intOf i).toNat)
  case atStart => exact ⟨0, Nat.zero_le _, rfl, Lib.hid (fun j h => absurd h (Nat.not_lt_zero j))⟩
  case round =>
    obtain ⟨k, hk, rfl, HR⟩ := hrel
    by_cases hlt : k < l.length
    · obtain ⟨b, off, rfl, hb, hx⟩ := hi k hlt
      have HT := Lib.hid (fun (h : (l[k] == s) = true) => (any_lt (f := fun x => x == s) hlt h : l.any (fun x => x == s) = true))
      have HN := Lib.hid (fun (h : (l[k] == s) = false) => show ∀ j (_ : j < k + 1) (h : j < l.length), (l[j] == s) = false from fun j hj hjl => if hjk : j < k then HR.out j hjk hjl else (by have e : j = k := (by omega); subst e; exact h))
      have hkc : (k : Int) < c := by omega
      have hkl : (k : Int) < l.length := by omega
      generalize l[k] = x at hx HT HN
      by_cases he : x = s
      · replace HT := Lib.hid (HT.out (by simp [he]))
        have g := eqi_t he.symm
        clear HN
        go_wp2
        go_ret
        exact ⟨_, rfl, Lib.hid (by show _ = l.any _; rw [HT.out]; simp), rfl⟩
      · replace HN := Lib.hid (HN.out (by simp [he]))
        have g := eqi_f (Ne.symm he)
        clear HT
        go_wp2
        go_round
        case rel => exact ⟨k + 1, by omega, by go_num, HN⟩
        case measure => simp [intOf]; omega
    · obtain rfl : k = l.length := by omega
      go_wp2
      go_ret
      exact ⟨_, rfl, Lib.hid (by show _ = l.any _; rw [any_not (f := fun x => x == s) (fun j h => HR.out j h h)]; simp), rfl⟩
set_option maxHeartbeats 1000000 in
theorem DContainsI_any (a : Option Addr) (l : List Int) (c : Nat) (s : Int) (w : World) (hl : l.length ≤ 9223372036854775807) (hc : l.length ≤ c) (hi : IntsC w a l) :
    Calls Try.prog 111 #[.slice a l.length c, .int .i64 s] w fun e w' => e = .returned (.bool (hasB l s)) ∧ w' = w := by
  have I := Lib.hid (DIndexI_any a l c s w hl hc hi)
  generalize hasB l s = r at I ⊢
  cases r
  · go_enter Try.func111, Try.ntmps111
    go_wp2_with (go_at_call 117; go_must (refine I.out.mono ?_; rintro e w2 ⟨k, rfl, hk, hw2⟩; obtain rfl := hw2.symm; have hk2 : ¬ 0 ≤ k := of_decide_eq_false hk.out; dsimp only))
    go_ret
    exact ⟨rfl, rfl⟩
  · go_enter Try.func111, Try.ntmps111
    go_wp2_with (go_at_call 117; go_must (refine I.out.mono ?_; rintro e w2 ⟨k, rfl, hk, hw2⟩; obtain rfl := hw2.symm; have hk2 : 0 ≤ k := of_decide_eq_true hk.out; dsimp only))
    go_ret
    exact ⟨rfl, rfl⟩

theorem DFlaw1_any (aw ac : Option Addr) (kw kc : Nat) (h : DeH) (bm bo wm cm : Nat) (ad : Option Addr) (p : List (List Int)) (cp : Nat) (w : World) (hm : HallW w bm bo aw ac kw kc h wm cm) (hl : p.length ≤ 9223372036854775807) :
    Calls Try.prog 105 #[.pointer (some ⟨bm, 0, none⟩), .slice ad p.length cp] w fun e w' => e = .returned (.bool (decide (p.length ≠ h.writers.length))) ∧ Below w.heap.size w w' := by
  have l1 := hm.hall.okw.len
  obtain ⟨y0, y1, y2, y3, y4, y5, y6⟩ := hm.blk.cells
  clear hm
  generalize h.writers.length = n at *
  by_cases e : p.length = n
  · have g := nei_f (show (p.length : Int) = (n : Int) by omega)
    go_enter Try.func105, Try.ntmps105
    go_wp2
    go_ret
    exact ⟨ret_bool (by simp [e]), Below.refl _ _⟩
  · have g := nei_t (show (p.length : Int) ≠ (n : Int) by omega)
    go_enter Try.func105, Try.ntmps105
    go_wp2
    go_ret
    exact ⟨ret_bool (by simp [e]), Below.refl _ _⟩
theorem DOut_any (aw ac : Option Addr) (kw kc : Nat) (h : DeH) (bm bo wm cm q : Nat) (u : Nat) (c : Int) (vb : Value) (w : World) (hm : HallW w bm bo aw ac kw kc h wm cm) (hq : w.cell? ⟨q, 0, none⟩ = some (.pointer (some ⟨bm, 0, none⟩))) :
    Calls Try.prog 108 #[.int .i64 (u : Int), .int .i64 c, vb, .pointer (some ⟨q, 0, none⟩)] w fun e w' => e = .returned (.bool (!inB c 0 ((h.customers.length : Int) - 1))) ∧ Below w.heap.size w w' := by
  have l2 := hm.hall.okc.len
  obtain ⟨y0, y1, y2, y3, y4, y5, y6⟩ := hm.blk.cells
  have zq := lt_of_cell hq
  have B1 := Lib.hid (fun (a : Nat) (W : World) hc => MBeyondOne_any c 0 ((h.customers.length : Int) - 1) a W hc)
  clear hm
  go_enter Try.func108, Try.ntmps108
  go_wp2_with (go_at_call 56; go_must ((with_reducible refine (B1.out _ _ ?_).mono ?_); (simp); rintro e w2 ⟨rfl, hb2⟩; dsimp only))
  go_ret
  exact ⟨rfl, ((Below.refl _ w).alloc (Nat.le_refl _) (.cells #[.int .i64 c] 3)).trans (hb2.mono (by simp))⟩
theorem ptr_box (w : World) (bm : Nat) (t : TypeId) : Below w.heap.size w (w.alloc (.cells #[.pointer (some ⟨bm, 0, none⟩)] t)) ∧ (w.alloc (.cells #[.pointer (some ⟨bm, 0, none⟩)] t)).cell? ⟨w.heap.size, 0, none⟩ = some (.pointer (some ⟨bm, 0, none⟩)) :=
  ⟨(Below.refl _ w).alloc (Nat.le_refl _) _, blk_cell 0 (alloc_at w _ rfl) rfl⟩
theorem DFlaw2_any (aw ac : Option Addr) (kw kc : Nat) (h : DeH) (bm bo wm cm : Nat) (ad : Option Addr) (p : List (List Int)) (cp : Nat) (w : World) (hm : HallW w bm bo aw ac kw kc h wm cm) (hl : p.length ≤ 3) (hc : SlOk ad p.length cp) (hsz : p.flatten.length ≤ 1048576) (hi : RowsC w ad p) :
    Calls Try.prog 106 #[.pointer (some ⟨bm, 0, none⟩), .slice ad p.length cp] w fun e w' => e = .returned (.bool (!p.flatten.all fun c => inB c 0 ((h.customers.length : Int) - 1))) ∧ Below w.heap.size w w' := by
  obtain ⟨hb, hq⟩ := ptr_box w bm 94
  have EA := DEach_any ad p cp 108 #[.pointer (some ⟨w.heap.size, 0, none⟩)] (fun _ c _ => !inB c 0 ((h.customers.length : Int) - 1)) _ hl hc hsz (hi.mono hb) (enters_of Try.func108 (by kernel_rfl) rfl)
    (fun u i hu hi ab cb V hV ho hI => DOut_any aw ac kw kc h bm bo wm cm w.heap.size u _ _ V ((hm.below hb).below hV) (cell_below hV hq))
  rw [eachB_any, pairs_any (fun c => !inB c 0 ((h.customers.length : Int) - 1)), any_not_all] at EA
  replace EA := Lib.hid EA
  clear hm hi
  go_enter Try.func106, Try.ntmps106
  go_wp2_with (go_at_call 107; go_must ((with_reducible refine EA.out.mono ?_); rintro e w2 ⟨rfl, hb2⟩; dsimp only))
  go_ret
  exact ⟨rfl, hb.trans (hb2.mono hb.size)⟩
theorem DTwice_any (u : Nat) (c : Int) (ab : Option Addr) (l : List Int) (cb : Nat) (w : World) (ho : SlOk ab l.length cb) (hi : IntsC w ab l) :
    Calls Try.prog 110 #[.int .i64 (u : Int), .int .i64 c, .slice ab l.length cb] w fun e w' => e = .returned (.bool (hasB l c)) ∧ Below w.heap.size w w' := by
  have C := Lib.hid (DContainsI_any ab l cb c w ho.len ho.1 hi)
  go_enter Try.func110, Try.ntmps110
  go_wp2_with (go_at_call 111; go_must ((with_reducible refine C.out.mono ?_); rintro e w2 ⟨rfl, hw2⟩; obtain rfl := hw2.symm; dsimp only))
  go_ret
  exact ⟨rfl, Below.refl _ _⟩
theorem DFlaw3_any (bm : Nat) (ad : Option Addr) (p : List (List Int)) (cp : Nat) (w : World) (hl : p.length ≤ 3) (hc : SlOk ad p.length cp) (hsz : p.flatten.length ≤ 1048576) (hi : RowsC w ad p) :
    Calls Try.prog 109 #[.pointer (some ⟨bm, 0, none⟩), .slice ad p.length cp] w fun e w' => e = .returned (.bool (twiceB p.flatten)) ∧ Below w.heap.size w w' := by
  have EA := DEach_any ad p cp 110 #[] (fun _ c bef => hasB bef c) w hl hc hsz hi (enters_of Try.func110 (by kernel_rfl) rfl)
    (fun u i hu hi ab cb V hV ho hI => DTwice_any u _ ab _ cb V ho hI)
  rw [each_twiceB] at EA
  replace EA := Lib.hid EA
  clear hi
  go_enter Try.func109, Try.ntmps109
  go_wp2_with (go_at_call 107; go_must ((with_reducible refine EA.out.mono ?_); rintro e w2 ⟨rfl, hb2⟩; dsimp only))
  go_ret
  exact ⟨rfl, hb2⟩
theorem DWrong_any (aw ac : Option Addr) (kw kc : Nat) (h : DeH) (bm bo wm cm q : Nat) (u c : Nat) (vb : Value) (w : World) (hm : HallW w bm bo aw ac kw kc h wm cm) (hv : DeValid h) (hwm : wm < 8) (hu : u < h.writers.length) (hb : wm.testBit u = true) (hc : c < h.customers.length) (hq : w.cell? ⟨q, 0, none⟩ = some (.pointer (some ⟨bm, 0, none⟩))) :
    Calls Try.prog 113 #[.int .i64 (u : Int), .int .i64 (c : Int), vb, .pointer (some ⟨q, 0, none⟩)] w fun e w' => e = .returned (.bool (!canD h u c)) ∧ Below w.heap.size w w' := by
  have zq := lt_of_cell hq
  have C := DCan_any aw ac kw kc h bm bo wm cm u c w hm hv hwm hu hc
  rw [hb, Bool.true_and] at C
  replace C := Lib.hid C
  clear hm
  go_enter Try.func113, Try.ntmps113
  go_wp2_with (go_at_call 100; go_must ((with_reducible refine C.out.mono ?_); rintro e w2 ⟨rfl, nq, rfl⟩; dsimp only))
  go_ret
  exact ⟨rfl, below_draws _ _ _⟩
theorem DFlaw4_any (aw ac : Option Addr) (kw kc : Nat) (h : DeH) (bm bo wm cm : Nat) (ad : Option Addr) (p : List (List Int)) (cp : Nat) (w : World) (hm : HallW w bm bo aw ac kw kc h wm cm) (hv : DeValid h) (hwm : wm < 8) (hwb : ∀ u, u < h.writers.length → wm.testBit u = true) (hp : p.length = h.writers.length) (hr : (p.flatten.all fun c => inB c 0 ((h.customers.length : Int) - 1)) = true) (hc : SlOk ad p.length cp) (hsz : p.flatten.length ≤ 1048576) (hi : RowsC w ad p) :
    Calls Try.prog 112 #[.pointer (some ⟨bm, 0, none⟩), .slice ad p.length cp] w fun e w' => e = .returned (.bool (wrongB h 0 p)) ∧ Below w.heap.size w w' := by
  obtain ⟨hb, hq⟩ := ptr_box w bm 94
  have EA := DEach_any ad p cp 113 #[.pointer (some ⟨w.heap.size, 0, none⟩)] (fun u c _ => !canD h u c.toNat) _ (by rw [hp]; exact hv.nw) hc hsz (hi.mono hb) (enters_of Try.func113 (by kernel_rfl) rfl)
    (fun u i hu hi ab cb V hV ho hI => by
      have h1 := inB_iff.1 (List.all_eq_true.1 hr p[u][i] (List.mem_flatten.2 ⟨p[u], List.getElem_mem hu, List.getElem_mem hi⟩))
      obtain ⟨c, e⟩ : ∃ c : Nat, p[u][i] = c := ⟨p[u][i].toNat, by omega⟩
      rw [e] at h1 ⊢
      rw [Int.toNat_natCast]
      exact DWrong_any aw ac kw kc h bm bo wm cm w.heap.size u c _ V ((hm.below hb).below hV) hv hwm (by omega) (hwb u (by omega)) (by omega) (cell_below hV hq))
  rw [eachB_any (fun u c => !canD h u c.toNat), pairs_wrong] at EA
  replace EA := Lib.hid EA
  clear hm hi hr hp
  go_enter Try.func112, Try.ntmps112
  go_wp2_with (go_at_call 107; go_must ((with_reducible refine EA.out.mono ?_); rintro e w2 ⟨rfl, hb2⟩; dsimp only))
  go_ret
  exact ⟨rfl, hb.trans (hb2.mono hb.size)⟩
end Go.Proofs.Ytchnpekgmkhacaa
