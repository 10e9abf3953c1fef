/- What is proved here: the contract of the program's Check of layer 12. Conditions: the room lies in memory. -/
import Derived.Shelf.RegionOpen
import Derived.Test.YtcgplocmncionaaGreatSeChkG
import Derived.Deep.DeepCutAuto
set_option linter.unusedVariables false
set_option linter.unusedSimpArgs false
namespace Go.Proofs.YtcgplocmncionaaGreat
open Go Go.RowKit Go.Shelf

set_option maxRecDepth 100000 in
set_option maxHeartbeats 2000000 in
theorem SChk5_any (i p q : Nat) (x : SeHeard) (r : SeRoom) (w : World) (hN : r.writers.length ≤ 4) (hK3 : r.kept.length ≤ 3) (c0 : w.cell? ⟨p, 0, none⟩ = some (.int .i64 (r.writers.length : Int))) (c1 : w.cell? ⟨q, 0, none⟩ = some (.int .i64 (r.kept.length : Int))) :
    Calls Tryz.prog 96 #[.int .i64 i, .agg #[.int .i64 x.writer, .int .i64 x.secret, .int .i64 x.day, .bool x.knew], .pointer (some ⟨p, 0, none⟩), .pointer (some ⟨q, 0, none⟩)] w fun e w' => e = .returned (.int .i64 (heardErrOf r x)) ∧ Below w.heap.size w w' := by
  obtain ⟨er, her⟩ : ∃ er : Int, er = heardErrOf r x := ⟨_, rfl⟩
  rw [← her]
  unfold heardErrOf seWho at her
  obtain ⟨wr, secret, day, knew⟩ := x
  simp only at her ⊢
  have B0 := fun (a : Nat) (W : World) h => MBeyondOne_any wr 0 ((r.writers.length : Int) - 1) a W h
  have B1 := fun (a : Nat) (W : World) h => MBeyondOne_any secret 0 ((r.kept.length : Int) - 1) a W h
  have B2 := fun (a : Nat) (W : World) h => MBeyondOne_any day 0 9 a W h
  generalize inB wr 0 ((r.writers.length : Int) - 1) = wb at B0 her
  generalize inB secret 0 ((r.kept.length : Int) - 1) = sb at B1 her
  generalize inB day 0 9 = db at B2 her
  generalize hNN : (r.writers.length : Int) = N at c0 B0
  have hN2 : N ≤ 4 := by omega
  have hN3 : 0 ≤ N := by omega
  generalize hKK : (r.kept.length : Int) = M at c1 B1
  have hM2 : M ≤ 3 := by omega
  have hM3 : 0 ≤ M := by omega
  clear hNN hKK
  have B0 := Lib.hid B0
  have B1 := Lib.hid B1
  have B2 := Lib.hid B2
  have HE := Lib.hid her
  clear her
  have hp := lt_of_cell c0
  have hq := lt_of_cell c1
  have hQ0 := Below.refl (w.heap.size + 1) (w.alloc (.cells #[.int .i64 wr, .int .i64 secret, .int .i64 day, .bool knew] 58))
  cases wb
  · go_enter Tryz.func96, Tryz.ntmps96
    go_wp2_with (go_at_call 22; go_must (refine (B0.out _ _ ?_).mono ?_; (simp); rintro e w2 ⟨rfl, hb2⟩; dsimp only))
    go_ret
    exact ⟨ret_int (by rw [HE.out]; simp), (((Below.refl _ w).alloc (Nat.le_refl _) _).alloc (by simp) _).trans (hb2.mono (by simp; omega))⟩
  · cases sb
    · go_enter Tryz.func96, Tryz.ntmps96
      go_wp2_with (first
        | (go_at_call 22; (with_reducible refine (B1.out _ _ ?_).mono ?_); (simp); rintro e w3 ⟨rfl, hb3⟩; dsimp only)
        | (go_at_call 22; go_must (refine (B0.out _ _ ?_).mono ?_; (simp); rintro e w2 ⟨rfl, hb2⟩; have hQ := (hQ0.alloc (by simp) (.cells #[.int .i64 wr] 3)).trans (hb2.mono (by simp)); have x1 := box_cell hQ 1 _ rfl; have x2 := lt_of_cell x1; have d1 := cell_below (box_old hQ) c1; have d2 := lt_of_cell d1; dsimp only)))
      go_ret
      exact ⟨ret_int (by rw [HE.out]; simp), box_old ((hQ.alloc (box_size hQ) _).trans (hb3.mono (by have := box_size hQ; simp; omega)))⟩
    · cases db
      all_goals
        go_enter Tryz.func96, Tryz.ntmps96
        go_wp2_with (first
          | (go_at_call 22; (with_reducible refine (B2.out _ _ ?_).mono ?_); (simp); rintro e w4 ⟨rfl, hb4⟩; dsimp only)
          | (go_at_call 22; (with_reducible refine (B1.out _ _ ?_).mono ?_); (simp); rintro e w3 ⟨rfl, hb3⟩; have hQ3 := (hQ.alloc (box_size hQ) (.cells #[.int .i64 secret] 3)).trans (hb3.mono (by have := box_size hQ; simp; omega)); have y1 := box_cell hQ3 2 _ rfl; have y2 := lt_of_cell y1; dsimp only)
          | (go_at_call 22; go_must (refine (B0.out _ _ ?_).mono ?_; (simp); rintro e w2 ⟨rfl, hb2⟩; have hQ := (hQ0.alloc (by simp) (.cells #[.int .i64 wr] 3)).trans (hb2.mono (by simp)); have x1 := box_cell hQ 1 _ rfl; have x2 := lt_of_cell x1; have d1 := cell_below (box_old hQ) c1; have d2 := lt_of_cell d1; dsimp only)))
        go_ret
        exact ⟨ret_int (by rw [HE.out]; simp), box_old ((hQ3.alloc (box_size hQ3) _).trans (hb4.mono (by have := box_size hQ3; simp; omega)))⟩

theorem part_long (part : Int) (n most : Nat) (f : Nat → Int) (next : Int × Int × Int) (h : most < n) : checkPart part n most f next = (part, 0, 3) := checkPart_long h
theorem part_bad (part : Int) (n most : Nat) (f : Nat → Int) (next : Int × Int × Int) (h : n ≤ most) (h2 : (failN n f).2 ≠ 0) : checkPart part n most f next = (part, (failN n f).1, (failN n f).2) := by
  unfold checkPart
  unfold failN at h2 ⊢
  rw [if_neg (by omega)]
  cases hf : firstErr n f with
  | none => rw [hf] at h2; exact absurd rfl h2
  | some i => rfl
theorem part_good (part : Int) (n most : Nat) (f : Nat → Int) (next : Int × Int × Int) (h : n ≤ most) (h2 : (failN n f).2 = 0) : checkPart part n most f next = next := by
  unfold checkPart
  unfold failN at h2
  rw [if_neg (by omega)]
  cases hf : firstErr n f with
  | none => rfl
  | some i =>
    rw [hf] at h2
    have h3 := List.find?_some (p := fun i => f i != 0) hf
    simp at h3
    exact absurd h2 h3

/-- The cells of the box of a room, of the two counts. -/
structure ChkW (w W : World) (a1 a2 a3 a4 a5 : Option Addr) (k1 k2 k3 k4 k5 : Nat) (r : SeRoom) (p q : Nat) : Prop where
  box : Below (w.heap.size + 1) (w.alloc (.cells #[.slice a1 r.writers.length k1, .slice a2 r.kept.length k2, .slice a3 r.leaks.length k3, .slice a4 r.letters.length k4, .slice a5 r.heard.length k5] 28)) W
  wr : W.cell? ⟨p, 0, none⟩ = some (.int .i64 (r.writers.length : Int))
  kp : W.cell? ⟨q, 0, none⟩ = some (.int .i64 (r.kept.length : Int))
theorem ChkW.on {w W W' : World} {a1 a2 a3 a4 a5 : Option Addr} {k1 k2 k3 k4 k5 : Nat} {r : SeRoom} {p q : Nat} (h : ChkW w W a1 a2 a3 a4 a5 k1 k2 k3 k4 k5 r p q) (hb : Below W.heap.size W W') : ChkW w W' a1 a2 a3 a4 a5 k1 k2 k3 k4 k5 r p q :=
  ⟨box_on h.box hb, cell_below hb h.wr, cell_below hb h.kp⟩
theorem ChkW.five {w W : World} {a1 a2 a3 a4 a5 : Option Addr} {k1 k2 k3 k4 k5 : Nat} {r : SeRoom} {p q : Nat} (h : ChkW w W a1 a2 a3 a4 a5 k1 k2 k3 k4 k5 r p q) :
    W.cell? ⟨w.heap.size, 0, none⟩ = some (.slice a1 r.writers.length k1) ∧ W.cell? ⟨w.heap.size, 1, none⟩ = some (.slice a2 r.kept.length k2) ∧ W.cell? ⟨w.heap.size, 2, none⟩ = some (.slice a3 r.leaks.length k3) ∧ W.cell? ⟨w.heap.size, 3, none⟩ = some (.slice a4 r.letters.length k4) ∧ W.cell? ⟨w.heap.size, 4, none⟩ = some (.slice a5 r.heard.length k5) ∧ w.heap.size < W.heap.size ∧ p < W.heap.size ∧ q < W.heap.size :=
  ⟨box_cell h.box 0 _ rfl, box_cell h.box 1 _ rfl, box_cell h.box 2 _ rfl, box_cell h.box 3 _ rfl, box_cell h.box 4 _ rfl, box_size h.box, lt_of_cell h.wr, lt_of_cell h.kp⟩

theorem SPart1_any (a1 a2 a3 a4 a5 : Option Addr) (k1 k2 k3 k4 k5 : Nat) (r : SeRoom) (p q : Nat) (w W : World) (hm : RoomC w a1 a2 a3 a4 a5 k1 k2 k3 k4 k5 r) (h : ChkW w W a1 a2 a3 a4 a5 k1 k2 k3 k4 k5 r p q) :
    Calls Tryz.prog 81 #[.slice a1 r.writers.length k1, .func (.func 82) #[] #[.pointer (some ⟨w.heap.size, 0, none⟩)]] W fun e w' => e = .returned (.tuple #[.int .i64 (failN r.writers.length (writerErr r)).1, .int .i64 (failN r.writers.length (writerErr r)).2]) ∧ Below W.heap.size W w' :=
  SFailS_any _ r.writers _ _ #[.pointer (some ⟨w.heap.size, 0, none⟩)] (writerErr r) W hm.ok1.len (hm.mono (box_old h.box)).writers (enters_of Tryz.func82 (by kernel_rfl) rfl) (fun k hk V hV => by
    have := SChk1_any _ r.writers _ k w.heap.size V hm.ok1 (hm.mono (box_old (h.on hV).box)).writers hm.wsize hk (h.on hV).five.1
    have e : writerErr r k = fresh r.writers[k] (r.writers.take k) := by unfold writerErr; rw [List.getElem?_eq_getElem hk]
    rw [e]; exact this)
theorem SPart2_any (a1 a2 a3 a4 a5 : Option Addr) (k1 k2 k3 k4 k5 : Nat) (r : SeRoom) (p q : Nat) (w W : World) (hm : RoomC w a1 a2 a3 a4 a5 k1 k2 k3 k4 k5 r) (h : ChkW w W a1 a2 a3 a4 a5 k1 k2 k3 k4 k5 r p q) (h4 : r.writers.length ≤ 4) :
    Calls Tryz.prog 85 #[.slice a2 r.kept.length k2, .func (.func 86) #[] #[.pointer (some ⟨p, 0, none⟩)]] W fun e w' => e = .returned (.tuple #[.int .i64 (failN r.kept.length (keptErr r)).1, .int .i64 (failN r.kept.length (keptErr r)).2]) ∧ Below W.heap.size W w' :=
  SFailI_any _ r.kept _ _ #[.pointer (some ⟨p, 0, none⟩)] (keptErr r) W hm.ok2.len (hm.mono (box_old h.box)).kept (enters_of Tryz.func86 (by kernel_rfl) rfl) (fun k hk V hV => by
    have := SChk2_any k p r.writers.length r.kept[k] V h4 (h.on hV).wr
    have e : keptErr r k = if inB r.kept[k] 0 (allBits r.writers.length) then 0 else 4 := by unfold keptErr; rw [List.getElem?_eq_getElem hk]
    rw [e]; exact this)
theorem SPart3_any (a1 a2 a3 a4 a5 : Option Addr) (k1 k2 k3 k4 k5 : Nat) (r : SeRoom) (p q : Nat) (w W : World) (hm : RoomC w a1 a2 a3 a4 a5 k1 k2 k3 k4 k5 r) (h : ChkW w W a1 a2 a3 a4 a5 k1 k2 k3 k4 k5 r p q) (h4 : r.writers.length ≤ 4) :
    Calls Tryz.prog 87 #[.slice a3 r.leaks.length k3, .func (.func 88) #[] #[.pointer (some ⟨p, 0, none⟩), .pointer (some ⟨w.heap.size, 0, none⟩)]] W fun e w' => e = .returned (.tuple #[.int .i64 (failN r.leaks.length (leakErr r)).1, .int .i64 (failN r.leaks.length (leakErr r)).2]) ∧ Below W.heap.size W w' :=
  SFailL_any _ r.leaks _ _ #[.pointer (some ⟨p, 0, none⟩), .pointer (some ⟨w.heap.size, 0, none⟩)] (leakErr r) W hm.ok3.len (hm.mono (box_old h.box)).leaks (enters_of Tryz.func88 (by kernel_rfl) rfl) (fun k hk V hV =>
    SChk3_any _ _ _ _ _ _ _ _ _ _ r k p w.heap.size V (hm.mono (box_old (h.on hV).box)) hk h4 (h.on hV).wr (h.on hV).five.2.2.1)
theorem SPart4_any (a1 a2 a3 a4 a5 : Option Addr) (k1 k2 k3 k4 k5 : Nat) (r : SeRoom) (p q : Nat) (w W : World) (hm : RoomC w a1 a2 a3 a4 a5 k1 k2 k3 k4 k5 r) (h : ChkW w W a1 a2 a3 a4 a5 k1 k2 k3 k4 k5 r p q) (h4 : r.writers.length ≤ 4) (h3 : r.kept.length ≤ 3) :
    Calls Tryz.prog 91 #[.slice a4 r.letters.length k4, .func (.func 92) #[] #[.pointer (some ⟨q, 0, none⟩), .pointer (some ⟨p, 0, none⟩), .pointer (some ⟨w.heap.size, 0, none⟩)]] W fun e w' => e = .returned (.tuple #[.int .i64 (failN r.letters.length (letterErr r)).1, .int .i64 (failN r.letters.length (letterErr r)).2]) ∧ Below W.heap.size W w' :=
  SFailT_any _ r.letters _ _ #[.pointer (some ⟨q, 0, none⟩), .pointer (some ⟨p, 0, none⟩), .pointer (some ⟨w.heap.size, 0, none⟩)] (letterErr r) W hm.ok4.len (hm.mono (box_old h.box)).letters (enters_of Tryz.func92 (by kernel_rfl) rfl) (fun k hk V hV =>
    SChk4_any _ _ _ _ _ _ _ _ _ _ r k q p w.heap.size V (hm.mono (box_old (h.on hV).box)) hk h4 h3 (h.on hV).kp (h.on hV).wr (h.on hV).five.2.2.2.1)
theorem SPart5_any (a1 a2 a3 a4 a5 : Option Addr) (k1 k2 k3 k4 k5 : Nat) (r : SeRoom) (p q : Nat) (w W : World) (hm : RoomC w a1 a2 a3 a4 a5 k1 k2 k3 k4 k5 r) (h : ChkW w W a1 a2 a3 a4 a5 k1 k2 k3 k4 k5 r p q) (h4 : r.writers.length ≤ 4) (h3 : r.kept.length ≤ 3) :
    Calls Tryz.prog 95 #[.slice a5 r.heard.length k5, .func (.func 96) #[] #[.pointer (some ⟨p, 0, none⟩), .pointer (some ⟨q, 0, none⟩)]] W fun e w' => e = .returned (.tuple #[.int .i64 (failN r.heard.length (heardErr r)).1, .int .i64 (failN r.heard.length (heardErr r)).2]) ∧ Below W.heap.size W w' :=
  SFailH_any _ r.heard _ _ #[.pointer (some ⟨p, 0, none⟩), .pointer (some ⟨q, 0, none⟩)] (heardErr r) W hm.ok5.len (hm.mono (box_old h.box)).heard (enters_of Tryz.func96 (by kernel_rfl) rfl) (fun k hk V hV => by
    have := SChk5_any k p q r.heard[k] r V h4 h3 (h.on hV).wr (h.on hV).kp
    have e : heardErr r k = heardErrOf r r.heard[k] := by unfold heardErr; rw [List.getElem?_eq_getElem hk]
    rw [e]; exact this)

set_option maxRecDepth 100000 in
set_option maxHeartbeats 4000000 in
theorem SCheck_any (a1 a2 a3 a4 a5 : Option Addr) (k1 k2 k3 k4 k5 : Nat) (r : SeRoom) (w : World) (hm : RoomC w a1 a2 a3 a4 a5 k1 k2 k3 k4 k5 r) :
    Calls Tryz.prog 52 #[(.agg #[.slice a1 r.writers.length k1, .slice a2 r.kept.length k2, .slice a3 r.leaks.length k3, .slice a4 r.letters.length k4, .slice a5 r.heard.length k5])] w fun e w' => e = .returned (.tuple #[.int .i64 (seCheck r).1, .int .i64 (seCheck r).2.1, .int .i64 (seCheck r).2.2]) ∧ Below w.heap.size w w' := by
  have l1 := hm.ok1.len
  have l2 := hm.ok2.len
  have l3 := hm.ok3.len
  have l4 := hm.ok4.len
  have l5 := hm.ok5.len
  have HC : Hid (seCheck r = (checkPart 1 r.writers.length 4 (writerErr r) (checkPart 2 r.kept.length 3 (keptErr r) (checkPart 3 r.leaks.length 4 (leakErr r) (checkPart 4 r.letters.length 4 (letterErr r) (checkPart 5 r.heard.length 3 (heardErr r) (0, 0, 0))))))) := rfl
  generalize seCheck r = res at HC ⊢
  have P1 := Lib.hid (fun (p q : Nat) (W : World) (h : ChkW w W a1 a2 a3 a4 a5 k1 k2 k3 k4 k5 r p q) => SPart1_any _ _ _ _ _ _ _ _ _ _ r p q w W hm h)
  have Xlong1 := Lib.hid (part_long 1 r.writers.length 4 (writerErr r) (checkPart 2 r.kept.length 3 (keptErr r) (checkPart 3 r.leaks.length 4 (leakErr r) (checkPart 4 r.letters.length 4 (letterErr r) (checkPart 5 r.heard.length 3 (heardErr r) (0, 0, 0))))))
  have Xbad1 := Lib.hid (part_bad 1 r.writers.length 4 (writerErr r) (checkPart 2 r.kept.length 3 (keptErr r) (checkPart 3 r.leaks.length 4 (leakErr r) (checkPart 4 r.letters.length 4 (letterErr r) (checkPart 5 r.heard.length 3 (heardErr r) (0, 0, 0))))))
  have Xgood1 := Lib.hid (part_good 1 r.writers.length 4 (writerErr r) (checkPart 2 r.kept.length 3 (keptErr r) (checkPart 3 r.leaks.length 4 (leakErr r) (checkPart 4 r.letters.length 4 (letterErr r) (checkPart 5 r.heard.length 3 (heardErr r) (0, 0, 0))))))
  have P2 := Lib.hid (fun (p q : Nat) (W : World) (h : ChkW w W a1 a2 a3 a4 a5 k1 k2 k3 k4 k5 r p q) => SPart2_any _ _ _ _ _ _ _ _ _ _ r p q w W hm h)
  have Xlong2 := Lib.hid (part_long 2 r.kept.length 3 (keptErr r) (checkPart 3 r.leaks.length 4 (leakErr r) (checkPart 4 r.letters.length 4 (letterErr r) (checkPart 5 r.heard.length 3 (heardErr r) (0, 0, 0)))))
  have Xbad2 := Lib.hid (part_bad 2 r.kept.length 3 (keptErr r) (checkPart 3 r.leaks.length 4 (leakErr r) (checkPart 4 r.letters.length 4 (letterErr r) (checkPart 5 r.heard.length 3 (heardErr r) (0, 0, 0)))))
  have Xgood2 := Lib.hid (part_good 2 r.kept.length 3 (keptErr r) (checkPart 3 r.leaks.length 4 (leakErr r) (checkPart 4 r.letters.length 4 (letterErr r) (checkPart 5 r.heard.length 3 (heardErr r) (0, 0, 0)))))
  have P3 := Lib.hid (fun (p q : Nat) (W : World) (h : ChkW w W a1 a2 a3 a4 a5 k1 k2 k3 k4 k5 r p q) => SPart3_any _ _ _ _ _ _ _ _ _ _ r p q w W hm h)
  have Xlong3 := Lib.hid (part_long 3 r.leaks.length 4 (leakErr r) (checkPart 4 r.letters.length 4 (letterErr r) (checkPart 5 r.heard.length 3 (heardErr r) (0, 0, 0))))
  have Xbad3 := Lib.hid (part_bad 3 r.leaks.length 4 (leakErr r) (checkPart 4 r.letters.length 4 (letterErr r) (checkPart 5 r.heard.length 3 (heardErr r) (0, 0, 0))))
  have Xgood3 := Lib.hid (part_good 3 r.leaks.length 4 (leakErr r) (checkPart 4 r.letters.length 4 (letterErr r) (checkPart 5 r.heard.length 3 (heardErr r) (0, 0, 0))))
  have P4 := Lib.hid (fun (p q : Nat) (W : World) (h : ChkW w W a1 a2 a3 a4 a5 k1 k2 k3 k4 k5 r p q) => SPart4_any _ _ _ _ _ _ _ _ _ _ r p q w W hm h)
  have Xlong4 := Lib.hid (part_long 4 r.letters.length 4 (letterErr r) (checkPart 5 r.heard.length 3 (heardErr r) (0, 0, 0)))
  have Xbad4 := Lib.hid (part_bad 4 r.letters.length 4 (letterErr r) (checkPart 5 r.heard.length 3 (heardErr r) (0, 0, 0)))
  have Xgood4 := Lib.hid (part_good 4 r.letters.length 4 (letterErr r) (checkPart 5 r.heard.length 3 (heardErr r) (0, 0, 0)))
  have P5 := Lib.hid (fun (p q : Nat) (W : World) (h : ChkW w W a1 a2 a3 a4 a5 k1 k2 k3 k4 k5 r p q) => SPart5_any _ _ _ _ _ _ _ _ _ _ r p q w W hm h)
  have Xlong5 := Lib.hid (part_long 5 r.heard.length 3 (heardErr r) (0, 0, 0))
  have Xbad5 := Lib.hid (part_bad 5 r.heard.length 3 (heardErr r) (0, 0, 0))
  have Xgood5 := Lib.hid (part_good 5 r.heard.length 3 (heardErr r) (0, 0, 0))
  generalize (checkPart 1 r.writers.length 4 (writerErr r) (checkPart 2 r.kept.length 3 (keptErr r) (checkPart 3 r.leaks.length 4 (leakErr r) (checkPart 4 r.letters.length 4 (letterErr r) (checkPart 5 r.heard.length 3 (heardErr r) (0, 0, 0)))))) = z0 at *
  generalize (checkPart 2 r.kept.length 3 (keptErr r) (checkPart 3 r.leaks.length 4 (leakErr r) (checkPart 4 r.letters.length 4 (letterErr r) (checkPart 5 r.heard.length 3 (heardErr r) (0, 0, 0))))) = z1 at *
  generalize (checkPart 3 r.leaks.length 4 (leakErr r) (checkPart 4 r.letters.length 4 (letterErr r) (checkPart 5 r.heard.length 3 (heardErr r) (0, 0, 0)))) = z2 at *
  generalize (checkPart 4 r.letters.length 4 (letterErr r) (checkPart 5 r.heard.length 3 (heardErr r) (0, 0, 0))) = z3 at *
  generalize (checkPart 5 r.heard.length 3 (heardErr r) (0, 0, 0)) = z4 at *
  generalize failN r.writers.length (writerErr r) = f1 at *
  obtain ⟨i1, e1⟩ := f1
  generalize failN r.kept.length (keptErr r) = f2 at *
  obtain ⟨i2, e2⟩ := f2
  generalize failN r.leaks.length (leakErr r) = f3 at *
  obtain ⟨i3, e3⟩ := f3
  generalize failN r.letters.length (letterErr r) = f4 at *
  obtain ⟨i4, e4⟩ := f4
  generalize failN r.heard.length (heardErr r) = f5 at *
  obtain ⟨i5, e5⟩ := f5
  simp only at P1 P2 P3 P4 P5 Xbad1 Xbad2 Xbad3 Xbad4 Xbad5 Xgood1 Xgood2 Xgood3 Xgood4 Xgood5
  have hQ := Below.refl (w.heap.size + 1) (w.alloc (.cells #[.slice a1 r.writers.length k1, .slice a2 r.kept.length k2, .slice a3 r.leaks.length k3, .slice a4 r.letters.length k4, .slice a5 r.heard.length k5] 28))
  go_enter Tryz.func52, Tryz.ntmps52
  go_upto_region 1 with (fail)
  go_cut [5, 6] (fun u v W => ∃ p q : Nat, u = .pointer (some ⟨p, 0, none⟩) ∧ v = .pointer (some ⟨q, 0, none⟩) ∧ ChkW w W a1 a2 a3 a4 a5 k1 k2 k3 k4 k5 r p q)
  case first =>
    (focus go_region)
    all_goals
      go_wp2
      go_meet
      case rel => exact ⟨_, _, rfl, rfl, below_drew' ((hQ.alloc (by simp) _).alloc (by simp) _), by go_simp, by go_simp⟩
  case rest =>
    obtain ⟨p, q, rfl, rfl, C0⟩ := hcut
    rename World => V
    obtain ⟨x0, x1, x2, x3, x4, x5, x6, x7⟩ := C0.five
    have y0 := C0.wr
    have z0 := C0.kp
    clear hQ
    by_cases h1 : r.writers.length ≤ 4
    · have g1 : ¬ 4 < r.writers.length := by omega
      by_cases q1 : e1 = 0
      · have k1 := nei_f q1
        replace HC := Lib.hid (HC.out.trans (Xgood1.out h1 q1))
        clear q1
        by_cases h2 : r.kept.length ≤ 3
        · have g2 : ¬ 3 < r.kept.length := by omega
          by_cases q2 : e2 = 0
          · have k2 := nei_f q2
            replace HC := Lib.hid (HC.out.trans (Xgood2.out h2 q2))
            clear q2
            by_cases h3 : r.leaks.length ≤ 4
            · have g3 : ¬ 4 < r.leaks.length := by omega
              by_cases q3 : e3 = 0
              · have k3 := nei_f q3
                replace HC := Lib.hid (HC.out.trans (Xgood3.out h3 q3))
                clear q3
                by_cases h4 : r.letters.length ≤ 4
                · have g4 : ¬ 4 < r.letters.length := by omega
                  by_cases q4 : e4 = 0
                  · have k4 := nei_f q4
                    replace HC := Lib.hid (HC.out.trans (Xgood4.out h4 q4))
                    clear q4
                    by_cases h5 : r.heard.length ≤ 3
                    · have g5 : ¬ 3 < r.heard.length := by omega
                      by_cases q5 : e5 = 0
                      · have k5 := nei_f q5
                        replace HC := Lib.hid (HC.out.trans (Xgood5.out h5 q5))
                        clear q5
                        have HR := HC
                        go_wp2_with (first | (go_at_call 95; go_must (refine (P5.out _ _ _ C4 h1 h2).mono ?_; rintro e w5 ⟨rfl, hb5⟩; have C5 := C4.on hb5; obtain ⟨x50, x51, x52, x53, x54, x55, x56, x57⟩ := C5.five; have y5 := C5.wr; have z5 := C5.kp; dsimp only)) | (go_at_call 91; go_must (refine (P4.out _ _ _ C3 h1 h2).mono ?_; rintro e w4 ⟨rfl, hb4⟩; have C4 := C3.on hb4; obtain ⟨x40, x41, x42, x43, x44, x45, x46, x47⟩ := C4.five; have y4 := C4.wr; have z4 := C4.kp; dsimp only)) | (go_at_call 87; go_must (refine (P3.out _ _ _ C2 h1).mono ?_; rintro e w3 ⟨rfl, hb3⟩; have C3 := C2.on hb3; obtain ⟨x30, x31, x32, x33, x34, x35, x36, x37⟩ := C3.five; have y3 := C3.wr; have z3 := C3.kp; dsimp only)) | (go_at_call 85; go_must (refine (P2.out _ _ _ C1 h1).mono ?_; rintro e w2 ⟨rfl, hb2⟩; have C2 := C1.on hb2; obtain ⟨x20, x21, x22, x23, x24, x25, x26, x27⟩ := C2.five; have y2 := C2.wr; have z2 := C2.kp; dsimp only)) | (go_at_call 81; go_must (refine (P1.out _ _ _ C0).mono ?_; rintro e w1 ⟨rfl, hb1⟩; have C1 := C0.on hb1; obtain ⟨x10, x11, x12, x13, x14, x15, x16, x17⟩ := C1.five; have y1 := C1.wr; have z1 := C1.kp; dsimp only)))
                        go_ret3
                        have hr := HR.out
                        subst hr
                        exact ⟨rfl, box_old C5.box⟩
                      · have k5 := nei_t q5
                        have HR := Lib.hid (HC.out.trans (Xbad5.out h5 q5))
                        clear q5
                        go_wp2_with (first | (go_at_call 95; go_must (refine (P5.out _ _ _ C4 h1 h2).mono ?_; rintro e w5 ⟨rfl, hb5⟩; have C5 := C4.on hb5; obtain ⟨x50, x51, x52, x53, x54, x55, x56, x57⟩ := C5.five; have y5 := C5.wr; have z5 := C5.kp; dsimp only)) | (go_at_call 91; go_must (refine (P4.out _ _ _ C3 h1 h2).mono ?_; rintro e w4 ⟨rfl, hb4⟩; have C4 := C3.on hb4; obtain ⟨x40, x41, x42, x43, x44, x45, x46, x47⟩ := C4.five; have y4 := C4.wr; have z4 := C4.kp; dsimp only)) | (go_at_call 87; go_must (refine (P3.out _ _ _ C2 h1).mono ?_; rintro e w3 ⟨rfl, hb3⟩; have C3 := C2.on hb3; obtain ⟨x30, x31, x32, x33, x34, x35, x36, x37⟩ := C3.five; have y3 := C3.wr; have z3 := C3.kp; dsimp only)) | (go_at_call 85; go_must (refine (P2.out _ _ _ C1 h1).mono ?_; rintro e w2 ⟨rfl, hb2⟩; have C2 := C1.on hb2; obtain ⟨x20, x21, x22, x23, x24, x25, x26, x27⟩ := C2.five; have y2 := C2.wr; have z2 := C2.kp; dsimp only)) | (go_at_call 81; go_must (refine (P1.out _ _ _ C0).mono ?_; rintro e w1 ⟨rfl, hb1⟩; have C1 := C0.on hb1; obtain ⟨x10, x11, x12, x13, x14, x15, x16, x17⟩ := C1.five; have y1 := C1.wr; have z1 := C1.kp; dsimp only)))
                        go_ret3
                        have hr := HR.out
                        subst hr
                        exact ⟨rfl, box_old C5.box⟩
                    · have g5 : 3 < r.heard.length := by omega
                      have HR := Lib.hid (HC.out.trans (Xlong5.out g5))
                      go_wp2_with (first | (go_at_call 91; go_must (refine (P4.out _ _ _ C3 h1 h2).mono ?_; rintro e w4 ⟨rfl, hb4⟩; have C4 := C3.on hb4; obtain ⟨x40, x41, x42, x43, x44, x45, x46, x47⟩ := C4.five; have y4 := C4.wr; have z4 := C4.kp; dsimp only)) | (go_at_call 87; go_must (refine (P3.out _ _ _ C2 h1).mono ?_; rintro e w3 ⟨rfl, hb3⟩; have C3 := C2.on hb3; obtain ⟨x30, x31, x32, x33, x34, x35, x36, x37⟩ := C3.five; have y3 := C3.wr; have z3 := C3.kp; dsimp only)) | (go_at_call 85; go_must (refine (P2.out _ _ _ C1 h1).mono ?_; rintro e w2 ⟨rfl, hb2⟩; have C2 := C1.on hb2; obtain ⟨x20, x21, x22, x23, x24, x25, x26, x27⟩ := C2.five; have y2 := C2.wr; have z2 := C2.kp; dsimp only)) | (go_at_call 81; go_must (refine (P1.out _ _ _ C0).mono ?_; rintro e w1 ⟨rfl, hb1⟩; have C1 := C0.on hb1; obtain ⟨x10, x11, x12, x13, x14, x15, x16, x17⟩ := C1.five; have y1 := C1.wr; have z1 := C1.kp; dsimp only)))
                      go_ret3
                      have hr := HR.out
                      subst hr
                      exact ⟨rfl, box_old C4.box⟩
                  · have k4 := nei_t q4
                    have HR := Lib.hid (HC.out.trans (Xbad4.out h4 q4))
                    clear q4
                    go_wp2_with (first | (go_at_call 91; go_must (refine (P4.out _ _ _ C3 h1 h2).mono ?_; rintro e w4 ⟨rfl, hb4⟩; have C4 := C3.on hb4; obtain ⟨x40, x41, x42, x43, x44, x45, x46, x47⟩ := C4.five; have y4 := C4.wr; have z4 := C4.kp; dsimp only)) | (go_at_call 87; go_must (refine (P3.out _ _ _ C2 h1).mono ?_; rintro e w3 ⟨rfl, hb3⟩; have C3 := C2.on hb3; obtain ⟨x30, x31, x32, x33, x34, x35, x36, x37⟩ := C3.five; have y3 := C3.wr; have z3 := C3.kp; dsimp only)) | (go_at_call 85; go_must (refine (P2.out _ _ _ C1 h1).mono ?_; rintro e w2 ⟨rfl, hb2⟩; have C2 := C1.on hb2; obtain ⟨x20, x21, x22, x23, x24, x25, x26, x27⟩ := C2.five; have y2 := C2.wr; have z2 := C2.kp; dsimp only)) | (go_at_call 81; go_must (refine (P1.out _ _ _ C0).mono ?_; rintro e w1 ⟨rfl, hb1⟩; have C1 := C0.on hb1; obtain ⟨x10, x11, x12, x13, x14, x15, x16, x17⟩ := C1.five; have y1 := C1.wr; have z1 := C1.kp; dsimp only)))
                    go_ret3
                    have hr := HR.out
                    subst hr
                    exact ⟨rfl, box_old C4.box⟩
                · have g4 : 4 < r.letters.length := by omega
                  have HR := Lib.hid (HC.out.trans (Xlong4.out g4))
                  go_wp2_with (first | (go_at_call 87; go_must (refine (P3.out _ _ _ C2 h1).mono ?_; rintro e w3 ⟨rfl, hb3⟩; have C3 := C2.on hb3; obtain ⟨x30, x31, x32, x33, x34, x35, x36, x37⟩ := C3.five; have y3 := C3.wr; have z3 := C3.kp; dsimp only)) | (go_at_call 85; go_must (refine (P2.out _ _ _ C1 h1).mono ?_; rintro e w2 ⟨rfl, hb2⟩; have C2 := C1.on hb2; obtain ⟨x20, x21, x22, x23, x24, x25, x26, x27⟩ := C2.five; have y2 := C2.wr; have z2 := C2.kp; dsimp only)) | (go_at_call 81; go_must (refine (P1.out _ _ _ C0).mono ?_; rintro e w1 ⟨rfl, hb1⟩; have C1 := C0.on hb1; obtain ⟨x10, x11, x12, x13, x14, x15, x16, x17⟩ := C1.five; have y1 := C1.wr; have z1 := C1.kp; dsimp only)))
                  go_ret3
                  have hr := HR.out
                  subst hr
                  exact ⟨rfl, box_old C3.box⟩
              · have k3 := nei_t q3
                have HR := Lib.hid (HC.out.trans (Xbad3.out h3 q3))
                clear q3
                go_wp2_with (first | (go_at_call 87; go_must (refine (P3.out _ _ _ C2 h1).mono ?_; rintro e w3 ⟨rfl, hb3⟩; have C3 := C2.on hb3; obtain ⟨x30, x31, x32, x33, x34, x35, x36, x37⟩ := C3.five; have y3 := C3.wr; have z3 := C3.kp; dsimp only)) | (go_at_call 85; go_must (refine (P2.out _ _ _ C1 h1).mono ?_; rintro e w2 ⟨rfl, hb2⟩; have C2 := C1.on hb2; obtain ⟨x20, x21, x22, x23, x24, x25, x26, x27⟩ := C2.five; have y2 := C2.wr; have z2 := C2.kp; dsimp only)) | (go_at_call 81; go_must (refine (P1.out _ _ _ C0).mono ?_; rintro e w1 ⟨rfl, hb1⟩; have C1 := C0.on hb1; obtain ⟨x10, x11, x12, x13, x14, x15, x16, x17⟩ := C1.five; have y1 := C1.wr; have z1 := C1.kp; dsimp only)))
                go_ret3
                have hr := HR.out
                subst hr
                exact ⟨rfl, box_old C3.box⟩
            · have g3 : 4 < r.leaks.length := by omega
              have HR := Lib.hid (HC.out.trans (Xlong3.out g3))
              go_wp2_with (first | (go_at_call 85; go_must (refine (P2.out _ _ _ C1 h1).mono ?_; rintro e w2 ⟨rfl, hb2⟩; have C2 := C1.on hb2; obtain ⟨x20, x21, x22, x23, x24, x25, x26, x27⟩ := C2.five; have y2 := C2.wr; have z2 := C2.kp; dsimp only)) | (go_at_call 81; go_must (refine (P1.out _ _ _ C0).mono ?_; rintro e w1 ⟨rfl, hb1⟩; have C1 := C0.on hb1; obtain ⟨x10, x11, x12, x13, x14, x15, x16, x17⟩ := C1.five; have y1 := C1.wr; have z1 := C1.kp; dsimp only)))
              go_ret3
              have hr := HR.out
              subst hr
              exact ⟨rfl, box_old C2.box⟩
          · have k2 := nei_t q2
            have HR := Lib.hid (HC.out.trans (Xbad2.out h2 q2))
            clear q2
            go_wp2_with (first | (go_at_call 85; go_must (refine (P2.out _ _ _ C1 h1).mono ?_; rintro e w2 ⟨rfl, hb2⟩; have C2 := C1.on hb2; obtain ⟨x20, x21, x22, x23, x24, x25, x26, x27⟩ := C2.five; have y2 := C2.wr; have z2 := C2.kp; dsimp only)) | (go_at_call 81; go_must (refine (P1.out _ _ _ C0).mono ?_; rintro e w1 ⟨rfl, hb1⟩; have C1 := C0.on hb1; obtain ⟨x10, x11, x12, x13, x14, x15, x16, x17⟩ := C1.five; have y1 := C1.wr; have z1 := C1.kp; dsimp only)))
            go_ret3
            have hr := HR.out
            subst hr
            exact ⟨rfl, box_old C2.box⟩
        · have g2 : 3 < r.kept.length := by omega
          have HR := Lib.hid (HC.out.trans (Xlong2.out g2))
          go_wp2_with (first | (go_at_call 81; go_must (refine (P1.out _ _ _ C0).mono ?_; rintro e w1 ⟨rfl, hb1⟩; have C1 := C0.on hb1; obtain ⟨x10, x11, x12, x13, x14, x15, x16, x17⟩ := C1.five; have y1 := C1.wr; have z1 := C1.kp; dsimp only)))
          go_ret3
          have hr := HR.out
          subst hr
          exact ⟨rfl, box_old C1.box⟩
      · have k1 := nei_t q1
        have HR := Lib.hid (HC.out.trans (Xbad1.out h1 q1))
        clear q1
        go_wp2_with (first | (go_at_call 81; go_must (refine (P1.out _ _ _ C0).mono ?_; rintro e w1 ⟨rfl, hb1⟩; have C1 := C0.on hb1; obtain ⟨x10, x11, x12, x13, x14, x15, x16, x17⟩ := C1.five; have y1 := C1.wr; have z1 := C1.kp; dsimp only)))
        go_ret3
        have hr := HR.out
        subst hr
        exact ⟨rfl, box_old C1.box⟩
    · have g1 : 4 < r.writers.length := by omega
      have HR := Lib.hid (HC.out.trans (Xlong1.out g1))
      go_wp2
      go_ret3
      have hr := HR.out
      subst hr
      exact ⟨rfl, box_old C0.box⟩
end Go.Proofs.YtcgplocmncionaaGreat
