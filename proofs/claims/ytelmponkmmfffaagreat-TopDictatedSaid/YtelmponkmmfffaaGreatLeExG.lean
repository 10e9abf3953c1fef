/- What is proved here: the contract of Apply, where all marks are of the letter and none turns a word. Conditions: the letter is one, and lies in memory with the marks. -/
/- What is proved here: the examples of layer 2: what the plain functions say of the shelf and letters of the laws' Awake. No condition. -/
import Derived.Test.YtelmponkmmfffaaGreatLeFewest
import Derived.Test.YtelmponkmmfffaaGreatLeOffG
import Derived.Test.YtelmponkmmfffaaGreatLeMakeG
import Derived.Test.YtelmponkmmfffaaGreatLeCntG
import Derived.Test.YtelmponkmmfffaaGreatLrSameG
import Derived.Test.YtelmponkmmfffaaGreatLeTextG
import Derived.Test.YtelmponkmmfffaaGreatLeOfG
set_option linter.unusedVariables false
set_option linter.unusedSimpArgs false
namespace Go.Proofs.YtelmponkmmfffaaGreat
open Go Go.RowKit Go.Shelf
attribute [local go_sem] Oper.semAt_some store_fnL acts_index0 acts_index1 acts_index2 acts_index3 acts_field0 acts_field1 acts_field2 acts_field3
/-- What was read and is written behind a mark. -/
def stepA (l : List ByteArray) (s : Nat × List ByteArray) (x : Nat × ByteArray) : Option (Nat × List ByteArray) :=
  match x.1 with
  | 0 => if x.2 = noW ∧ s.1 < l.length then some (s.1 + 1, s.2 ++ [l[s.1]?.getD noW]) else none
  | 2 => if x.2 = noW ∧ s.1 < l.length then some (s.1 + 1, s.2) else none
  | 3 => if wordB x.2 = true then some (s.1, s.2 ++ [x.2]) else none
  | _ => none
def runA (l : List ByteArray) : Nat × List ByteArray → List (Nat × ByteArray) → Option (Nat × List ByteArray)
  | s, [] => some s
  | s, x :: ms => match stepA l s x with | none => none | some t => runA l t ms
theorem runA_app (l : List ByteArray) : ∀ (a b : List (Nat × ByteArray)) (s : Nat × List ByteArray), runA l s (a ++ b) = match runA l s a with | none => none | some t => runA l t b
  | [], _, _ => rfl
  | x :: a, b, s => by
    simp only [List.cons_append, runA]
    cases stepA l s x with
    | none => rfl
    | some t => exact runA_app l a b t
theorem runA_at {l : List ByteArray} {m : List (Nat × ByteArray)} {s0 r : Nat × List ByteArray} (h : runA l s0 m = some r) (k : Nat) (hk : k < m.length) : ∃ s t, runA l s0 (m.take k) = some s ∧ stepA l s m[k] = some t ∧ runA l s0 (m.take (k + 1)) = some t := by
  have e : m = m.take (k + 1) ++ m.drop (k + 1) := (List.take_append_drop _ _).symm
  have e2 : m.take (k + 1) = m.take k ++ [m[k]] := by simp
  rw [e, runA_app] at h
  cases h1 : runA l s0 (m.take (k + 1)) with
  | none => rw [h1] at h; cases h
  | some t =>
    have h2 := h1
    rw [e2, runA_app] at h2
    cases h3 : runA l s0 (m.take k) with
    | none => rw [h3] at h2; cases h2
    | some s =>
      rw [h3] at h2
      simp only [runA] at h2
      cases h4 : stepA l s m[k] with
      | none => rw [h4] at h2; cases h2
      | some t2 => rw [h4] at h2; cases h2; exact ⟨s, t, rfl, h4, rfl⟩
set_option maxRecDepth 100000 in
set_option maxHeartbeats 16000000 in
theorem LApply_any (al : Option Addr) (l : List ByteArray) (cl : Nat) (am : Option Addr) (m : List (Nat × ByteArray)) (cm : Nat) (out : List ByteArray) (w : World) (hl : letB l = true) (hil : StrsC w al l) (him : MarksC w am m) (hm30 : m.length ≤ 30) (hrun : runA l (0, []) m = some (l.length, out)) (ho15 : out.length ≤ 15) :
    Calls Tryz.prog 25 #[.slice al l.length cl, .slice am m.length cm] w fun e w' => ∃ ao co, e = .returned (.tuple #[.slice ao out.length co, .int .i64 0]) ∧ SlOk ao out.length co ∧ StrsC w' ao out ∧ Below w.heap.size w w' := by
  obtain ⟨hl15, -⟩ := let_word hl
  have LT := Lib.hid (LLettered_any al l cl w hil hl)
  have HIL := Lib.hid (fun V (h : Below w.heap.size w V) => hil.mono h)
  have HIM := Lib.hid (fun V (h : Below w.heap.size w V) => him.mono h)
  have HRA := Lib.hid (fun k hk => runA_at hrun k hk)
  have O := Lib.hid (fun (W : World) (a : Nat) (x : Int) hc => LOffOne_any x 0 3 a W hc)
  have AC := Lib.hid LActs_any
  have hmI : ¬ (30 : Int) < m.length := by omega
  have HRUN := Lib.hid hrun
  clear hil him hrun
  go_enter Tryz.func25, Tryz.ntmps25
  go_upto_region 4 with (go_at_call 50; go_must ((with_reducible refine LT.out.mono ?_); rintro e w2 ⟨rfl, hb2⟩; dsimp only))
  go_upto_region 8 with (fail)
  clear LT
  go_loopw [4, 6, 23] (fun v r i V => ∃ (k : Nat) (s : Nat × List ByteArray), k ≤ m.length ∧ i = .int .i64 k ∧ r = .int .i64 (s.1 : Int) ∧ runA l (0, []) (m.take k) = some s ∧ s.1 ≤ l.length ∧ s.2.length ≤ k ∧ Below w.heap.size w V ∧ V.ownsRow w.heap.size 9 1 v s.2.length (s.2.map Value.string)) (fun _ _ i _ => m.length - (intOf i).toNat)
  case atStart => exact ⟨0, (0, []), by omega, rfl, rfl, rfl, by simp, by simp, hb2, ⟨rfl, .inl ⟨rfl, rfl⟩⟩⟩
  case round =>
    rename World => V
    obtain ⟨k, s, hk, rfl, rfl, hrs, hs1, hs2, hbV, hown⟩ := hrel
    by_cases hlt : k < m.length
    · obtain ⟨b, off, e0, hb, r0, r1⟩ := HIM.out V hbV k hlt
      obtain ⟨s', t, g1, g2, g3⟩ := HRA.out k hlt
      rw [hrs] at g1
      cases g1
      have hltI : (k : Int) < m.length := by omega
      have hbz := hbV.size
      subst e0
      generalize m[k] = x at *
      obtain ⟨q, wd⟩ := x
      obtain ⟨at_, now⟩ := s
      simp only at r0 r1 g2 hs1 hs2 hown
      have hq : q = 0 ∧ wd = noW ∧ at_ < l.length ∧ t = (at_ + 1, now ++ [l[at_]?.getD noW]) ∨ q = 2 ∧ wd = noW ∧ at_ < l.length ∧ t = (at_ + 1, now) ∨ q = 3 ∧ wordB wd = true ∧ t = (at_, now ++ [wd]) := by
        unfold stepA at g2
        match q with
        | 0 => simp only at g2; split at g2; rename_i h; (exact .inl ⟨rfl, h.1, h.2, (Option.some.inj g2).symm⟩); cases g2
        | 1 => simp at g2
        | 2 => simp only at g2; split at g2; rename_i h; (exact .inr (.inl ⟨rfl, h.1, h.2, (Option.some.inj g2).symm⟩)); cases g2
        | 3 => simp only at g2; split at g2; rename_i h; (exact .inr (.inr ⟨rfl, h, (Option.some.inj g2).symm⟩)); cases g2
        | n + 4 => simp at g2
      clear g2 hrs
      have HO := Lib.hid hown
      have hin : inB (q : Int) 0 3 = true := by unfold inB; rcases hq with h | h | h <;> (obtain ⟨rfl, _⟩ := h; decide)
      obtain ⟨Y, hY⟩ : ∃ Y : World, Y = V.alloc (.cells #[.int .i64 (q : Int), .string wd] 146) := ⟨_, rfl⟩
      have hVY : Below V.heap.size V Y := by rw [hY]; exact (Below.refl _ _).alloc (Nat.le_refl _) _
      have gY : Y.heap[V.heap.size]? = some (.cells #[.int .i64 (q : Int), .string wd] 146 (0, 0)) := by rw [hY]; exact alloc_at _ _ rfl
      have y0 := blk_cell 0 gY rfl
      have yz := lt_of_block gY
      simp only [List.getElem_toArray, List.getElem_cons_zero, List.getElem_cons_succ] at y0
      have HY := Lib.hid hY
      clear hY hown
      go_upto_region 10 with (fail)
      rw [← HY.out]
      clear HY
      go_upto_region 12 with (go_at_call 45; go_must ((with_reducible refine (O.out _ _ (q : Int) ?_).mono ?_); exact (blk_cell 0 (blk_new _ _) rfl); rintro e w3 ⟨rfl, hb3⟩; rw [hin]; dsimp only))
      have hY3 : Below Y.heap.size Y w3 := ((Below.refl _ Y).alloc (Nat.le_refl _) _).trans (hb3.mono (by simp))
      have gM := (hY3.block _ yz).trans gY
      have hw3 := hbV.trans ((hVY.trans (hY3.mono hVY.size)).mono hbV.size)
      have HO3 := Lib.hid (own_below HO.out (hVY.trans (hY3.mono hVY.size)))
      clear hb3 hY3 gY y0 yz HO hVY hin O
      have m0 := blk_cell 0 gM rfl
      have mz := lt_of_block gM
      simp only [List.getElem_toArray, List.getElem_cons_zero, List.getElem_cons_succ] at m0
      rcases hq with ⟨rfl, rfl, hal, rfl⟩ | ⟨rfl, rfl, hal, rfl⟩ | ⟨rfl, hwd, rfl⟩
      · go_cut [9, 10] from 31 to 34 (fun p r U => ∃ g : Nat, p = .pointer (some ⟨g, 0, none⟩) ∧ r = .string ⟨#[]⟩ ∧ U.heap[g]? = some (.cells #[.bool true, .bool false, .func (.func 121) #[] #[]] 149 (0, 0)) ∧ Below w3.heap.size w3 U)
        case first =>
          have KE : Hid (∀ U, Below w3.heap.size w3 U → U.cell? ⟨V.heap.size, 0, none⟩ = some (.int .i64 0) ∧ V.heap.size < U.heap.size) := Lib.hid (fun U h => ⟨cell_below h m0, Nat.lt_of_lt_of_le mz h.size⟩)
          have hB : Below w3.heap.size w3 w3.drew := below_drew' (Below.refl _ _)
          clear m0 mz
          refine wp_region_held_drew (S := (fun U => U.cell? ⟨V.heap.size, 0, none⟩ = some (.int .i64 0) ∧ V.heap.size < U.heap.size)) (by kernel_rfl) (KE.out _ hB) (fun hHeld => ?_)
          (refine wpAnyH_take (i := 1) (v := ?_) rfl (by kernel_rfl) (by kernel_rfl) (by kernel_rfl) (fun _ _ _ h => h) (Or.inl ⟨by kernel_rfl, ?_⟩) (by assumption) ?_; rotate_left 1; (focus (intro w hSw; (try dsimp only at hSw); go_simp; first | done | with_reducible rfl)); simp only [Act.put, List.getElem_toArray, List.getElem_cons_succ, List.getElem_cons_zero, List.setIfInBounds_toArray, List.set_cons_succ, List.set_cons_zero])
          (refine wpAnyH_take (i := 2) (v := ?_) rfl (by kernel_rfl) (by kernel_rfl) (by kernel_rfl) (fun _ _ _ h => h) (Or.inl ⟨by kernel_rfl, ?_⟩) (by assumption) ?_; rotate_left 1; (focus (intro w hSw; (try dsimp only at hSw); go_simp; first | done | with_reducible rfl)); simp only [Act.put, List.getElem_toArray, List.getElem_cons_succ, List.getElem_cons_zero, List.setIfInBounds_toArray, List.set_cons_succ, List.set_cons_zero])
          (refine wpAnyH_ready (rs := [0, 4]) (by kernel_rfl) (by simp) ?_; refine AllReadyH.cons rfl (fun K hK => ?_) (AllReadyH.cons rfl (fun K hK => ?_) AllReadyH.nil))
          · go_simp
            refine (AC.out _).mono ?_
            rintro e w4 ⟨rfl, hb4⟩
            dsimp only
            have hB4 := hB.trans (hb4.mono hB.size)
            have hz4 := hB4.size
            refine hK.out _ _ (KE.out _ hB4) (fun hHeld => ?_)
            (try simp only [Act.put, List.getElem_toArray, List.getElem_cons_succ, List.getElem_cons_zero, List.setIfInBounds_toArray, List.set_cons_succ, List.set_cons_zero])
            clear hK
            (refine wpAnyH_take (i := 3) (v := ?_) rfl (by kernel_rfl) (by kernel_rfl) (by kernel_rfl) (fun _ _ _ h => h) (Or.inl ⟨by kernel_rfl, ?_⟩) (by assumption) ?_; rotate_left 1; (focus (intro w hSw; (try dsimp only at hSw); go_simp; first | done | with_reducible rfl)); simp only [Act.put, List.getElem_toArray, List.getElem_cons_succ, List.getElem_cons_zero, List.setIfInBounds_toArray, List.set_cons_succ, List.set_cons_zero])
            (refine wpAnyH_ready (rs := [4]) (by kernel_rfl) (by simp) ?_; refine AllReadyH.cons rfl (fun K hK => ?_) AllReadyH.nil; go_simp)
            have hB5 := hB4.alloc hB4.size (.cells #[.bool false, .bool false, .nilFunc] 149)
            have a0 : (w4.alloc (.cells #[.bool false, .bool false, .nilFunc] 149)).heap[w4.heap.size]? = some (.cells #[.bool false, .bool false, .nilFunc] 149 (0, 0)) := alloc_at _ _ rfl
            refine hK.out _ _ (KE.out _ hB5) (fun hHeld => ?_)
            (try simp only [Act.put, List.getElem_toArray, List.getElem_cons_succ, List.getElem_cons_zero, List.setIfInBounds_toArray, List.set_cons_succ, List.set_cons_zero])
            clear hK
            obtain ⟨A, hA⟩ : ∃ A : World, A = w4.alloc (.cells #[.bool false, .bool false, .nilFunc] 149) := ⟨_, rfl⟩
            rw [← hA] at a0 hB5 hHeld ⊢
            clear hA
            have b0 := blk_free 0 a0
            have b1 := blk_free 1 a0
            have b2 := blk_free 2 a0
            have b3 := blk_cell 0 a0 rfl
            have b4 := blk_cell 1 a0 rfl
            have b5 := blk_cell 2 a0 rfl
            have bz := lt_of_block a0
            simp only [List.getElem_toArray, List.getElem_cons_zero, List.getElem_cons_succ] at b3 b4 b5
            (refine wpAnyH_ready (rs := [5]) (by kernel_rfl) (by simp) ?_; refine AllReadyH.cons rfl (fun K hK => ?_) AllReadyH.nil; go_simp)
            have hB6 : Below w3.heap.size w3 (((A.setCell ⟨w4.heap.size, 0, none⟩ (.bool true)).setCell ⟨w4.heap.size, 1, none⟩ (.bool false)).setCell ⟨w4.heap.size, 2, none⟩ (.func (.func 121) #[] #[])) := ((hB5.setCell (by first | omega | (simp <;> omega)) _).setCell (by first | omega | (simp <;> omega)) _).setCell (by first | omega | (simp <;> omega)) _
            refine hK.out _ _ (KE.out _ hB6) (fun hHeld => ?_)
            (try simp only [Act.put, List.getElem_toArray, List.getElem_cons_succ, List.getElem_cons_zero, List.setIfInBounds_toArray, List.set_cons_succ, List.set_cons_zero])
            clear hK
            (refine wpAnyH_take (i := 6) (v := ?_) rfl (by kernel_rfl) (by kernel_rfl) (by kernel_rfl) (fun _ _ _ h => h) (Or.inl ⟨by kernel_rfl, ?_⟩) (by assumption) ?_; rotate_left 1; (focus (intro w hSw; (try dsimp only at hSw); go_simp; first | done | with_reducible rfl)); simp only [Act.put, List.getElem_toArray, List.getElem_cons_succ, List.getElem_cons_zero, List.setIfInBounds_toArray, List.set_cons_succ, List.set_cons_zero])
            refine wpAnyH_done (by kernel_rfl) ?_ _
            have hG6 := blk_set 2 (.func (.func 121) #[] #[]) (blk_set 1 (.bool false) (blk_set 0 (.bool true) a0))
            generalize (((A.setCell ⟨w4.heap.size, 0, none⟩ (.bool true)).setCell ⟨w4.heap.size, 1, none⟩ (.bool false)).setCell ⟨w4.heap.size, 2, none⟩ (.func (.func 121) #[] #[])) = G6 at *
            go_wp2
            go_meet
            case rel => exact ⟨w4.heap.size, rfl, rfl, hG6, hB6⟩
          · go_simp
            obtain ⟨A, hA⟩ : ∃ A : World, A = (w3.alloc (.cells #[.bool false, .bool false, .nilFunc] 149)).drew := ⟨_, rfl⟩
            have hB5 : Below w3.heap.size w3 A := by rw [hA]; exact ((Below.refl _ _).alloc (Nat.le_refl _) _).drew
            have a9 : A.heap[w3.heap.size]? = some (.cells #[.bool false, .bool false, .nilFunc] 149 (0, 0)) := by rw [hA, drew_heap]; exact alloc_at _ _ rfl
            rw [← hA]
            clear hA
            refine hK.out _ _ (KE.out _ hB5) (fun hHeld => ?_)
            (try simp only [Act.put, List.getElem_toArray, List.getElem_cons_succ, List.getElem_cons_zero, List.setIfInBounds_toArray, List.set_cons_succ, List.set_cons_zero])
            clear hK
            (refine wpAnyH_ready (rs := [0]) (by kernel_rfl) (by simp) ?_; refine AllReadyH.cons rfl (fun K hK => ?_) AllReadyH.nil; go_simp)
            refine (AC.out _).mono ?_
            rintro e w4 ⟨rfl, hb4⟩
            dsimp only
            have hB4 := hB5.trans (hb4.mono hB5.size)
            have a0 := (hb4.block _ (lt_of_block a9)).trans a9
            refine hK.out _ _ (KE.out _ hB4) (fun hHeld => ?_)
            (try simp only [Act.put, List.getElem_toArray, List.getElem_cons_succ, List.getElem_cons_zero, List.setIfInBounds_toArray, List.set_cons_succ, List.set_cons_zero])
            clear hK
            (refine wpAnyH_take (i := 3) (v := ?_) rfl (by kernel_rfl) (by kernel_rfl) (by kernel_rfl) (fun _ _ _ h => h) (Or.inl ⟨by kernel_rfl, ?_⟩) (by assumption) ?_; rotate_left 1; (focus (intro w hSw; (try dsimp only at hSw); go_simp; first | done | with_reducible rfl)); simp only [Act.put, List.getElem_toArray, List.getElem_cons_succ, List.getElem_cons_zero, List.setIfInBounds_toArray, List.set_cons_succ, List.set_cons_zero])
            have b0 := blk_free 0 a0
            have b1 := blk_free 1 a0
            have b2 := blk_free 2 a0
            have b3 := blk_cell 0 a0 rfl
            have b4 := blk_cell 1 a0 rfl
            have b5 := blk_cell 2 a0 rfl
            have bz := lt_of_block a0
            simp only [List.getElem_toArray, List.getElem_cons_zero, List.getElem_cons_succ] at b3 b4 b5
            (refine wpAnyH_ready (rs := [5]) (by kernel_rfl) (by simp) ?_; refine AllReadyH.cons rfl (fun K hK => ?_) AllReadyH.nil; go_simp)
            have hB6 : Below w3.heap.size w3 (((w4.setCell ⟨w3.heap.size, 0, none⟩ (.bool true)).setCell ⟨w3.heap.size, 1, none⟩ (.bool false)).setCell ⟨w3.heap.size, 2, none⟩ (.func (.func 121) #[] #[])) := ((hB4.setCell (by first | omega | (simp <;> omega)) _).setCell (by first | omega | (simp <;> omega)) _).setCell (by first | omega | (simp <;> omega)) _
            refine hK.out _ _ (KE.out _ hB6) (fun hHeld => ?_)
            (try simp only [Act.put, List.getElem_toArray, List.getElem_cons_succ, List.getElem_cons_zero, List.setIfInBounds_toArray, List.set_cons_succ, List.set_cons_zero])
            clear hK
            (refine wpAnyH_take (i := 6) (v := ?_) rfl (by kernel_rfl) (by kernel_rfl) (by kernel_rfl) (fun _ _ _ h => h) (Or.inl ⟨by kernel_rfl, ?_⟩) (by assumption) ?_; rotate_left 1; (focus (intro w hSw; (try dsimp only at hSw); go_simp; first | done | with_reducible rfl)); simp only [Act.put, List.getElem_toArray, List.getElem_cons_succ, List.getElem_cons_zero, List.setIfInBounds_toArray, List.set_cons_succ, List.set_cons_zero])
            refine wpAnyH_done (by kernel_rfl) ?_ _
            have hG6 := blk_set 2 (.func (.func 121) #[] #[]) (blk_set 1 (.bool false) (blk_set 0 (.bool true) a0))
            generalize (((w4.setCell ⟨w3.heap.size, 0, none⟩ (.bool true)).setCell ⟨w3.heap.size, 1, none⟩ (.bool false)).setCell ⟨w3.heap.size, 2, none⟩ (.func (.func 121) #[] #[])) = G6 at *
            go_wp2
            go_meet
            case rel => exact ⟨w3.heap.size, rfl, rfl, hG6, hB6⟩
        case rest =>
          obtain ⟨g, rfl, rfl, hG, hbU⟩ := hcut
          rename World => U
          have hwU := hw3.trans (hbU.mono hw3.size)
          have gMU := (hbU.block _ mz).trans gM
          have HOU := Lib.hid (own_below HO3.out hbU)
          have hzU := hwU.size
          clear m0 mz gM HO3 hbU AC
          have m0 := blk_cell 0 gMU rfl
          have m1 := blk_cell 1 gMU rfl
          have mz := lt_of_block gMU
          have x0 := blk_cell 0 hG rfl
          have x1 := blk_cell 1 hG rfl
          have x2 := blk_cell 2 hG rfl
          have xz := lt_of_block hG
          simp only [List.getElem_toArray, List.getElem_cons_zero, List.getElem_cons_succ] at m0 m1 x0 x1 x2
          have KX : Hid (∀ U', Below U.heap.size U U' → U'.heap[g]? = U.heap[g]? ∧ U'.heap[V.heap.size]? = U.heap[V.heap.size]? ∧ g < U'.heap.size ∧ V.heap.size < U'.heap.size) := Lib.hid (fun U' h => ⟨h.block _ xz, h.block _ mz, Nat.lt_of_lt_of_le xz h.size, Nat.lt_of_lt_of_le mz h.size⟩)
          have HG := Lib.hid hG
          have HMU := Lib.hid gMU
          clear gMU hG
          obtain ⟨bl, ol, el, hbl, hcl⟩ := HIL.out U hwU at_ hal
          subst el
          have hnw : noW.toList.isEmpty = true := by rw [emp_eq]; simp
          have halI : (at_ : Int) < l.length := by omega
          have hgt : l[at_]?.getD noW = l[at_] := by rw [List.getElem?_eq_getElem hal, Option.getD_some]
          have hne : ¬ (at_ : Int) = l.length := by omega
          rw [hgt] at g3
          generalize l[at_] = rd at *
          have AT := Lib.hid (LAct1_any rd noW U)
          go_upto_region 23 with (fail)
          have hW : Below w.heap.size w U := hwU
          have HOW := Lib.hid HOU.out
          go_wp2_with (first
            | (at_builtin; go_must (refine wpList_app (.tmp 90) (.tmp 96) E_str rfl rfl rfl rfl w.heap.size now.length 1 (now.map Value.string) ([rd].map Value.string) HO5.out (SrcAt.strsL hs5.2.2 hi5) (by omega) (by decide) hW5.size ?_; intro v7 w7 ho7 hg7 _; have hb7 := app_on hW5 hW5.size (Nat.le_refl _) HO5.out hg7; clear hg7; simp only [Act.put, List.setIfInBounds_toArray, List.set_cons_succ, List.set_cons_zero]))
            | (go_at_call 121; go_must ((with_reducible refine AT.out.mono ?_); rintro e w5 ⟨a5, c5, rfl, hs5, hi5, hb5⟩; have HO5 := Lib.hid (own_below HOW.out hb5); have hW5 := hW.trans (hb5.mono hW.size); dsimp only)))
          go_roundw
          case rel => exact ⟨k + 1, (at_ + 1, now ++ [rd]), by omega, by go_num, by go_num, g3, by simp only; omega, by simp <;> omega, hb7, by simpa using ho7⟩
          case measure => simp [intOf]; omega
      · go_cut [9, 10] from 31 to 34 (fun p r U => ∃ g : Nat, p = .pointer (some ⟨g, 0, none⟩) ∧ r = .string ⟨#[]⟩ ∧ U.heap[g]? = some (.cells #[.bool true, .bool false, .func (.func 123) #[] #[]] 149 (0, 0)) ∧ Below w3.heap.size w3 U)
        case first =>
          have KE : Hid (∀ U, Below w3.heap.size w3 U → U.cell? ⟨V.heap.size, 0, none⟩ = some (.int .i64 2) ∧ V.heap.size < U.heap.size) := Lib.hid (fun U h => ⟨cell_below h m0, Nat.lt_of_lt_of_le mz h.size⟩)
          have hB : Below w3.heap.size w3 w3.drew := below_drew' (Below.refl _ _)
          clear m0 mz
          refine wp_region_held_drew (S := (fun U => U.cell? ⟨V.heap.size, 0, none⟩ = some (.int .i64 2) ∧ V.heap.size < U.heap.size)) (by kernel_rfl) (KE.out _ hB) (fun hHeld => ?_)
          (refine wpAnyH_take (i := 1) (v := ?_) rfl (by kernel_rfl) (by kernel_rfl) (by kernel_rfl) (fun _ _ _ h => h) (Or.inl ⟨by kernel_rfl, ?_⟩) (by assumption) ?_; rotate_left 1; (focus (intro w hSw; (try dsimp only at hSw); go_simp; first | done | with_reducible rfl)); simp only [Act.put, List.getElem_toArray, List.getElem_cons_succ, List.getElem_cons_zero, List.setIfInBounds_toArray, List.set_cons_succ, List.set_cons_zero])
          (refine wpAnyH_take (i := 2) (v := ?_) rfl (by kernel_rfl) (by kernel_rfl) (by kernel_rfl) (fun _ _ _ h => h) (Or.inl ⟨by kernel_rfl, ?_⟩) (by assumption) ?_; rotate_left 1; (focus (intro w hSw; (try dsimp only at hSw); go_simp; first | done | with_reducible rfl)); simp only [Act.put, List.getElem_toArray, List.getElem_cons_succ, List.getElem_cons_zero, List.setIfInBounds_toArray, List.set_cons_succ, List.set_cons_zero])
          (refine wpAnyH_ready (rs := [0, 4]) (by kernel_rfl) (by simp) ?_; refine AllReadyH.cons rfl (fun K hK => ?_) (AllReadyH.cons rfl (fun K hK => ?_) AllReadyH.nil))
          · go_simp
            refine (AC.out _).mono ?_
            rintro e w4 ⟨rfl, hb4⟩
            dsimp only
            have hB4 := hB.trans (hb4.mono hB.size)
            have hz4 := hB4.size
            refine hK.out _ _ (KE.out _ hB4) (fun hHeld => ?_)
            (try simp only [Act.put, List.getElem_toArray, List.getElem_cons_succ, List.getElem_cons_zero, List.setIfInBounds_toArray, List.set_cons_succ, List.set_cons_zero])
            clear hK
            (refine wpAnyH_take (i := 3) (v := ?_) rfl (by kernel_rfl) (by kernel_rfl) (by kernel_rfl) (fun _ _ _ h => h) (Or.inl ⟨by kernel_rfl, ?_⟩) (by assumption) ?_; rotate_left 1; (focus (intro w hSw; (try dsimp only at hSw); go_simp; first | done | with_reducible rfl)); simp only [Act.put, List.getElem_toArray, List.getElem_cons_succ, List.getElem_cons_zero, List.setIfInBounds_toArray, List.set_cons_succ, List.set_cons_zero])
            (refine wpAnyH_ready (rs := [4]) (by kernel_rfl) (by simp) ?_; refine AllReadyH.cons rfl (fun K hK => ?_) AllReadyH.nil; go_simp)
            have hB5 := hB4.alloc hB4.size (.cells #[.bool false, .bool false, .nilFunc] 149)
            have a0 : (w4.alloc (.cells #[.bool false, .bool false, .nilFunc] 149)).heap[w4.heap.size]? = some (.cells #[.bool false, .bool false, .nilFunc] 149 (0, 0)) := alloc_at _ _ rfl
            refine hK.out _ _ (KE.out _ hB5) (fun hHeld => ?_)
            (try simp only [Act.put, List.getElem_toArray, List.getElem_cons_succ, List.getElem_cons_zero, List.setIfInBounds_toArray, List.set_cons_succ, List.set_cons_zero])
            clear hK
            obtain ⟨A, hA⟩ : ∃ A : World, A = w4.alloc (.cells #[.bool false, .bool false, .nilFunc] 149) := ⟨_, rfl⟩
            rw [← hA] at a0 hB5 hHeld ⊢
            clear hA
            have b0 := blk_free 0 a0
            have b1 := blk_free 1 a0
            have b2 := blk_free 2 a0
            have b3 := blk_cell 0 a0 rfl
            have b4 := blk_cell 1 a0 rfl
            have b5 := blk_cell 2 a0 rfl
            have bz := lt_of_block a0
            simp only [List.getElem_toArray, List.getElem_cons_zero, List.getElem_cons_succ] at b3 b4 b5
            (refine wpAnyH_ready (rs := [5]) (by kernel_rfl) (by simp) ?_; refine AllReadyH.cons rfl (fun K hK => ?_) AllReadyH.nil; go_simp)
            have hB6 : Below w3.heap.size w3 (((A.setCell ⟨w4.heap.size, 0, none⟩ (.bool true)).setCell ⟨w4.heap.size, 1, none⟩ (.bool false)).setCell ⟨w4.heap.size, 2, none⟩ (.func (.func 123) #[] #[])) := ((hB5.setCell (by first | omega | (simp <;> omega)) _).setCell (by first | omega | (simp <;> omega)) _).setCell (by first | omega | (simp <;> omega)) _
            refine hK.out _ _ (KE.out _ hB6) (fun hHeld => ?_)
            (try simp only [Act.put, List.getElem_toArray, List.getElem_cons_succ, List.getElem_cons_zero, List.setIfInBounds_toArray, List.set_cons_succ, List.set_cons_zero])
            clear hK
            (refine wpAnyH_take (i := 6) (v := ?_) rfl (by kernel_rfl) (by kernel_rfl) (by kernel_rfl) (fun _ _ _ h => h) (Or.inl ⟨by kernel_rfl, ?_⟩) (by assumption) ?_; rotate_left 1; (focus (intro w hSw; (try dsimp only at hSw); go_simp; first | done | with_reducible rfl)); simp only [Act.put, List.getElem_toArray, List.getElem_cons_succ, List.getElem_cons_zero, List.setIfInBounds_toArray, List.set_cons_succ, List.set_cons_zero])
            refine wpAnyH_done (by kernel_rfl) ?_ _
            have hG6 := blk_set 2 (.func (.func 123) #[] #[]) (blk_set 1 (.bool false) (blk_set 0 (.bool true) a0))
            generalize (((A.setCell ⟨w4.heap.size, 0, none⟩ (.bool true)).setCell ⟨w4.heap.size, 1, none⟩ (.bool false)).setCell ⟨w4.heap.size, 2, none⟩ (.func (.func 123) #[] #[])) = G6 at *
            go_wp2
            go_meet
            case rel => exact ⟨w4.heap.size, rfl, rfl, hG6, hB6⟩
          · go_simp
            obtain ⟨A, hA⟩ : ∃ A : World, A = (w3.alloc (.cells #[.bool false, .bool false, .nilFunc] 149)).drew := ⟨_, rfl⟩
            have hB5 : Below w3.heap.size w3 A := by rw [hA]; exact ((Below.refl _ _).alloc (Nat.le_refl _) _).drew
            have a9 : A.heap[w3.heap.size]? = some (.cells #[.bool false, .bool false, .nilFunc] 149 (0, 0)) := by rw [hA, drew_heap]; exact alloc_at _ _ rfl
            rw [← hA]
            clear hA
            refine hK.out _ _ (KE.out _ hB5) (fun hHeld => ?_)
            (try simp only [Act.put, List.getElem_toArray, List.getElem_cons_succ, List.getElem_cons_zero, List.setIfInBounds_toArray, List.set_cons_succ, List.set_cons_zero])
            clear hK
            (refine wpAnyH_ready (rs := [0]) (by kernel_rfl) (by simp) ?_; refine AllReadyH.cons rfl (fun K hK => ?_) AllReadyH.nil; go_simp)
            refine (AC.out _).mono ?_
            rintro e w4 ⟨rfl, hb4⟩
            dsimp only
            have hB4 := hB5.trans (hb4.mono hB5.size)
            have a0 := (hb4.block _ (lt_of_block a9)).trans a9
            refine hK.out _ _ (KE.out _ hB4) (fun hHeld => ?_)
            (try simp only [Act.put, List.getElem_toArray, List.getElem_cons_succ, List.getElem_cons_zero, List.setIfInBounds_toArray, List.set_cons_succ, List.set_cons_zero])
            clear hK
            (refine wpAnyH_take (i := 3) (v := ?_) rfl (by kernel_rfl) (by kernel_rfl) (by kernel_rfl) (fun _ _ _ h => h) (Or.inl ⟨by kernel_rfl, ?_⟩) (by assumption) ?_; rotate_left 1; (focus (intro w hSw; (try dsimp only at hSw); go_simp; first | done | with_reducible rfl)); simp only [Act.put, List.getElem_toArray, List.getElem_cons_succ, List.getElem_cons_zero, List.setIfInBounds_toArray, List.set_cons_succ, List.set_cons_zero])
            have b0 := blk_free 0 a0
            have b1 := blk_free 1 a0
            have b2 := blk_free 2 a0
            have b3 := blk_cell 0 a0 rfl
            have b4 := blk_cell 1 a0 rfl
            have b5 := blk_cell 2 a0 rfl
            have bz := lt_of_block a0
            simp only [List.getElem_toArray, List.getElem_cons_zero, List.getElem_cons_succ] at b3 b4 b5
            (refine wpAnyH_ready (rs := [5]) (by kernel_rfl) (by simp) ?_; refine AllReadyH.cons rfl (fun K hK => ?_) AllReadyH.nil; go_simp)
            have hB6 : Below w3.heap.size w3 (((w4.setCell ⟨w3.heap.size, 0, none⟩ (.bool true)).setCell ⟨w3.heap.size, 1, none⟩ (.bool false)).setCell ⟨w3.heap.size, 2, none⟩ (.func (.func 123) #[] #[])) := ((hB4.setCell (by first | omega | (simp <;> omega)) _).setCell (by first | omega | (simp <;> omega)) _).setCell (by first | omega | (simp <;> omega)) _
            refine hK.out _ _ (KE.out _ hB6) (fun hHeld => ?_)
            (try simp only [Act.put, List.getElem_toArray, List.getElem_cons_succ, List.getElem_cons_zero, List.setIfInBounds_toArray, List.set_cons_succ, List.set_cons_zero])
            clear hK
            (refine wpAnyH_take (i := 6) (v := ?_) rfl (by kernel_rfl) (by kernel_rfl) (by kernel_rfl) (fun _ _ _ h => h) (Or.inl ⟨by kernel_rfl, ?_⟩) (by assumption) ?_; rotate_left 1; (focus (intro w hSw; (try dsimp only at hSw); go_simp; first | done | with_reducible rfl)); simp only [Act.put, List.getElem_toArray, List.getElem_cons_succ, List.getElem_cons_zero, List.setIfInBounds_toArray, List.set_cons_succ, List.set_cons_zero])
            refine wpAnyH_done (by kernel_rfl) ?_ _
            have hG6 := blk_set 2 (.func (.func 123) #[] #[]) (blk_set 1 (.bool false) (blk_set 0 (.bool true) a0))
            generalize (((w4.setCell ⟨w3.heap.size, 0, none⟩ (.bool true)).setCell ⟨w3.heap.size, 1, none⟩ (.bool false)).setCell ⟨w3.heap.size, 2, none⟩ (.func (.func 123) #[] #[])) = G6 at *
            go_wp2
            go_meet
            case rel => exact ⟨w3.heap.size, rfl, rfl, hG6, hB6⟩
        case rest =>
          obtain ⟨g, rfl, rfl, hG, hbU⟩ := hcut
          rename World => U
          have hwU := hw3.trans (hbU.mono hw3.size)
          have gMU := (hbU.block _ mz).trans gM
          have HOU := Lib.hid (own_below HO3.out hbU)
          have hzU := hwU.size
          clear m0 mz gM HO3 hbU AC
          have m0 := blk_cell 0 gMU rfl
          have m1 := blk_cell 1 gMU rfl
          have mz := lt_of_block gMU
          have x0 := blk_cell 0 hG rfl
          have x1 := blk_cell 1 hG rfl
          have x2 := blk_cell 2 hG rfl
          have xz := lt_of_block hG
          simp only [List.getElem_toArray, List.getElem_cons_zero, List.getElem_cons_succ] at m0 m1 x0 x1 x2
          have KX : Hid (∀ U', Below U.heap.size U U' → U'.heap[g]? = U.heap[g]? ∧ U'.heap[V.heap.size]? = U.heap[V.heap.size]? ∧ g < U'.heap.size ∧ V.heap.size < U'.heap.size) := Lib.hid (fun U' h => ⟨h.block _ xz, h.block _ mz, Nat.lt_of_lt_of_le xz h.size, Nat.lt_of_lt_of_le mz h.size⟩)
          have HG := Lib.hid hG
          have HMU := Lib.hid gMU
          clear gMU hG
          obtain ⟨bl, ol, el, hbl, hcl⟩ := HIL.out U hwU at_ hal
          subst el
          have hnw : noW.toList.isEmpty = true := by rw [emp_eq]; simp
          have halI : (at_ : Int) < l.length := by omega
          have hne : ¬ (at_ : Int) = l.length := by omega
          generalize l[at_] = rd at *
          have AT := Lib.hid (LAct3_any rd noW U)
          go_upto_region 23 with (fail)
          have hW : Below w.heap.size w U := hwU
          have HOW := Lib.hid HOU.out
          go_wp2_with (first
            | (at_builtin; go_must (refine wpList_app (.tmp 90) (.tmp 96) E_str rfl rfl rfl rfl w.heap.size now.length 0 (now.map Value.string) ([].map Value.string) HO5.out (SrcAt.strsL hs5.2.2 hi5) (by omega) (by decide) hW5.size ?_; intro v7 w7 ho7 hg7 _; have hb7 := app_on hW5 hW5.size (Nat.le_refl _) HO5.out hg7; clear hg7; simp only [Act.put, List.setIfInBounds_toArray, List.set_cons_succ, List.set_cons_zero]))
            | (go_at_call 123; go_must ((with_reducible refine AT.out.mono ?_); rintro e w5 ⟨a5, c5, rfl, hs5, hi5, hb5⟩; have HO5 := Lib.hid (own_below HOW.out hb5); have hW5 := hW.trans (hb5.mono hW.size); dsimp only)))
          go_roundw
          case rel => exact ⟨k + 1, (at_ + 1, now), by omega, by go_num, by go_num, g3, by simp only; omega, by simp <;> omega, hb7, by simpa using ho7⟩
          case measure => simp [intOf]; omega
      · go_cut [9, 10] from 31 to 34 (fun p r U => ∃ g : Nat, p = .pointer (some ⟨g, 0, none⟩) ∧ r = .string ⟨#[]⟩ ∧ U.heap[g]? = some (.cells #[.bool false, .bool true, .func (.func 124) #[] #[]] 149 (0, 0)) ∧ Below w3.heap.size w3 U)
        case first =>
          have KE : Hid (∀ U, Below w3.heap.size w3 U → U.cell? ⟨V.heap.size, 0, none⟩ = some (.int .i64 3) ∧ V.heap.size < U.heap.size) := Lib.hid (fun U h => ⟨cell_below h m0, Nat.lt_of_lt_of_le mz h.size⟩)
          have hB : Below w3.heap.size w3 w3.drew := below_drew' (Below.refl _ _)
          clear m0 mz
          refine wp_region_held_drew (S := (fun U => U.cell? ⟨V.heap.size, 0, none⟩ = some (.int .i64 3) ∧ V.heap.size < U.heap.size)) (by kernel_rfl) (KE.out _ hB) (fun hHeld => ?_)
          (refine wpAnyH_take (i := 1) (v := ?_) rfl (by kernel_rfl) (by kernel_rfl) (by kernel_rfl) (fun _ _ _ h => h) (Or.inl ⟨by kernel_rfl, ?_⟩) (by assumption) ?_; rotate_left 1; (focus (intro w hSw; (try dsimp only at hSw); go_simp; first | done | with_reducible rfl)); simp only [Act.put, List.getElem_toArray, List.getElem_cons_succ, List.getElem_cons_zero, List.setIfInBounds_toArray, List.set_cons_succ, List.set_cons_zero])
          (refine wpAnyH_take (i := 2) (v := ?_) rfl (by kernel_rfl) (by kernel_rfl) (by kernel_rfl) (fun _ _ _ h => h) (Or.inl ⟨by kernel_rfl, ?_⟩) (by assumption) ?_; rotate_left 1; (focus (intro w hSw; (try dsimp only at hSw); go_simp; first | done | with_reducible rfl)); simp only [Act.put, List.getElem_toArray, List.getElem_cons_succ, List.getElem_cons_zero, List.setIfInBounds_toArray, List.set_cons_succ, List.set_cons_zero])
          (refine wpAnyH_ready (rs := [0, 4]) (by kernel_rfl) (by simp) ?_; refine AllReadyH.cons rfl (fun K hK => ?_) (AllReadyH.cons rfl (fun K hK => ?_) AllReadyH.nil))
          · go_simp
            refine (AC.out _).mono ?_
            rintro e w4 ⟨rfl, hb4⟩
            dsimp only
            have hB4 := hB.trans (hb4.mono hB.size)
            have hz4 := hB4.size
            refine hK.out _ _ (KE.out _ hB4) (fun hHeld => ?_)
            (try simp only [Act.put, List.getElem_toArray, List.getElem_cons_succ, List.getElem_cons_zero, List.setIfInBounds_toArray, List.set_cons_succ, List.set_cons_zero])
            clear hK
            (refine wpAnyH_take (i := 3) (v := ?_) rfl (by kernel_rfl) (by kernel_rfl) (by kernel_rfl) (fun _ _ _ h => h) (Or.inl ⟨by kernel_rfl, ?_⟩) (by assumption) ?_; rotate_left 1; (focus (intro w hSw; (try dsimp only at hSw); go_simp; first | done | with_reducible rfl)); simp only [Act.put, List.getElem_toArray, List.getElem_cons_succ, List.getElem_cons_zero, List.setIfInBounds_toArray, List.set_cons_succ, List.set_cons_zero])
            (refine wpAnyH_ready (rs := [4]) (by kernel_rfl) (by simp) ?_; refine AllReadyH.cons rfl (fun K hK => ?_) AllReadyH.nil; go_simp)
            have hB5 := hB4.alloc hB4.size (.cells #[.bool false, .bool false, .nilFunc] 149)
            have a0 : (w4.alloc (.cells #[.bool false, .bool false, .nilFunc] 149)).heap[w4.heap.size]? = some (.cells #[.bool false, .bool false, .nilFunc] 149 (0, 0)) := alloc_at _ _ rfl
            refine hK.out _ _ (KE.out _ hB5) (fun hHeld => ?_)
            (try simp only [Act.put, List.getElem_toArray, List.getElem_cons_succ, List.getElem_cons_zero, List.setIfInBounds_toArray, List.set_cons_succ, List.set_cons_zero])
            clear hK
            obtain ⟨A, hA⟩ : ∃ A : World, A = w4.alloc (.cells #[.bool false, .bool false, .nilFunc] 149) := ⟨_, rfl⟩
            rw [← hA] at a0 hB5 hHeld ⊢
            clear hA
            have b0 := blk_free 0 a0
            have b1 := blk_free 1 a0
            have b2 := blk_free 2 a0
            have b3 := blk_cell 0 a0 rfl
            have b4 := blk_cell 1 a0 rfl
            have b5 := blk_cell 2 a0 rfl
            have bz := lt_of_block a0
            simp only [List.getElem_toArray, List.getElem_cons_zero, List.getElem_cons_succ] at b3 b4 b5
            (refine wpAnyH_ready (rs := [5]) (by kernel_rfl) (by simp) ?_; refine AllReadyH.cons rfl (fun K hK => ?_) AllReadyH.nil; go_simp)
            have hB6 : Below w3.heap.size w3 (((A.setCell ⟨w4.heap.size, 0, none⟩ (.bool false)).setCell ⟨w4.heap.size, 1, none⟩ (.bool true)).setCell ⟨w4.heap.size, 2, none⟩ (.func (.func 124) #[] #[])) := ((hB5.setCell (by first | omega | (simp <;> omega)) _).setCell (by first | omega | (simp <;> omega)) _).setCell (by first | omega | (simp <;> omega)) _
            refine hK.out _ _ (KE.out _ hB6) (fun hHeld => ?_)
            (try simp only [Act.put, List.getElem_toArray, List.getElem_cons_succ, List.getElem_cons_zero, List.setIfInBounds_toArray, List.set_cons_succ, List.set_cons_zero])
            clear hK
            (refine wpAnyH_take (i := 6) (v := ?_) rfl (by kernel_rfl) (by kernel_rfl) (by kernel_rfl) (fun _ _ _ h => h) (Or.inl ⟨by kernel_rfl, ?_⟩) (by assumption) ?_; rotate_left 1; (focus (intro w hSw; (try dsimp only at hSw); go_simp; first | done | with_reducible rfl)); simp only [Act.put, List.getElem_toArray, List.getElem_cons_succ, List.getElem_cons_zero, List.setIfInBounds_toArray, List.set_cons_succ, List.set_cons_zero])
            refine wpAnyH_done (by kernel_rfl) ?_ _
            have hG6 := blk_set 2 (.func (.func 124) #[] #[]) (blk_set 1 (.bool true) (blk_set 0 (.bool false) a0))
            generalize (((A.setCell ⟨w4.heap.size, 0, none⟩ (.bool false)).setCell ⟨w4.heap.size, 1, none⟩ (.bool true)).setCell ⟨w4.heap.size, 2, none⟩ (.func (.func 124) #[] #[])) = G6 at *
            go_wp2
            go_meet
            case rel => exact ⟨w4.heap.size, rfl, rfl, hG6, hB6⟩
          · go_simp
            obtain ⟨A, hA⟩ : ∃ A : World, A = (w3.alloc (.cells #[.bool false, .bool false, .nilFunc] 149)).drew := ⟨_, rfl⟩
            have hB5 : Below w3.heap.size w3 A := by rw [hA]; exact ((Below.refl _ _).alloc (Nat.le_refl _) _).drew
            have a9 : A.heap[w3.heap.size]? = some (.cells #[.bool false, .bool false, .nilFunc] 149 (0, 0)) := by rw [hA, drew_heap]; exact alloc_at _ _ rfl
            rw [← hA]
            clear hA
            refine hK.out _ _ (KE.out _ hB5) (fun hHeld => ?_)
            (try simp only [Act.put, List.getElem_toArray, List.getElem_cons_succ, List.getElem_cons_zero, List.setIfInBounds_toArray, List.set_cons_succ, List.set_cons_zero])
            clear hK
            (refine wpAnyH_ready (rs := [0]) (by kernel_rfl) (by simp) ?_; refine AllReadyH.cons rfl (fun K hK => ?_) AllReadyH.nil; go_simp)
            refine (AC.out _).mono ?_
            rintro e w4 ⟨rfl, hb4⟩
            dsimp only
            have hB4 := hB5.trans (hb4.mono hB5.size)
            have a0 := (hb4.block _ (lt_of_block a9)).trans a9
            refine hK.out _ _ (KE.out _ hB4) (fun hHeld => ?_)
            (try simp only [Act.put, List.getElem_toArray, List.getElem_cons_succ, List.getElem_cons_zero, List.setIfInBounds_toArray, List.set_cons_succ, List.set_cons_zero])
            clear hK
            (refine wpAnyH_take (i := 3) (v := ?_) rfl (by kernel_rfl) (by kernel_rfl) (by kernel_rfl) (fun _ _ _ h => h) (Or.inl ⟨by kernel_rfl, ?_⟩) (by assumption) ?_; rotate_left 1; (focus (intro w hSw; (try dsimp only at hSw); go_simp; first | done | with_reducible rfl)); simp only [Act.put, List.getElem_toArray, List.getElem_cons_succ, List.getElem_cons_zero, List.setIfInBounds_toArray, List.set_cons_succ, List.set_cons_zero])
            have b0 := blk_free 0 a0
            have b1 := blk_free 1 a0
            have b2 := blk_free 2 a0
            have b3 := blk_cell 0 a0 rfl
            have b4 := blk_cell 1 a0 rfl
            have b5 := blk_cell 2 a0 rfl
            have bz := lt_of_block a0
            simp only [List.getElem_toArray, List.getElem_cons_zero, List.getElem_cons_succ] at b3 b4 b5
            (refine wpAnyH_ready (rs := [5]) (by kernel_rfl) (by simp) ?_; refine AllReadyH.cons rfl (fun K hK => ?_) AllReadyH.nil; go_simp)
            have hB6 : Below w3.heap.size w3 (((w4.setCell ⟨w3.heap.size, 0, none⟩ (.bool false)).setCell ⟨w3.heap.size, 1, none⟩ (.bool true)).setCell ⟨w3.heap.size, 2, none⟩ (.func (.func 124) #[] #[])) := ((hB4.setCell (by first | omega | (simp <;> omega)) _).setCell (by first | omega | (simp <;> omega)) _).setCell (by first | omega | (simp <;> omega)) _
            refine hK.out _ _ (KE.out _ hB6) (fun hHeld => ?_)
            (try simp only [Act.put, List.getElem_toArray, List.getElem_cons_succ, List.getElem_cons_zero, List.setIfInBounds_toArray, List.set_cons_succ, List.set_cons_zero])
            clear hK
            (refine wpAnyH_take (i := 6) (v := ?_) rfl (by kernel_rfl) (by kernel_rfl) (by kernel_rfl) (fun _ _ _ h => h) (Or.inl ⟨by kernel_rfl, ?_⟩) (by assumption) ?_; rotate_left 1; (focus (intro w hSw; (try dsimp only at hSw); go_simp; first | done | with_reducible rfl)); simp only [Act.put, List.getElem_toArray, List.getElem_cons_succ, List.getElem_cons_zero, List.setIfInBounds_toArray, List.set_cons_succ, List.set_cons_zero])
            refine wpAnyH_done (by kernel_rfl) ?_ _
            have hG6 := blk_set 2 (.func (.func 124) #[] #[]) (blk_set 1 (.bool true) (blk_set 0 (.bool false) a0))
            generalize (((w4.setCell ⟨w3.heap.size, 0, none⟩ (.bool false)).setCell ⟨w3.heap.size, 1, none⟩ (.bool true)).setCell ⟨w3.heap.size, 2, none⟩ (.func (.func 124) #[] #[])) = G6 at *
            go_wp2
            go_meet
            case rel => exact ⟨w3.heap.size, rfl, rfl, hG6, hB6⟩
        case rest =>
          obtain ⟨g, rfl, rfl, hG, hbU⟩ := hcut
          rename World => U
          have hwU := hw3.trans (hbU.mono hw3.size)
          have gMU := (hbU.block _ mz).trans gM
          have HOU := Lib.hid (own_below HO3.out hbU)
          have hzU := hwU.size
          clear m0 mz gM HO3 hbU AC
          have m0 := blk_cell 0 gMU rfl
          have m1 := blk_cell 1 gMU rfl
          have mz := lt_of_block gMU
          have x0 := blk_cell 0 hG rfl
          have x1 := blk_cell 1 hG rfl
          have x2 := blk_cell 2 hG rfl
          have xz := lt_of_block hG
          simp only [List.getElem_toArray, List.getElem_cons_zero, List.getElem_cons_succ] at m0 m1 x0 x1 x2
          have KX : Hid (∀ U', Below U.heap.size U U' → U'.heap[g]? = U.heap[g]? ∧ U'.heap[V.heap.size]? = U.heap[V.heap.size]? ∧ g < U'.heap.size ∧ V.heap.size < U'.heap.size) := Lib.hid (fun U' h => ⟨h.block _ xz, h.block _ mz, Nat.lt_of_lt_of_le xz h.size, Nat.lt_of_lt_of_le mz h.size⟩)
          have HG := Lib.hid hG
          have HMU := Lib.hid gMU
          clear gMU hG
          have AT := Lib.hid (fun V => LAct4_any (⟨#[]⟩ : ByteArray) wd V)
          have WY := Lib.hid (LWordY_any wd U hwd)
          go_upto_region 23 with (go_at_call 78; go_must ((with_reducible refine WY.out.mono ?_); rintro e w4 ⟨rfl, hb4⟩; have kx := KX.out w4 hb4; replace x0 := blk_cell 0 (kx.1.trans HG.out) rfl; replace x1 := blk_cell 1 (kx.1.trans HG.out) rfl; replace x2 := blk_cell 2 (kx.1.trans HG.out) rfl; replace m0 := blk_cell 0 (kx.2.1.trans HMU.out) rfl; replace m1 := blk_cell 1 (kx.2.1.trans HMU.out) rfl; replace xz := kx.2.2.1; replace mz := kx.2.2.2; clear kx; simp only [List.getElem_toArray, List.getElem_cons_zero, List.getElem_cons_succ] at m0 m1 x0 x1 x2; dsimp only))
          have hW : Below w.heap.size w w4 := (hwU.trans (hb4.mono hzU))
          have HOW := Lib.hid (own_below HOU.out hb4)
          go_wp2_with (first
            | (at_builtin; go_must (refine wpList_app (.tmp 90) (.tmp 96) E_str rfl rfl rfl rfl w.heap.size now.length 1 (now.map Value.string) ([wd].map Value.string) HO5.out (SrcAt.strsL hs5.2.2 hi5) (by omega) (by decide) hW5.size ?_; intro v7 w7 ho7 hg7 _; have hb7 := app_on hW5 hW5.size (Nat.le_refl _) HO5.out hg7; clear hg7; simp only [Act.put, List.setIfInBounds_toArray, List.set_cons_succ, List.set_cons_zero]))
            | (go_at_call 124; go_must ((with_reducible refine (AT.out w4).mono ?_); rintro e w5 ⟨a5, c5, rfl, hs5, hi5, hb5⟩; have HO5 := Lib.hid (own_below HOW.out hb5); have hW5 := hW.trans (hb5.mono hW.size); dsimp only)))
          go_roundw
          case rel => exact ⟨k + 1, (at_, now ++ [wd]), by omega, by go_num, by go_num, g3, by simp only; omega, by simp <;> omega, hb7, by simpa using ho7⟩
          case measure => simp [intOf]; omega
    · obtain rfl : k = m.length := by omega
      rw [List.take_length, HRUN.out] at hrs
      cases hrs
      obtain ⟨ao, co, hv9, s1, s2⟩ := StrsV.of_own hown
      subst hv9
      have ho15I : ¬ (15 : Int) < out.length := by omega
      go_wp2
      go_ret2
      exact ⟨ao, co, rfl, s1, s2, hbV⟩
end Go.Proofs.YtelmponkmmfffaaGreat
namespace Go.Proofs.YtelmponkmmfffaaGreat
open Go Go.RowKit Go.Shelf
def exPlea : List LeP := [⟨[(⟨#[116, 111]⟩ : ByteArray), (⟨#[116, 104, 101]⟩ : ByteArray)], 0, 0⟩, ⟨[], 1, 2⟩, ⟨[(⟨#[105]⟩ : ByteArray), (⟨#[97, 115, 107]⟩ : ByteArray)], 0, 0⟩, ⟨[], 1, 3⟩]
def exNote : List LeP := [⟨[], 1, 2⟩, ⟨[(⟨#[105]⟩ : ByteArray), (⟨#[97, 115, 107]⟩ : ByteArray)], 0, 0⟩, ⟨[], 0, 2⟩]
def exList : List LeP := [⟨[], 1, 2⟩, ⟨[], 1, 2⟩]
def exS2 : LeS := ⟨12, [⟨(⟨#[112, 108, 101, 97]⟩ : ByteArray), exPlea⟩, ⟨(⟨#[110, 111, 116, 101]⟩ : ByteArray), exNote⟩, ⟨(⟨#[108, 105, 115, 116]⟩ : ByteArray), exList⟩]⟩
def exLA : List ByteArray := [(⟨#[116, 111]⟩ : ByteArray), (⟨#[116, 104, 101]⟩ : ByteArray), (⟨#[106, 117, 100, 103, 101]⟩ : ByteArray), (⟨#[105]⟩ : ByteArray), (⟨#[97, 115, 107]⟩ : ByteArray), (⟨#[109, 101, 114, 99, 121]⟩ : ByteArray)]
theorem spl_exLA : splitL (⟨#[116, 111, 32, 116, 104, 101, 32, 106, 117, 100, 103, 101, 32, 105, 32, 97, 115, 107, 32, 109, 101, 114, 99, 121]⟩ : ByteArray) 32 = exLA := by kernel_rfl
theorem let_exLA : letB exLA = true := by kernel_rfl
def exLB : List ByteArray := [(⟨#[116, 111]⟩ : ByteArray), (⟨#[106, 117, 100, 103, 101]⟩ : ByteArray), (⟨#[105]⟩ : ByteArray), (⟨#[97, 115, 107]⟩ : ByteArray), (⟨#[102, 111, 114]⟩ : ByteArray), (⟨#[109, 101, 114, 99, 121]⟩ : ByteArray)]
theorem spl_exLB : splitL (⟨#[116, 111, 32, 106, 117, 100, 103, 101, 32, 105, 32, 97, 115, 107, 32, 102, 111, 114, 32, 109, 101, 114, 99, 121]⟩ : ByteArray) 32 = exLB := by kernel_rfl
theorem let_exLB : letB exLB = true := by kernel_rfl
def exLC : List ByteArray := [(⟨#[97]⟩ : ByteArray), (⟨#[98]⟩ : ByteArray), (⟨#[99]⟩ : ByteArray)]
theorem spl_exLC : splitL (⟨#[97, 32, 98, 32, 99]⟩ : ByteArray) 32 = exLC := by kernel_rfl
theorem let_exLC : letB exLC = true := by kernel_rfl
def exJ : List ByteArray := [(⟨#[106, 117, 100, 103, 101]⟩ : ByteArray)]
theorem spl_exJ : splitL (⟨#[106, 117, 100, 103, 101]⟩ : ByteArray) 32 = exJ := by kernel_rfl
def exM : List ByteArray := [(⟨#[109, 101, 114, 99, 121]⟩ : ByteArray)]
theorem spl_exM : splitL (⟨#[109, 101, 114, 99, 121]⟩ : ByteArray) 32 = exM := by kernel_rfl
def exTT : List ByteArray := [(⟨#[116, 111]⟩ : ByteArray), (⟨#[116, 104, 101]⟩ : ByteArray)]
theorem spl_exTT : splitL (⟨#[116, 111, 32, 116, 104, 101]⟩ : ByteArray) 32 = exTT := by kernel_rfl
def exIA : List ByteArray := [(⟨#[105]⟩ : ByteArray), (⟨#[97, 115, 107]⟩ : ByteArray)]
theorem spl_exIA : splitL (⟨#[105, 32, 97, 115, 107]⟩ : ByteArray) 32 = exIA := by kernel_rfl
def exA1 : List ByteArray := [(⟨#[97]⟩ : ByteArray)]
theorem spl_exA1 : splitL (⟨#[97]⟩ : ByteArray) 32 = exA1 := by kernel_rfl
def exBC : List ByteArray := [(⟨#[98]⟩ : ByteArray), (⟨#[99]⟩ : ByteArray)]
theorem spl_exBC : splitL (⟨#[98, 32, 99]⟩ : ByteArray) 32 = exBC := by kernel_rfl
def lePB (p : LeP) : Bool := decide (p.words.length ≤ 3) && p.words.all wordB && (if p.words.length = 0 then decide (0 ≤ p.lo ∧ p.lo ≤ p.hi ∧ 1 ≤ p.hi ∧ p.hi ≤ 3) else decide (p.lo = 0 ∧ p.hi = 0))
theorem lePB_ok {p : LeP} (h : lePB p = true) : LePOk p := by
  unfold lePB at h
  rw [Bool.and_eq_true, Bool.and_eq_true] at h
  obtain ⟨⟨h1, h2⟩, h3⟩ := h
  refine ⟨by simpa using h1, fun i hi => (List.all_eq_true.1 h2) _ (List.getElem_mem hi), fun hw => ?_, fun hw => ?_⟩
  · rw [if_neg (fun e => hw (List.eq_nil_of_length_eq_zero e))] at h3
    simpa using h3
  · rw [if_pos (by rw [hw]; rfl)] at h3
    simpa using h3
def leFB (f : LeF) : Bool := decide (f.parts.length ≤ 5) && f.parts.all lePB
theorem leFB_ok {f : LeF} (h : leFB f = true) : LeFOk f := by
  unfold leFB at h
  rw [Bool.and_eq_true] at h
  exact ⟨by simpa using h.1, fun i hi => lePB_ok ((List.all_eq_true.1 h.2) _ (List.getElem_mem hi))⟩
def leSB (s : LeS) : Bool := decide (8 ≤ s.width ∧ s.width ≤ 30) && decide (s.forms.length ≤ 4) && (s.forms.all leFB && s.forms.all (fun f => nameB f.name)) && (List.range s.forms.length).all fun i => (List.range i).all fun j => decide ((s.forms[j]?.map LeF.name) ≠ s.forms[i]?.map LeF.name)
theorem leSB_ok {s : LeS} (h : leSB s = true) : LeValid s := by
  unfold leSB at h
  simp only [Bool.and_eq_true] at h
  obtain ⟨⟨⟨h1, h2⟩, h3, h4⟩, h5⟩ := h
  refine ⟨by simpa using h1, by simpa using h2, fun i hi => ⟨(List.all_eq_true.1 h4) _ (List.getElem_mem hi), fun j hj => ?_, leFB_ok ((List.all_eq_true.1 h3) _ (List.getElem_mem hi))⟩⟩
  have g := (List.all_eq_true.1 h5) i (by simpa using hi)
  have g2 := (List.all_eq_true.1 g) j (by simpa using hj)
  rw [List.getElem?_eq_getElem (Nat.lt_trans hj hi), List.getElem?_eq_getElem hi] at g2
  simpa using g2
theorem exS2_valid : LeValid exS2 := leSB_ok (by kernel_rfl)
theorem ex_put : PutOk (roomsF exPlea) [exJ, exM] := by
  have h2 : ([exJ, exM] : List (List ByteArray)).length = 2 := rfl
  have key : ((List.range 2).all fun i => decide (((roomsF exPlea)[i]?.getD (0, 0)).1 ≤ ((([exJ, exM][i]?).getD []).length : Int) ∧ ((([exJ, exM][i]?).getD []).length : Int) ≤ ((roomsF exPlea)[i]?.getD (0, 0)).2 ∧ ((([exJ, exM] : List (List ByteArray))[i]?).getD []).all wordB = true)) = true := by kernel_rfl
  refine ⟨by kernel_rfl, fun i hi hr => ?_⟩
  have h := (List.all_eq_true.1 key) i (by simp; omega)
  rw [List.getElem?_eq_getElem hi, List.getElem?_eq_getElem hr] at h
  simpa using h
theorem ex_make : makeF exPlea [exJ, exM] = exLA := by kernel_rfl
theorem ex_of : ofTo exS2 exLC exS2.forms.length = [2] := by kernel_rfl
theorem ex_ways : (waysG exList exLC).2 = ([1, 2], 2) := by kernel_rfl
theorem ex_fills : fillsF exList [1, 2] exLC = [exA1, exBC] := by kernel_rfl
theorem ex_text : (⟨(textL 12 exLA).toArray⟩ : ByteArray) = (⟨#[116, 111, 32, 116, 104, 101, 32, 106, 117, 100, 103, 101, 10, 105, 32, 97, 115, 107, 32, 109, 101, 114, 99, 121, 10]⟩ : ByteArray) := by kernel_rfl
def exMarks : List (Nat × ByteArray) := [(0, (⟨#[]⟩ : ByteArray)), (2, (⟨#[]⟩ : ByteArray)), (0, (⟨#[]⟩ : ByteArray)), (0, (⟨#[]⟩ : ByteArray)), (0, (⟨#[]⟩ : ByteArray)), (3, (⟨#[102, 111, 114]⟩ : ByteArray)), (0, (⟨#[]⟩ : ByteArray))]
theorem ex_apply : runA exLA (0, []) exMarks = some (exLA.length, exLB) := by kernel_rfl
/-- A table of what is left, by places. -/
def tabAt (t : List (List (Nat × Int))) (i k : Nat) : Nat × Int := ((t[i]?.getD [])[k]?).getD (0, 0)
def tabStep (a s : List ByteArray) (t : List (List (Nat × Int))) (i k : Nat) : Nat × Int :=
  if i = a.length ∧ k = s.length then (4, 0) else leastF (fun kind => match stepP a s kind i k with | none => -1 | some (i', k', c) => c + (tabAt t i' k').2) [0, 1, 2, 3] (0, -1)
def tabOk (a s : List ByteArray) (t : List (List (Nat × Int))) : Bool := (List.range (a.length + 1)).all fun i => (List.range (s.length + 1)).all fun k => decide (tabAt t i k = tabStep a s t i k)
theorem tab_left {a s : List ByteArray} {t : List (List (Nat × Int))} (h : tabOk a s t = true) : ∀ (n i k : Nat), i ≤ a.length → k ≤ s.length → remP a s (i, k) < n → leftP a s i k = tabAt t i k
  | 0, _, _, _, _, h => absurd h (Nat.not_lt_zero _)
  | n + 1, i, k, hi, hk, hr => by
    have h1 : tabAt t i k = tabStep a s t i k := by
      unfold tabOk at h
      rw [List.all_eq_true] at h
      have h2 := h i (by simp; omega)
      rw [List.all_eq_true] at h2
      simpa using h2 k (by simp; omega)
    rw [h1, leftP_eq a s i k hi hk]
    unfold tabStep
    split
    · rfl
    · refine leastF_congr _ _ (fun q _ => ?_)
      unfold askP
      cases hs : stepP a s q i k with
      | none => rfl
      | some x =>
        obtain ⟨i', k', c⟩ := x
        obtain ⟨g1, g2, g3, _⟩ := stepP_in hs hi hk
        simp only
        rw [tab_left h n i' k' g1 g2 (by unfold remP at *; simp only at *; omega)]
theorem tab_all {a s : List ByteArray} {t : List (List (Nat × Int))} (h : tabOk a s t = true) (i k : Nat) (hi : i ≤ a.length) (hk : k ≤ s.length) : leftP a s i k = tabAt t i k := tab_left h _ i k hi hk (Nat.lt_succ_self _)
theorem tab_corr {a s : List ByteArray} {t : List (List (Nat × Int))} (h : tabOk a s t = true) : corrF a s = (tabAt t 0 0).2 := by rw [← corr_eq, tab_all h 0 0 (Nat.zero_le _) (Nat.zero_le _)]
def tabAB : List (List (Nat × Int)) := [[(0, 2), (2, 3), (2, 4), (1, 5), (1, 5), (2, 5), (2, 6)], [(1, 2), (2, 2), (2, 3), (1, 4), (1, 4), (2, 4), (2, 5)], [(3, 2), (0, 1), (2, 2), (1, 3), (1, 3), (2, 3), (2, 4)], [(3, 3), (3, 2), (0, 1), (1, 2), (1, 2), (2, 2), (2, 3)], [(3, 4), (3, 3), (3, 2), (0, 1), (1, 1), (2, 1), (2, 2)], [(3, 5), (3, 4), (3, 3), (3, 2), (3, 1), (0, 0), (2, 1)], [(3, 6), (3, 5), (3, 4), (3, 3), (3, 2), (3, 1), (4, 0)]]
theorem tabAB_ok : tabOk exLA exLB tabAB = true := by kernel_rfl
theorem ex_corr : corrF exLA exLB = 2 := by rw [tab_corr tabAB_ok]; kernel_rfl
def marksT (a s : List ByteArray) (t : List (List (Nat × Int))) : Nat → Nat → Nat → List (Nat × ByteArray)
  | 0, _, _ => []
  | n + 1, i, k => if i = a.length ∧ k = s.length then [] else match stepP a s (tabAt t i k).1 i k with
    | none => []
    | some (i', k', _) => ((tabAt t i k).1, markW s (tabAt t i k).1 k) :: marksT a s t n i' k'
theorem marks_tab {a s : List ByteArray} {t : List (List (Nat × Int))} (h : tabOk a s t = true) : ∀ (n i k : Nat), i ≤ a.length → k ≤ s.length → marksP a s n i k = marksT a s t n i k
  | 0, _, _, _, _ => rfl
  | n + 1, i, k, hi, hk => by
    simp only [marksP, marksT, tab_all h i k hi hk]
    split
    · rfl
    · cases hs : stepP a s (tabAt t i k).1 i k with
      | none => rfl
      | some x =>
        obtain ⟨i', k', c⟩ := x
        obtain ⟨g1, g2, _⟩ := stepP_in hs hi hk
        simp only
        rw [marks_tab h n i' k' g1 g2]
theorem ex_marks : marksL exLA exLB 0 0 = exMarks := by
  unfold marksL
  rw [marks_tab tabAB_ok _ 0 0 (Nat.zero_le _) (Nat.zero_le _)]
  kernel_rfl
def tabE2 : List (List (Nat × Int)) := [[(0, 4), (0, 5), (2, 6)], [(0, 3), (0, 4), (2, 5)], [(0, 2), (0, 3), (2, 4)], [(0, 1), (0, 2), (2, 3)], [(0, 0), (0, 1), (2, 2)], [(0, 1), (0, 0), (2, 1)], [(3, 2), (3, 1), (4, 0)]]
theorem tabE2_ok : tabOk exLA (List.replicate 2 noW) tabE2 = true := by kernel_rfl
theorem ex_corr2 : corrF exLA (List.replicate 2 noW) = 4 := by rw [tab_corr tabE2_ok]; kernel_rfl
def tabE3 : List (List (Nat × Int)) := [[(0, 3), (0, 4), (0, 5), (2, 6)], [(0, 2), (0, 3), (0, 4), (2, 5)], [(0, 1), (0, 2), (0, 3), (2, 4)], [(0, 0), (0, 1), (0, 2), (2, 3)], [(0, 1), (0, 0), (0, 1), (2, 2)], [(0, 2), (0, 1), (0, 0), (2, 1)], [(3, 3), (3, 2), (3, 1), (4, 0)]]
theorem tabE3_ok : tabOk exLA (List.replicate 3 noW) tabE3 = true := by kernel_rfl
theorem ex_corr3 : corrF exLA (List.replicate 3 noW) = 3 := by rw [tab_corr tabE3_ok]; kernel_rfl
def tabE4 : List (List (Nat × Int)) := [[(0, 2), (0, 3), (0, 4), (0, 5), (2, 6)], [(0, 1), (0, 2), (0, 3), (0, 4), (2, 5)], [(0, 0), (0, 1), (0, 2), (0, 3), (2, 4)], [(0, 1), (0, 0), (0, 1), (0, 2), (2, 3)], [(0, 2), (0, 1), (0, 0), (0, 1), (2, 2)], [(0, 3), (0, 2), (0, 1), (0, 0), (2, 1)], [(3, 4), (3, 3), (3, 2), (3, 1), (4, 0)]]
theorem tabE4_ok : tabOk exLA (List.replicate 4 noW) tabE4 = true := by kernel_rfl
theorem ex_corr4 : corrF exLA (List.replicate 4 noW) = 2 := by rw [tab_corr tabE4_ok]; kernel_rfl
def exShape : List ByteArray := [(⟨#[116, 111]⟩ : ByteArray), (⟨#[116, 104, 101]⟩ : ByteArray), noW, (⟨#[105]⟩ : ByteArray), (⟨#[97, 115, 107]⟩ : ByteArray), noW]
def tabP : List (List (Nat × Int)) := [[(0, 0), (2, 1), (0, 2), (2, 3), (2, 4), (0, 5), (2, 6)], [(3, 1), (0, 0), (0, 1), (2, 2), (2, 3), (0, 4), (2, 5)], [(3, 2), (3, 1), (0, 0), (2, 1), (2, 2), (0, 3), (2, 4)], [(3, 3), (3, 2), (0, 1), (0, 0), (2, 1), (0, 2), (2, 3)], [(3, 4), (3, 3), (0, 2), (3, 1), (0, 0), (0, 1), (2, 2)], [(3, 5), (3, 4), (0, 3), (3, 2), (3, 1), (0, 0), (2, 1)], [(3, 6), (3, 5), (3, 4), (3, 3), (3, 2), (3, 1), (4, 0)]]
theorem tabP_ok : tabOk exLA exShape tabP = true := by kernel_rfl
theorem ex_corrP : corrF exLA exShape = 0 := by rw [tab_corr tabP_ok]; kernel_rfl
theorem ex_mends : mendsF exList exLA = 2 := by
  have e : (countsF (roomsF exList)).map (shapeF exList) = [List.replicate 2 noW, List.replicate 3 noW, List.replicate 3 noW, List.replicate 4 noW] := by kernel_rfl
  unfold mendsF
  rw [e]
  simp only [mendF, ex_corr2, ex_corr3, ex_corr4]
  decide
theorem mend_zero (l : List ByteArray) : ∀ ss : List (List ByteArray), mendF l ss 0 = 0
  | [] => rfl
  | s :: ss => by
    have := (corr_bd l s).1
    simp only [mendF]
    rw [if_neg (by omega)]
    exact mend_zero l ss
theorem ex_near0 : mendsF exPlea exLA = 0 := by
  have e : (countsF (roomsF exPlea)).map (shapeF exPlea) = exShape :: ((countsF (roomsF exPlea)).map (shapeF exPlea)).tail := by kernel_rfl
  unfold mendsF
  rw [e]
  simp only [mendF, ex_corrP]
  exact mend_zero _ _
theorem ex_near : leastK (nearF exS2 exLA) exS2.forms.length = (0, 0) := by
  have h0 : nearF exS2 exLA 0 = 0 := ex_near0
  have e : exS2.forms.length = 3 := rfl
  rw [e]
  simp only [leastK, h0]
  simp
  have : ∀ x : Int, ¬ (0 ≤ x ∧ x < 0) := fun x h => by omega
  simp [this]
theorem ex_pieces1 : pieces (⟨#[116, 111, 32, 116, 104, 101, 32, 106, 117, 100, 103, 101, 10, 105, 32, 97, 115, 107, 32, 109, 101, 114, 99, 121, 10]⟩ : ByteArray) = exLA := by kernel_rfl
theorem ex_pieces2 : pieces (⟨#[116, 111, 32, 116, 104, 101, 10]⟩ : ByteArray) = exTT := by kernel_rfl
theorem ex_read1 : letB (pieces (⟨#[116, 111, 32, 116, 104, 101, 32, 106, 117, 100, 103, 101, 10, 105, 32, 97, 115, 107, 32, 109, 101, 114, 99, 121, 10]⟩ : ByteArray)) = true ∧ decide ((⟨(textL exS2.width (pieces (⟨#[116, 111, 32, 116, 104, 101, 32, 106, 117, 100, 103, 101, 10, 105, 32, 97, 115, 107, 32, 109, 101, 114, 99, 121, 10]⟩ : ByteArray))).toArray⟩ : ByteArray) = (⟨#[116, 111, 32, 116, 104, 101, 32, 106, 117, 100, 103, 101, 10, 105, 32, 97, 115, 107, 32, 109, 101, 114, 99, 121, 10]⟩ : ByteArray)) = true := ⟨by kernel_rfl, by kernel_rfl⟩
theorem ex_read2 : letB (pieces (⟨#[116, 111, 32, 116, 104, 101, 10]⟩ : ByteArray)) = true ∧ decide ((⟨(textL exS2.width (pieces (⟨#[116, 111, 32, 116, 104, 101, 10]⟩ : ByteArray))).toArray⟩ : ByteArray) = (⟨#[116, 111, 32, 116, 104, 101, 10]⟩ : ByteArray)) = true := ⟨by kernel_rfl, by kernel_rfl⟩
theorem ex_read3 : letB (pieces (⟨#[116, 111, 32, 116, 104, 101, 32, 106, 117, 100, 103, 101, 32, 105, 10, 97, 115, 107, 32, 109, 101, 114, 99, 121, 10]⟩ : ByteArray)) = true ∧ decide ((⟨(textL exS2.width (pieces (⟨#[116, 111, 32, 116, 104, 101, 32, 106, 117, 100, 103, 101, 32, 105, 10, 97, 115, 107, 32, 109, 101, 114, 99, 121, 10]⟩ : ByteArray))).toArray⟩ : ByteArray) = (⟨#[116, 111, 32, 116, 104, 101, 32, 106, 117, 100, 103, 101, 32, 105, 10, 97, 115, 107, 32, 109, 101, 114, 99, 121, 10]⟩ : ByteArray)) = false := ⟨by kernel_rfl, by kernel_rfl⟩
end Go.Proofs.YtelmponkmmfffaaGreat
