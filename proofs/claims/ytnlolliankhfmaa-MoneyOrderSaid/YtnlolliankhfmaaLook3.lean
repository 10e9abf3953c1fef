/- What is proved here: the contract of kept. Conditions: the list is valid. -/
import Derived.Test.YtnlolliankhfmaaLookA
import Derived.Test.YtnlolliankhfmaaGround
set_option linter.unusedVariables false
set_option linter.unusedSimpArgs false
namespace Go.Proofs.Ytnlolliankhfmaa
open Go Go.RowKit

/-- What a word says, as a closure's number. -/
def sayF (says : Int) : Nat := if says = 0 ∨ says = 2 then 114 else 115
theorem SayF_any (says a b : Int) (w : World) : Calls Try.prog (sayF says) #[.int .i64 a, .int .i64 b] w fun e w' => e = .returned (.bool (likeB says a b)) ∧ w = w' := by
  unfold sayF likeB
  by_cases h : says = 0 ∨ says = 2
  · rw [if_pos h]; simp only [if_pos h]; exact Say1_any a b w
  · rw [if_neg h]; simp only [if_neg h]; exact Say2_any a b w

theorem five_cell {w W : World} {t0 t1 t2 t3 t4 : Int} {t : TypeId} (h : Below (w.heap.size + 1) (w.alloc (.cells #[.int .i64 t0, .int .i64 t1, .int .i64 t2, .int .i64 t3, .int .i64 t4] t)) W) {T : List Int} (hT : T = [t0, t1, t2, t3, t4]) (j : Nat) (hj : j < 5) :
    W.cell? ⟨w.heap.size, j, none⟩ = some (.int .i64 (T[j]?.getD 0)) := by
  subst hT
  refine box_cell h j _ ?_
  rcases j with _ | _ | _ | _ | _ | j
  · rfl
  · rfl
  · rfl
  · rfl
  · rfl
  · omega
theorem say_cell {w W : World} {t : TypeId} (h : Below (w.heap.size + 1) (w.alloc (.cells #[.func (.func 114) #[] #[], .func (.func 115) #[] #[], .func (.func 114) #[] #[], .func (.func 115) #[] #[]] t)) W) (says : Int) (h0 : 0 ≤ says) (h1 : says ≤ 3) (F : Nat) (hF : F = sayF says) :
    W.cell? ⟨w.heap.size, says.toNat, none⟩ = some (.func (.func F) #[] #[]) := by
  subst hF
  refine box_cell h _ _ ?_
  obtain rfl | rfl | rfl | rfl : says = 0 ∨ says = 1 ∨ says = 2 ∨ says = 3 := by omega
  · rfl
  · rfl
  · rfl
  · rfl

theorem kept_out (m : MoList) (T : List Int) (s : Nat) {n k : Nat} (hk : k < n) (h : keptAt m T s k = false) : keptTo m T s n = false := by
  unfold keptTo
  rw [List.all_eq_false]
  exact ⟨k, by simpa using hk, by simp [h]⟩

set_option maxRecDepth 100000 in
set_option maxHeartbeats 8000000 in
theorem MKept_any (ac az aw ap : Option Addr) (cc cz cw cp : Nat) (m : MoList) (c bm s : Nat) (T : List Int) (t0 t1 t2 t3 t4 : Int) (hT : T = [t0, t1, t2, t3, t4]) (w : World) (hm : LookC w bm ac az aw ap cc cz cw cp m c) (hv : Valid m) (hc : c < 64) (hs : s < m.sums.length) :
    Calls Try.prog 111 #[.pointer (some ⟨bm, 0, none⟩), .agg #[.int .i64 t0, .int .i64 t1, .int .i64 t2, .int .i64 t3, .int .i64 t4], .int .i64 (s : Int)] w fun e w' => e = .returned (.bool (keptB (withBits m c) T s)) ∧ Below w.heap.size w w' := by
  have HT := Lib.hid hT
  clear hT
  have l3 := hm.lst.okw.len
  have v3 := hv.nw
  have vz := hv.nz
  have c2 := hm.c2
  have hB := lt_of_cell c2
  have SA := Lib.hid (fun W => Sayings_any W)
  have hW0 := Below.refl (w.heap.size + 1) (w.alloc (.cells #[.int .i64 t0, .int .i64 t1, .int .i64 t2, .int .i64 t3, .int .i64 t4] 96))
  go_enter Try.func111, Try.ntmps111
  go_wp2_with (go_at_call 112; go_must (refine (SA.out _).mono ?_; rintro e w2 ⟨rfl, hb2⟩; have d2 := cell_below (box_old (hW0.trans (hb2.mono (by simp)))) c2; have hBd := lt_of_cell d2; dsimp only))
  have hWA := Below.refl (w2.heap.size + 1) (w2.alloc (.cells #[.func (.func 114) #[] #[], .func (.func 115) #[] #[], .func (.func 114) #[] #[], .func (.func 115) #[] #[]] 133))
  have hw2 := hW0.trans (hb2.mono (by simp))
  go_loopw [22] (fun i wr => ∃ k : Nat, k ≤ m.words.length ∧ i = .int .i64 k ∧ Hid (keptTo (withBits m c) T s k = true) ∧ Below (w2.heap.size + 1) (w2.alloc (.cells #[.func (.func 114) #[] #[], .func (.func 115) #[] #[], .func (.func 114) #[] #[], .func (.func 115) #[] #[]] 133)) wr) (fun i _ => m.words.length - (intOf i).toNat)
  case atStart => exact ⟨0, Nat.zero_le _, rfl, Lib.hid rfl, hWA⟩
  case round =>
    clear hWA
    obtain ⟨k, hk, rfl, HB, hbr⟩ := hrel
    have hbw := box_old hbr
    have hb5 := hw2.trans (hbw.mono (by have := hw2.size; simp at this; omega))
    have hm2 := hm.mono (box_old hb5)
    replace d2 := hm2.c2
    replace hBd := lt_of_cell d2
    clear c2 hB
    by_cases hlt : k < m.words.length
    · have vw := hv.words k hlt
      have HK : Hid (keptAt (withBits m c) T s k = !(decide (lastOf m.words[k] = (s : Int)) && counts (withBits m c) k && !soAt m.words[k] T)) := by
        show _ = _
        unfold keptAt
        rw [withBits_at m c k hlt]
        rfl
      have HS := Lib.hid (keptTo_succ (withBits m c) T s k)
      have CN := Lib.hid (fun W (h : Below w.heap.size w W) => MCounts_any ac az aw ap cc cz cw cp m c k bm W (hm.mono h) hv hlt hc)
      obtain ⟨b, off, rfl, hb, h1, h2, h3, h4, h5⟩ := hm2.lst.words k hlt
      generalize m.words[k] = wd at HK h1 h2 h3 h4 h5 vw
      obtain ⟨says, sum, of, back, came⟩ := wd
      simp only at h1 h2 h3 h4 h5
      have v1 := vw.says
      have v2 := vw.sum
      simp only at v1 v2
      have w1 : 0 ≤ says := v1.1
      have w2' : says < 4 := by omega
      have w3' : 0 ≤ sum := v2.1
      have w4' : sum < 5 := by omega
      obtain ⟨x, hx⟩ : ∃ x, x = T[sum.toNat]?.getD 0 := ⟨_, rfl⟩
      have HX := Lib.hid hx
      clear hx
      obtain ⟨F, hF⟩ : ∃ F, F = sayF says := ⟨_, rfl⟩
      have HF := Lib.hid hF
      clear hF
      have FN := Lib.hid (fun a b W => SayF_any says a b W)
      rw [← HF.out] at FN
      have hFF : F = 114 ∨ F = 115 := by rw [HF.out]; unfold sayF; split; exact .inl rfl; exact .inr rfl
      have HBX := Below.refl (wr.heap.size + 1) (wr.alloc (.cells #[.int .i64 says, .int .i64 sum, .int .i64 of, .int .i64 back, .bool came] 70))
      have KE : Hid (∀ W, Below (wr.heap.size + 1) (wr.alloc (.cells #[.int .i64 says, .int .i64 sum, .int .i64 of, .int .i64 back, .bool came] 70)) W → (fun W => Below (wr.heap.size + 1) (wr.alloc (.cells #[.int .i64 says, .int .i64 sum, .int .i64 of, .int .i64 back, .bool came] 70)) W ∧ W.cell? ⟨wr.heap.size, 0, none⟩ = some (.int .i64 says) ∧ W.cell? ⟨wr.heap.size, 1, none⟩ = some (.int .i64 sum) ∧ W.cell? ⟨w2.heap.size, says.toNat, none⟩ = some (.func (.func F) #[] #[]) ∧ W.cell? ⟨w.heap.size, sum.toNat, none⟩ = some (.int .i64 x) ∧ wr.heap.size < W.heap.size ∧ w2.heap.size < W.heap.size ∧ w.heap.size < W.heap.size) W) := Lib.hid (fun W h => by
        have hold := box_old h
        have e1 := cell_below hold (say_cell hbr says v1.1 v1.2 F HF.out)
        have e2 := cell_below hold (five_cell hb5 HT.out sum.toNat (by omega))
        have z0 := box_size h
        have z1 := lt_of_cell e1
        have z2 := lt_of_cell e2
        exact ⟨h, box_cell h 0 _ rfl, box_cell h 1 _ rfl, e1, by rw [HX.out]; exact e2, z0, z1, z2⟩)
      have KO : Hid (∀ W, (fun W => Below (wr.heap.size + 1) (wr.alloc (.cells #[.int .i64 says, .int .i64 sum, .int .i64 of, .int .i64 back, .bool came] 70)) W ∧ W.cell? ⟨wr.heap.size, 0, none⟩ = some (.int .i64 says) ∧ W.cell? ⟨wr.heap.size, 1, none⟩ = some (.int .i64 sum) ∧ W.cell? ⟨w2.heap.size, says.toNat, none⟩ = some (.func (.func F) #[] #[]) ∧ W.cell? ⟨w.heap.size, sum.toNat, none⟩ = some (.int .i64 x) ∧ wr.heap.size < W.heap.size ∧ w2.heap.size < W.heap.size ∧ w.heap.size < W.heap.size) W → Below w.heap.size w W) := Lib.hid (fun W h => (box_old hb5).trans ((box_old h.1).mono (by have := hb5.size; simp at this; omega)))
      have KN : Hid (∀ W W', (fun W => Below (wr.heap.size + 1) (wr.alloc (.cells #[.int .i64 says, .int .i64 sum, .int .i64 of, .int .i64 back, .bool came] 70)) W ∧ W.cell? ⟨wr.heap.size, 0, none⟩ = some (.int .i64 says) ∧ W.cell? ⟨wr.heap.size, 1, none⟩ = some (.int .i64 sum) ∧ W.cell? ⟨w2.heap.size, says.toNat, none⟩ = some (.func (.func F) #[] #[]) ∧ W.cell? ⟨w.heap.size, sum.toNat, none⟩ = some (.int .i64 x) ∧ wr.heap.size < W.heap.size ∧ w2.heap.size < W.heap.size ∧ w.heap.size < W.heap.size) W → Below W.heap.size W W' → Below (wr.heap.size + 1) (wr.alloc (.cells #[.int .i64 says, .int .i64 sum, .int .i64 of, .int .i64 back, .bool came] 70)) W') := Lib.hid (fun W W' h hb => h.1.trans (hb.mono h.2.2.2.2.2.1))
      by_cases hs2 : 2 ≤ says
      · have v4 := vw.of2 hs2
        simp only at v4
        obtain ⟨y, hy⟩ : ∃ y, y = T[of.toNat]?.getD 0 := ⟨_, rfl⟩
        have HY := Lib.hid hy
        clear hy
        have ey : wr.cell? ⟨w.heap.size, of.toNat, none⟩ = some (.int .i64 y) := by rw [HY.out]; exact five_cell hb5 HT.out of.toNat (by omega)
        have ez := box_size hb5
        have eof : of < 5 := by omega
        have hoth : otherOf ⟨says, sum, of, back, came⟩ T = y := (if_pos hs2).trans HY.out.symm
        have HSO : Hid (soAt ⟨says, sum, of, back, came⟩ T = likeB says x y) := by show _ = _; unfold soAt; rw [hoth, HX.out]
        clear hoth
        by_cases hso : sum ≤ of
        · have HL : Hid (lastOf ⟨says, sum, of, back, came⟩ = of) := Lib.hid ((if_pos hs2).trans (show max sum of = _ from by omega))
          by_cases hB : of = (s : Int)
          · have hB2 := eqi_t hB
            have HK : Hid (keptAt (withBits m c) T s k = !(counts (withBits m c) k && !soAt ⟨says, sum, of, back, came⟩ T)) := by show _ = _; rw [HK.out, HL.out]; simp [hB]
            clear hB
            generalize counts (withBits m c) k = cn at CN HK
            cases cn
            · go_wp2
              go_quiet (fail)
              obtain ⟨n1, rfl⟩ : ∃ n1, n1 = nq := ⟨_, rfl⟩
              go_wp2
              go_quiet (fail)
              go_wp2
              (try simp only [World.drewN_drewN])
              have hBd' := below_drewN' HBX (n1 + nq)
              have hBd := below_drew' hBd'
              have hO := KO.out _ (KE.out _ hBd)
              apply wp_mid _ (Below (wr.heap.size + 1) (wr.alloc (.cells #[.int .i64 says, .int .i64 sum, .int .i64 of, .int .i64 back, .bool came] 70)))
              refine wp_region_any (by kernel_rfl) ?_
              change wpAny _ _ _ _ _ _ _ (World.drew _)
              (refine wpAny_take (i := 0) (v := ?_) rfl (by kernel_rfl) (by kernel_rfl) (by kernel_rfl) (fun _ _ _ h => h) (Or.inl ⟨by kernel_rfl, ?_⟩) ?_; rotate_left 1; (focus (intro w; go_simp; first | done | with_reducible rfl)); simp only [Act.put, List.getElem_toArray, List.getElem_cons_succ, List.getElem_cons_zero, List.setIfInBounds_toArray, List.set_cons_succ, List.set_cons_zero])
              (refine wpAny_take (i := 1) (v := ?_) rfl (by kernel_rfl) (by kernel_rfl) (by kernel_rfl) (fun _ _ _ h => h) (Or.inl ⟨by kernel_rfl, ?_⟩) ?_; rotate_left 1; (focus (intro w; go_simp; first | done | with_reducible rfl)); simp only [Act.put, List.getElem_toArray, List.getElem_cons_succ, List.getElem_cons_zero, List.setIfInBounds_toArray, List.set_cons_succ, List.set_cons_zero])
              (refine wpAny_take (i := 2) (v := ?_) rfl (by kernel_rfl) (by kernel_rfl) (by kernel_rfl) (fun _ _ _ h => h) (Or.inl ⟨by kernel_rfl, ?_⟩) ?_; rotate_left 1; (focus (intro w; go_simp; first | done | with_reducible rfl)); simp only [Act.put, List.getElem_toArray, List.getElem_cons_succ, List.getElem_cons_zero, List.setIfInBounds_toArray, List.set_cons_succ, List.set_cons_zero])
              (refine wpAny_take (i := 3) (v := ?_) rfl (by kernel_rfl) (by kernel_rfl) (by kernel_rfl) (fun _ _ _ h => h) (Or.inl ⟨by kernel_rfl, ?_⟩) ?_; rotate_left 1; (focus (intro w; go_simp; first | done | with_reducible rfl)); simp only [Act.put, List.getElem_toArray, List.getElem_cons_succ, List.getElem_cons_zero, List.setIfInBounds_toArray, List.set_cons_succ, List.set_cons_zero])
              (refine wpAny_take (i := 4) (v := ?_) rfl (by kernel_rfl) (by kernel_rfl) (by kernel_rfl) (fun _ _ _ h => h) (Or.inl ⟨by kernel_rfl, ?_⟩) ?_; rotate_left 1; (focus (intro w; go_simp; first | done | with_reducible rfl)); simp only [Act.put, List.getElem_toArray, List.getElem_cons_succ, List.getElem_cons_zero, List.setIfInBounds_toArray, List.set_cons_succ, List.set_cons_zero])
              (refine wpAny_take (i := 5) (v := ?_) rfl (by kernel_rfl) (by kernel_rfl) (by kernel_rfl) (fun _ _ _ h => h) (Or.inl ⟨by kernel_rfl, ?_⟩) ?_; rotate_left 1; (focus (intro w; go_simp; first | done | with_reducible rfl)); simp only [Act.put, List.getElem_toArray, List.getElem_cons_succ, List.getElem_cons_zero, List.setIfInBounds_toArray, List.set_cons_succ, List.set_cons_zero])
              (refine wpAny_ready (rs := [6]) (by kernel_rfl) (by simp) ?_; refine AllReady.cons rfl (fun K hK => ?_) AllReady.nil; go_simp)
              go_wp2_with ((go_at_call 113; refine (CN.out _ hO).mono ?_; rintro e w3 ⟨rfl, hb3⟩; have hB3 := hBd.trans (hb3.mono (by simp)); dsimp only))
              (refine wpAny_take (i := 7) (v := ?_) rfl (by kernel_rfl) (by kernel_rfl) (by kernel_rfl) (fun _ _ _ h => h) (Or.inl ⟨by kernel_rfl, ?_⟩) ?_; rotate_left 1; (focus (intro w; go_simp; first | done | with_reducible rfl)); simp only [Act.put, List.getElem_toArray, List.getElem_cons_succ, List.getElem_cons_zero, List.setIfInBounds_toArray, List.set_cons_succ, List.set_cons_zero])
              (refine wpAny_take (i := 8) (v := ?_) rfl (by kernel_rfl) (by kernel_rfl) (by kernel_rfl) (fun _ _ _ h => h) (Or.inl ⟨by kernel_rfl, ?_⟩) ?_; rotate_left 1; (focus (intro w; go_simp; first | done | with_reducible rfl)); simp only [Act.put, List.getElem_toArray, List.getElem_cons_succ, List.getElem_cons_zero, List.setIfInBounds_toArray, List.set_cons_succ, List.set_cons_zero])
              (refine wpAny_take (i := 9) (v := undef) rfl (by kernel_rfl) (by kernel_rfl) (by kernel_rfl) (fun _ _ _ h => h) (Or.inr ⟨by kernel_rfl, rfl⟩) ?_; simp only [Act.put, List.getElem_toArray, List.getElem_cons_succ, List.getElem_cons_zero, List.setIfInBounds_toArray, List.set_cons_succ, List.set_cons_zero])
              (refine wpAny_take (i := 10) (v := undef) rfl (by kernel_rfl) (by kernel_rfl) (by kernel_rfl) (fun _ _ _ h => h) (Or.inr ⟨by kernel_rfl, rfl⟩) ?_; simp only [Act.put, List.getElem_toArray, List.getElem_cons_succ, List.getElem_cons_zero, List.setIfInBounds_toArray, List.set_cons_succ, List.set_cons_zero])
              (refine wpAny_take (i := 11) (v := undef) rfl (by kernel_rfl) (by kernel_rfl) (by kernel_rfl) (fun _ _ _ h => h) (Or.inr ⟨by kernel_rfl, rfl⟩) ?_; simp only [Act.put, List.getElem_toArray, List.getElem_cons_succ, List.getElem_cons_zero, List.setIfInBounds_toArray, List.set_cons_succ, List.set_cons_zero])
              (refine wpAny_take (i := 12) (v := undef) rfl (by kernel_rfl) (by kernel_rfl) (by kernel_rfl) (fun _ _ _ h => h) (Or.inr ⟨by kernel_rfl, rfl⟩) ?_; simp only [Act.put, List.getElem_toArray, List.getElem_cons_succ, List.getElem_cons_zero, List.setIfInBounds_toArray, List.set_cons_succ, List.set_cons_zero])
              (refine wpAny_take (i := 13) (v := undef) rfl (by kernel_rfl) (by kernel_rfl) (by kernel_rfl) (fun _ _ _ h => h) (Or.inr ⟨by kernel_rfl, rfl⟩) ?_; simp only [Act.put, List.getElem_toArray, List.getElem_cons_succ, List.getElem_cons_zero, List.setIfInBounds_toArray, List.set_cons_succ, List.set_cons_zero])
              (refine wpAny_take (i := 14) (v := undef) rfl (by kernel_rfl) (by kernel_rfl) (by kernel_rfl) (fun _ _ _ h => h) (Or.inr ⟨by kernel_rfl, rfl⟩) ?_; simp only [Act.put, List.getElem_toArray, List.getElem_cons_succ, List.getElem_cons_zero, List.setIfInBounds_toArray, List.set_cons_succ, List.set_cons_zero])
              (refine wpAny_take (i := 15) (v := undef) rfl (by kernel_rfl) (by kernel_rfl) (by kernel_rfl) (fun _ _ _ h => h) (Or.inr ⟨by kernel_rfl, rfl⟩) ?_; simp only [Act.put, List.getElem_toArray, List.getElem_cons_succ, List.getElem_cons_zero, List.setIfInBounds_toArray, List.set_cons_succ, List.set_cons_zero])
              (refine wpAny_take (i := 16) (v := undef) rfl (by kernel_rfl) (by kernel_rfl) (by kernel_rfl) (fun _ _ _ h => h) (Or.inr ⟨by kernel_rfl, rfl⟩) ?_; simp only [Act.put, List.getElem_toArray, List.getElem_cons_succ, List.getElem_cons_zero, List.setIfInBounds_toArray, List.set_cons_succ, List.set_cons_zero])
              (refine wpAny_take (i := 17) (v := undef) rfl (by kernel_rfl) (by kernel_rfl) (by kernel_rfl) (fun _ _ _ h => h) (Or.inr ⟨by kernel_rfl, rfl⟩) ?_; simp only [Act.put, List.getElem_toArray, List.getElem_cons_succ, List.getElem_cons_zero, List.setIfInBounds_toArray, List.set_cons_succ, List.set_cons_zero])
              (refine wpAny_take (i := 18) (v := undef) rfl (by kernel_rfl) (by kernel_rfl) (by kernel_rfl) (fun _ _ _ h => h) (Or.inr ⟨by kernel_rfl, rfl⟩) ?_; simp only [Act.put, List.getElem_toArray, List.getElem_cons_succ, List.getElem_cons_zero, List.setIfInBounds_toArray, List.set_cons_succ, List.set_cons_zero])
              (refine wpAny_take (i := 19) (v := undef) rfl (by kernel_rfl) (by kernel_rfl) (by kernel_rfl) (fun _ _ _ h => h) (Or.inr ⟨by kernel_rfl, rfl⟩) ?_; simp only [Act.put, List.getElem_toArray, List.getElem_cons_succ, List.getElem_cons_zero, List.setIfInBounds_toArray, List.set_cons_succ, List.set_cons_zero])
              (refine wpAny_take (i := 20) (v := undef) rfl (by kernel_rfl) (by kernel_rfl) (by kernel_rfl) (fun _ _ _ h => h) (Or.inr ⟨by kernel_rfl, rfl⟩) ?_; simp only [Act.put, List.getElem_toArray, List.getElem_cons_succ, List.getElem_cons_zero, List.setIfInBounds_toArray, List.set_cons_succ, List.set_cons_zero])
              (refine wpAny_take (i := 21) (v := ?_) rfl (by kernel_rfl) (by kernel_rfl) (by kernel_rfl) (fun _ _ _ h => h) (Or.inl ⟨by kernel_rfl, ?_⟩) ?_; rotate_left 1; (focus (intro w; go_simp; first | done | with_reducible rfl)); simp only [Act.put, List.getElem_toArray, List.getElem_cons_succ, List.getElem_cons_zero, List.setIfInBounds_toArray, List.set_cons_succ, List.set_cons_zero])
              refine wpAny_done (by kernel_rfl) ⟨rfl, hB3⟩ _
              intro W hW
              go_wp2
              go_roundw
              case rel => exact ⟨k + 1, by omega, by go_num, Lib.hid (by rw [HS.out, HB.out, HK.out]; simp), box_on hbr (box_old hW)⟩
              case measure => simp [intOf]; omega
            · rcases hFF with hFF | hFF
              all_goals
                rw [hFF] at FN KE KO KN
                clear hFF HF
                have FN := Lib.hid (fun W => FN.out x y W)
                generalize likeB says x y = lb at FN HSO
                cases lb
              all_goals
                go_wp2
                go_quiet (fail)
                obtain ⟨n1, rfl⟩ : ∃ n1, n1 = nq := ⟨_, rfl⟩
                go_wp2
                go_quiet (fail)
                go_wp2
                (try simp only [World.drewN_drewN])
                have hBd' := below_drewN' HBX (n1 + nq)
                have hBd := below_drew' hBd'
              · apply wp_mid _ (Below (wr.heap.size + 1) (wr.alloc (.cells #[.int .i64 says, .int .i64 sum, .int .i64 of, .int .i64 back, .bool came] 70)))
                (focus go_region_held3 (fun W => Below (wr.heap.size + 1) (wr.alloc (.cells #[.int .i64 says, .int .i64 sum, .int .i64 of, .int .i64 back, .bool came] 70)) W ∧ W.cell? ⟨wr.heap.size, 0, none⟩ = some (.int .i64 says) ∧ W.cell? ⟨wr.heap.size, 1, none⟩ = some (.int .i64 sum) ∧ W.cell? ⟨w2.heap.size, says.toNat, none⟩ = some (.func (.func 114) #[] #[]) ∧ W.cell? ⟨w.heap.size, sum.toNat, none⟩ = some (.int .i64 x) ∧ wr.heap.size < W.heap.size ∧ w2.heap.size < W.heap.size ∧ w.heap.size < W.heap.size) (exact KE.out _ (by assumption)) (first | (go_at_call 113; refine (CN.out _ (KO.out _ (by assumption))).mono ?_; rintro e w3 ⟨rfl, hb3⟩; have hB3 := KN.out _ _ (by assumption) hb3; dsimp only) | (go_at_call 114; refine (FN.out _).mono ?_; rintro e w4 ⟨rfl, rfl⟩; dsimp only)))
                exact ⟨rfl, hB3⟩
                intro W hW
                go_wp2
                go_ret
                exact ⟨ret_bool (by rw [keptB, withBits_len]; exact (kept_out _ _ _ hlt (by rw [HK.out, HSO.out]; simp)).symm), (box_old hb5).trans ((box_old hW).mono (by have := hb5.size; simp at this; omega))⟩
              · apply wp_mid _ (Below (wr.heap.size + 1) (wr.alloc (.cells #[.int .i64 says, .int .i64 sum, .int .i64 of, .int .i64 back, .bool came] 70)))
                (focus go_region_held3 (fun W => Below (wr.heap.size + 1) (wr.alloc (.cells #[.int .i64 says, .int .i64 sum, .int .i64 of, .int .i64 back, .bool came] 70)) W ∧ W.cell? ⟨wr.heap.size, 0, none⟩ = some (.int .i64 says) ∧ W.cell? ⟨wr.heap.size, 1, none⟩ = some (.int .i64 sum) ∧ W.cell? ⟨w2.heap.size, says.toNat, none⟩ = some (.func (.func 114) #[] #[]) ∧ W.cell? ⟨w.heap.size, sum.toNat, none⟩ = some (.int .i64 x) ∧ wr.heap.size < W.heap.size ∧ w2.heap.size < W.heap.size ∧ w.heap.size < W.heap.size) (exact KE.out _ (by assumption)) (first | (go_at_call 113; refine (CN.out _ (KO.out _ (by assumption))).mono ?_; rintro e w3 ⟨rfl, hb3⟩; have hB3 := KN.out _ _ (by assumption) hb3; dsimp only) | (go_at_call 114; refine (FN.out _).mono ?_; rintro e w4 ⟨rfl, rfl⟩; dsimp only)))
                exact ⟨rfl, hB3⟩
                intro W hW
                go_wp2
                go_roundw
                case rel => exact ⟨k + 1, by omega, by go_num, Lib.hid (by rw [HS.out, HB.out, HK.out, HSO.out]; simp), box_on hbr (box_old hW)⟩
                case measure => simp [intOf]; omega
              · apply wp_mid _ (Below (wr.heap.size + 1) (wr.alloc (.cells #[.int .i64 says, .int .i64 sum, .int .i64 of, .int .i64 back, .bool came] 70)))
                (focus go_region_held3 (fun W => Below (wr.heap.size + 1) (wr.alloc (.cells #[.int .i64 says, .int .i64 sum, .int .i64 of, .int .i64 back, .bool came] 70)) W ∧ W.cell? ⟨wr.heap.size, 0, none⟩ = some (.int .i64 says) ∧ W.cell? ⟨wr.heap.size, 1, none⟩ = some (.int .i64 sum) ∧ W.cell? ⟨w2.heap.size, says.toNat, none⟩ = some (.func (.func 115) #[] #[]) ∧ W.cell? ⟨w.heap.size, sum.toNat, none⟩ = some (.int .i64 x) ∧ wr.heap.size < W.heap.size ∧ w2.heap.size < W.heap.size ∧ w.heap.size < W.heap.size) (exact KE.out _ (by assumption)) (first | (go_at_call 113; refine (CN.out _ (KO.out _ (by assumption))).mono ?_; rintro e w3 ⟨rfl, hb3⟩; have hB3 := KN.out _ _ (by assumption) hb3; dsimp only) | (go_at_call 115; refine (FN.out _).mono ?_; rintro e w4 ⟨rfl, rfl⟩; dsimp only)))
                exact ⟨rfl, hB3⟩
                intro W hW
                go_wp2
                go_ret
                exact ⟨ret_bool (by rw [keptB, withBits_len]; exact (kept_out _ _ _ hlt (by rw [HK.out, HSO.out]; simp)).symm), (box_old hb5).trans ((box_old hW).mono (by have := hb5.size; simp at this; omega))⟩
              · apply wp_mid _ (Below (wr.heap.size + 1) (wr.alloc (.cells #[.int .i64 says, .int .i64 sum, .int .i64 of, .int .i64 back, .bool came] 70)))
                (focus go_region_held3 (fun W => Below (wr.heap.size + 1) (wr.alloc (.cells #[.int .i64 says, .int .i64 sum, .int .i64 of, .int .i64 back, .bool came] 70)) W ∧ W.cell? ⟨wr.heap.size, 0, none⟩ = some (.int .i64 says) ∧ W.cell? ⟨wr.heap.size, 1, none⟩ = some (.int .i64 sum) ∧ W.cell? ⟨w2.heap.size, says.toNat, none⟩ = some (.func (.func 115) #[] #[]) ∧ W.cell? ⟨w.heap.size, sum.toNat, none⟩ = some (.int .i64 x) ∧ wr.heap.size < W.heap.size ∧ w2.heap.size < W.heap.size ∧ w.heap.size < W.heap.size) (exact KE.out _ (by assumption)) (first | (go_at_call 113; refine (CN.out _ (KO.out _ (by assumption))).mono ?_; rintro e w3 ⟨rfl, hb3⟩; have hB3 := KN.out _ _ (by assumption) hb3; dsimp only) | (go_at_call 115; refine (FN.out _).mono ?_; rintro e w4 ⟨rfl, rfl⟩; dsimp only)))
                exact ⟨rfl, hB3⟩
                intro W hW
                go_wp2
                go_roundw
                case rel => exact ⟨k + 1, by omega, by go_num, Lib.hid (by rw [HS.out, HB.out, HK.out, HSO.out]; simp), box_on hbr (box_old hW)⟩
                case measure => simp [intOf]; omega
          · have hB2 := eqi_f hB
            have HK : Hid (keptAt (withBits m c) T s k = true) := by show _ = _; rw [HK.out, HL.out]; simp [hB]
            clear hB
            go_wp2
            go_quiet (fail)
            obtain ⟨n1, rfl⟩ : ∃ n1, n1 = nq := ⟨_, rfl⟩
            go_wp2
            go_quiet (fail)
            go_wp2
            (try simp only [World.drewN_drewN])
            have hBd' := below_drewN' HBX (n1 + nq)
            have hBd := below_drew' hBd'
            go_quiet (fail)
            go_wp2
            go_roundw
            case rel => exact ⟨k + 1, by omega, by go_num, Lib.hid (by rw [HS.out, HB.out, HK.out]; simp), box_on hbr (box_old (below_drewN' HBX _))⟩
            case measure => simp [intOf]; omega
        · have HL : Hid (lastOf ⟨says, sum, of, back, came⟩ = sum) := Lib.hid ((if_pos hs2).trans (show max sum of = _ from by omega))
          by_cases hB : sum = (s : Int)
          · have hB2 := eqi_t hB
            have HK : Hid (keptAt (withBits m c) T s k = !(counts (withBits m c) k && !soAt ⟨says, sum, of, back, came⟩ T)) := by show _ = _; rw [HK.out, HL.out]; simp [hB]
            clear hB
            generalize counts (withBits m c) k = cn at CN HK
            cases cn
            · go_wp2
              go_quiet (fail)
              obtain ⟨n1, rfl⟩ : ∃ n1, n1 = nq := ⟨_, rfl⟩
              go_wp2
              go_quiet (fail)
              go_wp2
              (try simp only [World.drewN_drewN])
              have hBd' := below_drewN' HBX (n1 + nq)
              have hBd := below_drew' hBd'
              have hO := KO.out _ (KE.out _ hBd)
              apply wp_mid _ (Below (wr.heap.size + 1) (wr.alloc (.cells #[.int .i64 says, .int .i64 sum, .int .i64 of, .int .i64 back, .bool came] 70)))
              refine wp_region_any (by kernel_rfl) ?_
              change wpAny _ _ _ _ _ _ _ (World.drew _)
              (refine wpAny_take (i := 0) (v := ?_) rfl (by kernel_rfl) (by kernel_rfl) (by kernel_rfl) (fun _ _ _ h => h) (Or.inl ⟨by kernel_rfl, ?_⟩) ?_; rotate_left 1; (focus (intro w; go_simp; first | done | with_reducible rfl)); simp only [Act.put, List.getElem_toArray, List.getElem_cons_succ, List.getElem_cons_zero, List.setIfInBounds_toArray, List.set_cons_succ, List.set_cons_zero])
              (refine wpAny_take (i := 1) (v := ?_) rfl (by kernel_rfl) (by kernel_rfl) (by kernel_rfl) (fun _ _ _ h => h) (Or.inl ⟨by kernel_rfl, ?_⟩) ?_; rotate_left 1; (focus (intro w; go_simp; first | done | with_reducible rfl)); simp only [Act.put, List.getElem_toArray, List.getElem_cons_succ, List.getElem_cons_zero, List.setIfInBounds_toArray, List.set_cons_succ, List.set_cons_zero])
              (refine wpAny_take (i := 2) (v := ?_) rfl (by kernel_rfl) (by kernel_rfl) (by kernel_rfl) (fun _ _ _ h => h) (Or.inl ⟨by kernel_rfl, ?_⟩) ?_; rotate_left 1; (focus (intro w; go_simp; first | done | with_reducible rfl)); simp only [Act.put, List.getElem_toArray, List.getElem_cons_succ, List.getElem_cons_zero, List.setIfInBounds_toArray, List.set_cons_succ, List.set_cons_zero])
              (refine wpAny_take (i := 3) (v := ?_) rfl (by kernel_rfl) (by kernel_rfl) (by kernel_rfl) (fun _ _ _ h => h) (Or.inl ⟨by kernel_rfl, ?_⟩) ?_; rotate_left 1; (focus (intro w; go_simp; first | done | with_reducible rfl)); simp only [Act.put, List.getElem_toArray, List.getElem_cons_succ, List.getElem_cons_zero, List.setIfInBounds_toArray, List.set_cons_succ, List.set_cons_zero])
              (refine wpAny_take (i := 4) (v := ?_) rfl (by kernel_rfl) (by kernel_rfl) (by kernel_rfl) (fun _ _ _ h => h) (Or.inl ⟨by kernel_rfl, ?_⟩) ?_; rotate_left 1; (focus (intro w; go_simp; first | done | with_reducible rfl)); simp only [Act.put, List.getElem_toArray, List.getElem_cons_succ, List.getElem_cons_zero, List.setIfInBounds_toArray, List.set_cons_succ, List.set_cons_zero])
              (refine wpAny_take (i := 5) (v := ?_) rfl (by kernel_rfl) (by kernel_rfl) (by kernel_rfl) (fun _ _ _ h => h) (Or.inl ⟨by kernel_rfl, ?_⟩) ?_; rotate_left 1; (focus (intro w; go_simp; first | done | with_reducible rfl)); simp only [Act.put, List.getElem_toArray, List.getElem_cons_succ, List.getElem_cons_zero, List.setIfInBounds_toArray, List.set_cons_succ, List.set_cons_zero])
              (refine wpAny_ready (rs := [6]) (by kernel_rfl) (by simp) ?_; refine AllReady.cons rfl (fun K hK => ?_) AllReady.nil; go_simp)
              go_wp2_with ((go_at_call 113; refine (CN.out _ hO).mono ?_; rintro e w3 ⟨rfl, hb3⟩; have hB3 := hBd.trans (hb3.mono (by simp)); dsimp only))
              (refine wpAny_take (i := 7) (v := ?_) rfl (by kernel_rfl) (by kernel_rfl) (by kernel_rfl) (fun _ _ _ h => h) (Or.inl ⟨by kernel_rfl, ?_⟩) ?_; rotate_left 1; (focus (intro w; go_simp; first | done | with_reducible rfl)); simp only [Act.put, List.getElem_toArray, List.getElem_cons_succ, List.getElem_cons_zero, List.setIfInBounds_toArray, List.set_cons_succ, List.set_cons_zero])
              (refine wpAny_take (i := 8) (v := ?_) rfl (by kernel_rfl) (by kernel_rfl) (by kernel_rfl) (fun _ _ _ h => h) (Or.inl ⟨by kernel_rfl, ?_⟩) ?_; rotate_left 1; (focus (intro w; go_simp; first | done | with_reducible rfl)); simp only [Act.put, List.getElem_toArray, List.getElem_cons_succ, List.getElem_cons_zero, List.setIfInBounds_toArray, List.set_cons_succ, List.set_cons_zero])
              (refine wpAny_take (i := 9) (v := undef) rfl (by kernel_rfl) (by kernel_rfl) (by kernel_rfl) (fun _ _ _ h => h) (Or.inr ⟨by kernel_rfl, rfl⟩) ?_; simp only [Act.put, List.getElem_toArray, List.getElem_cons_succ, List.getElem_cons_zero, List.setIfInBounds_toArray, List.set_cons_succ, List.set_cons_zero])
              (refine wpAny_take (i := 10) (v := undef) rfl (by kernel_rfl) (by kernel_rfl) (by kernel_rfl) (fun _ _ _ h => h) (Or.inr ⟨by kernel_rfl, rfl⟩) ?_; simp only [Act.put, List.getElem_toArray, List.getElem_cons_succ, List.getElem_cons_zero, List.setIfInBounds_toArray, List.set_cons_succ, List.set_cons_zero])
              (refine wpAny_take (i := 11) (v := undef) rfl (by kernel_rfl) (by kernel_rfl) (by kernel_rfl) (fun _ _ _ h => h) (Or.inr ⟨by kernel_rfl, rfl⟩) ?_; simp only [Act.put, List.getElem_toArray, List.getElem_cons_succ, List.getElem_cons_zero, List.setIfInBounds_toArray, List.set_cons_succ, List.set_cons_zero])
              (refine wpAny_take (i := 12) (v := undef) rfl (by kernel_rfl) (by kernel_rfl) (by kernel_rfl) (fun _ _ _ h => h) (Or.inr ⟨by kernel_rfl, rfl⟩) ?_; simp only [Act.put, List.getElem_toArray, List.getElem_cons_succ, List.getElem_cons_zero, List.setIfInBounds_toArray, List.set_cons_succ, List.set_cons_zero])
              (refine wpAny_take (i := 13) (v := undef) rfl (by kernel_rfl) (by kernel_rfl) (by kernel_rfl) (fun _ _ _ h => h) (Or.inr ⟨by kernel_rfl, rfl⟩) ?_; simp only [Act.put, List.getElem_toArray, List.getElem_cons_succ, List.getElem_cons_zero, List.setIfInBounds_toArray, List.set_cons_succ, List.set_cons_zero])
              (refine wpAny_take (i := 14) (v := undef) rfl (by kernel_rfl) (by kernel_rfl) (by kernel_rfl) (fun _ _ _ h => h) (Or.inr ⟨by kernel_rfl, rfl⟩) ?_; simp only [Act.put, List.getElem_toArray, List.getElem_cons_succ, List.getElem_cons_zero, List.setIfInBounds_toArray, List.set_cons_succ, List.set_cons_zero])
              (refine wpAny_take (i := 15) (v := undef) rfl (by kernel_rfl) (by kernel_rfl) (by kernel_rfl) (fun _ _ _ h => h) (Or.inr ⟨by kernel_rfl, rfl⟩) ?_; simp only [Act.put, List.getElem_toArray, List.getElem_cons_succ, List.getElem_cons_zero, List.setIfInBounds_toArray, List.set_cons_succ, List.set_cons_zero])
              (refine wpAny_take (i := 16) (v := undef) rfl (by kernel_rfl) (by kernel_rfl) (by kernel_rfl) (fun _ _ _ h => h) (Or.inr ⟨by kernel_rfl, rfl⟩) ?_; simp only [Act.put, List.getElem_toArray, List.getElem_cons_succ, List.getElem_cons_zero, List.setIfInBounds_toArray, List.set_cons_succ, List.set_cons_zero])
              (refine wpAny_take (i := 17) (v := undef) rfl (by kernel_rfl) (by kernel_rfl) (by kernel_rfl) (fun _ _ _ h => h) (Or.inr ⟨by kernel_rfl, rfl⟩) ?_; simp only [Act.put, List.getElem_toArray, List.getElem_cons_succ, List.getElem_cons_zero, List.setIfInBounds_toArray, List.set_cons_succ, List.set_cons_zero])
              (refine wpAny_take (i := 18) (v := undef) rfl (by kernel_rfl) (by kernel_rfl) (by kernel_rfl) (fun _ _ _ h => h) (Or.inr ⟨by kernel_rfl, rfl⟩) ?_; simp only [Act.put, List.getElem_toArray, List.getElem_cons_succ, List.getElem_cons_zero, List.setIfInBounds_toArray, List.set_cons_succ, List.set_cons_zero])
              (refine wpAny_take (i := 19) (v := undef) rfl (by kernel_rfl) (by kernel_rfl) (by kernel_rfl) (fun _ _ _ h => h) (Or.inr ⟨by kernel_rfl, rfl⟩) ?_; simp only [Act.put, List.getElem_toArray, List.getElem_cons_succ, List.getElem_cons_zero, List.setIfInBounds_toArray, List.set_cons_succ, List.set_cons_zero])
              (refine wpAny_take (i := 20) (v := undef) rfl (by kernel_rfl) (by kernel_rfl) (by kernel_rfl) (fun _ _ _ h => h) (Or.inr ⟨by kernel_rfl, rfl⟩) ?_; simp only [Act.put, List.getElem_toArray, List.getElem_cons_succ, List.getElem_cons_zero, List.setIfInBounds_toArray, List.set_cons_succ, List.set_cons_zero])
              (refine wpAny_take (i := 21) (v := ?_) rfl (by kernel_rfl) (by kernel_rfl) (by kernel_rfl) (fun _ _ _ h => h) (Or.inl ⟨by kernel_rfl, ?_⟩) ?_; rotate_left 1; (focus (intro w; go_simp; first | done | with_reducible rfl)); simp only [Act.put, List.getElem_toArray, List.getElem_cons_succ, List.getElem_cons_zero, List.setIfInBounds_toArray, List.set_cons_succ, List.set_cons_zero])
              refine wpAny_done (by kernel_rfl) ⟨rfl, hB3⟩ _
              intro W hW
              go_wp2
              go_roundw
              case rel => exact ⟨k + 1, by omega, by go_num, Lib.hid (by rw [HS.out, HB.out, HK.out]; simp), box_on hbr (box_old hW)⟩
              case measure => simp [intOf]; omega
            · rcases hFF with hFF | hFF
              all_goals
                rw [hFF] at FN KE KO KN
                clear hFF HF
                have FN := Lib.hid (fun W => FN.out x y W)
                generalize likeB says x y = lb at FN HSO
                cases lb
              all_goals
                go_wp2
                go_quiet (fail)
                obtain ⟨n1, rfl⟩ : ∃ n1, n1 = nq := ⟨_, rfl⟩
                go_wp2
                go_quiet (fail)
                go_wp2
                (try simp only [World.drewN_drewN])
                have hBd' := below_drewN' HBX (n1 + nq)
                have hBd := below_drew' hBd'
              · apply wp_mid _ (Below (wr.heap.size + 1) (wr.alloc (.cells #[.int .i64 says, .int .i64 sum, .int .i64 of, .int .i64 back, .bool came] 70)))
                (focus go_region_held3 (fun W => Below (wr.heap.size + 1) (wr.alloc (.cells #[.int .i64 says, .int .i64 sum, .int .i64 of, .int .i64 back, .bool came] 70)) W ∧ W.cell? ⟨wr.heap.size, 0, none⟩ = some (.int .i64 says) ∧ W.cell? ⟨wr.heap.size, 1, none⟩ = some (.int .i64 sum) ∧ W.cell? ⟨w2.heap.size, says.toNat, none⟩ = some (.func (.func 114) #[] #[]) ∧ W.cell? ⟨w.heap.size, sum.toNat, none⟩ = some (.int .i64 x) ∧ wr.heap.size < W.heap.size ∧ w2.heap.size < W.heap.size ∧ w.heap.size < W.heap.size) (exact KE.out _ (by assumption)) (first | (go_at_call 113; refine (CN.out _ (KO.out _ (by assumption))).mono ?_; rintro e w3 ⟨rfl, hb3⟩; have hB3 := KN.out _ _ (by assumption) hb3; dsimp only) | (go_at_call 114; refine (FN.out _).mono ?_; rintro e w4 ⟨rfl, rfl⟩; dsimp only)))
                exact ⟨rfl, hB3⟩
                intro W hW
                go_wp2
                go_ret
                exact ⟨ret_bool (by rw [keptB, withBits_len]; exact (kept_out _ _ _ hlt (by rw [HK.out, HSO.out]; simp)).symm), (box_old hb5).trans ((box_old hW).mono (by have := hb5.size; simp at this; omega))⟩
              · apply wp_mid _ (Below (wr.heap.size + 1) (wr.alloc (.cells #[.int .i64 says, .int .i64 sum, .int .i64 of, .int .i64 back, .bool came] 70)))
                (focus go_region_held3 (fun W => Below (wr.heap.size + 1) (wr.alloc (.cells #[.int .i64 says, .int .i64 sum, .int .i64 of, .int .i64 back, .bool came] 70)) W ∧ W.cell? ⟨wr.heap.size, 0, none⟩ = some (.int .i64 says) ∧ W.cell? ⟨wr.heap.size, 1, none⟩ = some (.int .i64 sum) ∧ W.cell? ⟨w2.heap.size, says.toNat, none⟩ = some (.func (.func 114) #[] #[]) ∧ W.cell? ⟨w.heap.size, sum.toNat, none⟩ = some (.int .i64 x) ∧ wr.heap.size < W.heap.size ∧ w2.heap.size < W.heap.size ∧ w.heap.size < W.heap.size) (exact KE.out _ (by assumption)) (first | (go_at_call 113; refine (CN.out _ (KO.out _ (by assumption))).mono ?_; rintro e w3 ⟨rfl, hb3⟩; have hB3 := KN.out _ _ (by assumption) hb3; dsimp only) | (go_at_call 114; refine (FN.out _).mono ?_; rintro e w4 ⟨rfl, rfl⟩; dsimp only)))
                exact ⟨rfl, hB3⟩
                intro W hW
                go_wp2
                go_roundw
                case rel => exact ⟨k + 1, by omega, by go_num, Lib.hid (by rw [HS.out, HB.out, HK.out, HSO.out]; simp), box_on hbr (box_old hW)⟩
                case measure => simp [intOf]; omega
              · apply wp_mid _ (Below (wr.heap.size + 1) (wr.alloc (.cells #[.int .i64 says, .int .i64 sum, .int .i64 of, .int .i64 back, .bool came] 70)))
                (focus go_region_held3 (fun W => Below (wr.heap.size + 1) (wr.alloc (.cells #[.int .i64 says, .int .i64 sum, .int .i64 of, .int .i64 back, .bool came] 70)) W ∧ W.cell? ⟨wr.heap.size, 0, none⟩ = some (.int .i64 says) ∧ W.cell? ⟨wr.heap.size, 1, none⟩ = some (.int .i64 sum) ∧ W.cell? ⟨w2.heap.size, says.toNat, none⟩ = some (.func (.func 115) #[] #[]) ∧ W.cell? ⟨w.heap.size, sum.toNat, none⟩ = some (.int .i64 x) ∧ wr.heap.size < W.heap.size ∧ w2.heap.size < W.heap.size ∧ w.heap.size < W.heap.size) (exact KE.out _ (by assumption)) (first | (go_at_call 113; refine (CN.out _ (KO.out _ (by assumption))).mono ?_; rintro e w3 ⟨rfl, hb3⟩; have hB3 := KN.out _ _ (by assumption) hb3; dsimp only) | (go_at_call 115; refine (FN.out _).mono ?_; rintro e w4 ⟨rfl, rfl⟩; dsimp only)))
                exact ⟨rfl, hB3⟩
                intro W hW
                go_wp2
                go_ret
                exact ⟨ret_bool (by rw [keptB, withBits_len]; exact (kept_out _ _ _ hlt (by rw [HK.out, HSO.out]; simp)).symm), (box_old hb5).trans ((box_old hW).mono (by have := hb5.size; simp at this; omega))⟩
              · apply wp_mid _ (Below (wr.heap.size + 1) (wr.alloc (.cells #[.int .i64 says, .int .i64 sum, .int .i64 of, .int .i64 back, .bool came] 70)))
                (focus go_region_held3 (fun W => Below (wr.heap.size + 1) (wr.alloc (.cells #[.int .i64 says, .int .i64 sum, .int .i64 of, .int .i64 back, .bool came] 70)) W ∧ W.cell? ⟨wr.heap.size, 0, none⟩ = some (.int .i64 says) ∧ W.cell? ⟨wr.heap.size, 1, none⟩ = some (.int .i64 sum) ∧ W.cell? ⟨w2.heap.size, says.toNat, none⟩ = some (.func (.func 115) #[] #[]) ∧ W.cell? ⟨w.heap.size, sum.toNat, none⟩ = some (.int .i64 x) ∧ wr.heap.size < W.heap.size ∧ w2.heap.size < W.heap.size ∧ w.heap.size < W.heap.size) (exact KE.out _ (by assumption)) (first | (go_at_call 113; refine (CN.out _ (KO.out _ (by assumption))).mono ?_; rintro e w3 ⟨rfl, hb3⟩; have hB3 := KN.out _ _ (by assumption) hb3; dsimp only) | (go_at_call 115; refine (FN.out _).mono ?_; rintro e w4 ⟨rfl, rfl⟩; dsimp only)))
                exact ⟨rfl, hB3⟩
                intro W hW
                go_wp2
                go_roundw
                case rel => exact ⟨k + 1, by omega, by go_num, Lib.hid (by rw [HS.out, HB.out, HK.out, HSO.out]; simp), box_on hbr (box_old hW)⟩
                case measure => simp [intOf]; omega
          · have hB2 := eqi_f hB
            have HK : Hid (keptAt (withBits m c) T s k = true) := by show _ = _; rw [HK.out, HL.out]; simp [hB]
            clear hB
            go_wp2
            go_quiet (fail)
            obtain ⟨n1, rfl⟩ : ∃ n1, n1 = nq := ⟨_, rfl⟩
            go_wp2
            go_quiet (fail)
            go_wp2
            (try simp only [World.drewN_drewN])
            have hBd' := below_drewN' HBX (n1 + nq)
            have hBd := below_drew' hBd'
            go_quiet (fail)
            go_wp2
            go_roundw
            case rel => exact ⟨k + 1, by omega, by go_num, Lib.hid (by rw [HS.out, HB.out, HK.out]; simp), box_on hbr (box_old (below_drewN' HBX _))⟩
            case measure => simp [intOf]; omega
      · have HL : Hid (lastOf ⟨says, sum, of, back, came⟩ = sum) := Lib.hid (if_neg hs2)
        have hoth : otherOf ⟨says, sum, of, back, came⟩ T = of := if_neg hs2
        have HSO : Hid (soAt ⟨says, sum, of, back, came⟩ T = likeB says x of) := by show _ = _; unfold soAt; rw [hoth, HX.out]
        clear hoth
        by_cases hB : sum = (s : Int)
        · have hB2 := eqi_t hB
          have HK : Hid (keptAt (withBits m c) T s k = !(counts (withBits m c) k && !soAt ⟨says, sum, of, back, came⟩ T)) := by show _ = _; rw [HK.out, HL.out]; simp [hB]
          clear hB
          generalize counts (withBits m c) k = cn at CN HK
          cases cn
          · go_wp2
            go_quiet (fail)
            go_wp2
            have hBd' := below_drewN' HBX nq
            have hBd := below_drew' hBd'
            have hO := KO.out _ (KE.out _ hBd)
            apply wp_mid _ (Below (wr.heap.size + 1) (wr.alloc (.cells #[.int .i64 says, .int .i64 sum, .int .i64 of, .int .i64 back, .bool came] 70)))
            refine wp_region_any (by kernel_rfl) ?_
            change wpAny _ _ _ _ _ _ _ (World.drew _)
            (refine wpAny_take (i := 0) (v := ?_) rfl (by kernel_rfl) (by kernel_rfl) (by kernel_rfl) (fun _ _ _ h => h) (Or.inl ⟨by kernel_rfl, ?_⟩) ?_; rotate_left 1; (focus (intro w; go_simp; first | done | with_reducible rfl)); simp only [Act.put, List.getElem_toArray, List.getElem_cons_succ, List.getElem_cons_zero, List.setIfInBounds_toArray, List.set_cons_succ, List.set_cons_zero])
            (refine wpAny_take (i := 1) (v := ?_) rfl (by kernel_rfl) (by kernel_rfl) (by kernel_rfl) (fun _ _ _ h => h) (Or.inl ⟨by kernel_rfl, ?_⟩) ?_; rotate_left 1; (focus (intro w; go_simp; first | done | with_reducible rfl)); simp only [Act.put, List.getElem_toArray, List.getElem_cons_succ, List.getElem_cons_zero, List.setIfInBounds_toArray, List.set_cons_succ, List.set_cons_zero])
            (refine wpAny_take (i := 2) (v := ?_) rfl (by kernel_rfl) (by kernel_rfl) (by kernel_rfl) (fun _ _ _ h => h) (Or.inl ⟨by kernel_rfl, ?_⟩) ?_; rotate_left 1; (focus (intro w; go_simp; first | done | with_reducible rfl)); simp only [Act.put, List.getElem_toArray, List.getElem_cons_succ, List.getElem_cons_zero, List.setIfInBounds_toArray, List.set_cons_succ, List.set_cons_zero])
            (refine wpAny_take (i := 3) (v := ?_) rfl (by kernel_rfl) (by kernel_rfl) (by kernel_rfl) (fun _ _ _ h => h) (Or.inl ⟨by kernel_rfl, ?_⟩) ?_; rotate_left 1; (focus (intro w; go_simp; first | done | with_reducible rfl)); simp only [Act.put, List.getElem_toArray, List.getElem_cons_succ, List.getElem_cons_zero, List.setIfInBounds_toArray, List.set_cons_succ, List.set_cons_zero])
            (refine wpAny_take (i := 4) (v := ?_) rfl (by kernel_rfl) (by kernel_rfl) (by kernel_rfl) (fun _ _ _ h => h) (Or.inl ⟨by kernel_rfl, ?_⟩) ?_; rotate_left 1; (focus (intro w; go_simp; first | done | with_reducible rfl)); simp only [Act.put, List.getElem_toArray, List.getElem_cons_succ, List.getElem_cons_zero, List.setIfInBounds_toArray, List.set_cons_succ, List.set_cons_zero])
            (refine wpAny_take (i := 5) (v := ?_) rfl (by kernel_rfl) (by kernel_rfl) (by kernel_rfl) (fun _ _ _ h => h) (Or.inl ⟨by kernel_rfl, ?_⟩) ?_; rotate_left 1; (focus (intro w; go_simp; first | done | with_reducible rfl)); simp only [Act.put, List.getElem_toArray, List.getElem_cons_succ, List.getElem_cons_zero, List.setIfInBounds_toArray, List.set_cons_succ, List.set_cons_zero])
            (refine wpAny_ready (rs := [6]) (by kernel_rfl) (by simp) ?_; refine AllReady.cons rfl (fun K hK => ?_) AllReady.nil; go_simp)
            go_wp2_with ((go_at_call 113; refine (CN.out _ hO).mono ?_; rintro e w3 ⟨rfl, hb3⟩; have hB3 := hBd.trans (hb3.mono (by simp)); dsimp only))
            (refine wpAny_take (i := 7) (v := ?_) rfl (by kernel_rfl) (by kernel_rfl) (by kernel_rfl) (fun _ _ _ h => h) (Or.inl ⟨by kernel_rfl, ?_⟩) ?_; rotate_left 1; (focus (intro w; go_simp; first | done | with_reducible rfl)); simp only [Act.put, List.getElem_toArray, List.getElem_cons_succ, List.getElem_cons_zero, List.setIfInBounds_toArray, List.set_cons_succ, List.set_cons_zero])
            (refine wpAny_take (i := 8) (v := ?_) rfl (by kernel_rfl) (by kernel_rfl) (by kernel_rfl) (fun _ _ _ h => h) (Or.inl ⟨by kernel_rfl, ?_⟩) ?_; rotate_left 1; (focus (intro w; go_simp; first | done | with_reducible rfl)); simp only [Act.put, List.getElem_toArray, List.getElem_cons_succ, List.getElem_cons_zero, List.setIfInBounds_toArray, List.set_cons_succ, List.set_cons_zero])
            (refine wpAny_take (i := 9) (v := undef) rfl (by kernel_rfl) (by kernel_rfl) (by kernel_rfl) (fun _ _ _ h => h) (Or.inr ⟨by kernel_rfl, rfl⟩) ?_; simp only [Act.put, List.getElem_toArray, List.getElem_cons_succ, List.getElem_cons_zero, List.setIfInBounds_toArray, List.set_cons_succ, List.set_cons_zero])
            (refine wpAny_take (i := 10) (v := undef) rfl (by kernel_rfl) (by kernel_rfl) (by kernel_rfl) (fun _ _ _ h => h) (Or.inr ⟨by kernel_rfl, rfl⟩) ?_; simp only [Act.put, List.getElem_toArray, List.getElem_cons_succ, List.getElem_cons_zero, List.setIfInBounds_toArray, List.set_cons_succ, List.set_cons_zero])
            (refine wpAny_take (i := 11) (v := undef) rfl (by kernel_rfl) (by kernel_rfl) (by kernel_rfl) (fun _ _ _ h => h) (Or.inr ⟨by kernel_rfl, rfl⟩) ?_; simp only [Act.put, List.getElem_toArray, List.getElem_cons_succ, List.getElem_cons_zero, List.setIfInBounds_toArray, List.set_cons_succ, List.set_cons_zero])
            (refine wpAny_take (i := 12) (v := undef) rfl (by kernel_rfl) (by kernel_rfl) (by kernel_rfl) (fun _ _ _ h => h) (Or.inr ⟨by kernel_rfl, rfl⟩) ?_; simp only [Act.put, List.getElem_toArray, List.getElem_cons_succ, List.getElem_cons_zero, List.setIfInBounds_toArray, List.set_cons_succ, List.set_cons_zero])
            (refine wpAny_take (i := 13) (v := undef) rfl (by kernel_rfl) (by kernel_rfl) (by kernel_rfl) (fun _ _ _ h => h) (Or.inr ⟨by kernel_rfl, rfl⟩) ?_; simp only [Act.put, List.getElem_toArray, List.getElem_cons_succ, List.getElem_cons_zero, List.setIfInBounds_toArray, List.set_cons_succ, List.set_cons_zero])
            (refine wpAny_take (i := 14) (v := undef) rfl (by kernel_rfl) (by kernel_rfl) (by kernel_rfl) (fun _ _ _ h => h) (Or.inr ⟨by kernel_rfl, rfl⟩) ?_; simp only [Act.put, List.getElem_toArray, List.getElem_cons_succ, List.getElem_cons_zero, List.setIfInBounds_toArray, List.set_cons_succ, List.set_cons_zero])
            (refine wpAny_take (i := 15) (v := undef) rfl (by kernel_rfl) (by kernel_rfl) (by kernel_rfl) (fun _ _ _ h => h) (Or.inr ⟨by kernel_rfl, rfl⟩) ?_; simp only [Act.put, List.getElem_toArray, List.getElem_cons_succ, List.getElem_cons_zero, List.setIfInBounds_toArray, List.set_cons_succ, List.set_cons_zero])
            (refine wpAny_take (i := 16) (v := undef) rfl (by kernel_rfl) (by kernel_rfl) (by kernel_rfl) (fun _ _ _ h => h) (Or.inr ⟨by kernel_rfl, rfl⟩) ?_; simp only [Act.put, List.getElem_toArray, List.getElem_cons_succ, List.getElem_cons_zero, List.setIfInBounds_toArray, List.set_cons_succ, List.set_cons_zero])
            (refine wpAny_take (i := 17) (v := undef) rfl (by kernel_rfl) (by kernel_rfl) (by kernel_rfl) (fun _ _ _ h => h) (Or.inr ⟨by kernel_rfl, rfl⟩) ?_; simp only [Act.put, List.getElem_toArray, List.getElem_cons_succ, List.getElem_cons_zero, List.setIfInBounds_toArray, List.set_cons_succ, List.set_cons_zero])
            (refine wpAny_take (i := 18) (v := undef) rfl (by kernel_rfl) (by kernel_rfl) (by kernel_rfl) (fun _ _ _ h => h) (Or.inr ⟨by kernel_rfl, rfl⟩) ?_; simp only [Act.put, List.getElem_toArray, List.getElem_cons_succ, List.getElem_cons_zero, List.setIfInBounds_toArray, List.set_cons_succ, List.set_cons_zero])
            (refine wpAny_take (i := 19) (v := undef) rfl (by kernel_rfl) (by kernel_rfl) (by kernel_rfl) (fun _ _ _ h => h) (Or.inr ⟨by kernel_rfl, rfl⟩) ?_; simp only [Act.put, List.getElem_toArray, List.getElem_cons_succ, List.getElem_cons_zero, List.setIfInBounds_toArray, List.set_cons_succ, List.set_cons_zero])
            (refine wpAny_take (i := 20) (v := undef) rfl (by kernel_rfl) (by kernel_rfl) (by kernel_rfl) (fun _ _ _ h => h) (Or.inr ⟨by kernel_rfl, rfl⟩) ?_; simp only [Act.put, List.getElem_toArray, List.getElem_cons_succ, List.getElem_cons_zero, List.setIfInBounds_toArray, List.set_cons_succ, List.set_cons_zero])
            (refine wpAny_take (i := 21) (v := ?_) rfl (by kernel_rfl) (by kernel_rfl) (by kernel_rfl) (fun _ _ _ h => h) (Or.inl ⟨by kernel_rfl, ?_⟩) ?_; rotate_left 1; (focus (intro w; go_simp; first | done | with_reducible rfl)); simp only [Act.put, List.getElem_toArray, List.getElem_cons_succ, List.getElem_cons_zero, List.setIfInBounds_toArray, List.set_cons_succ, List.set_cons_zero])
            refine wpAny_done (by kernel_rfl) ⟨rfl, hB3⟩ _
            intro W hW
            go_wp2
            go_roundw
            case rel => exact ⟨k + 1, by omega, by go_num, Lib.hid (by rw [HS.out, HB.out, HK.out]; simp), box_on hbr (box_old hW)⟩
            case measure => simp [intOf]; omega
          · rcases hFF with hFF | hFF
            all_goals
              rw [hFF] at FN KE KO KN
              clear hFF HF
              have FN := Lib.hid (fun W => FN.out x of W)
              generalize likeB says x of = lb at FN HSO
              cases lb
            all_goals
              go_wp2
              go_quiet (fail)
              go_wp2
              have hBd' := below_drewN' HBX nq
              have hBd := below_drew' hBd'
            · apply wp_mid _ (Below (wr.heap.size + 1) (wr.alloc (.cells #[.int .i64 says, .int .i64 sum, .int .i64 of, .int .i64 back, .bool came] 70)))
              (focus go_region_held3 (fun W => Below (wr.heap.size + 1) (wr.alloc (.cells #[.int .i64 says, .int .i64 sum, .int .i64 of, .int .i64 back, .bool came] 70)) W ∧ W.cell? ⟨wr.heap.size, 0, none⟩ = some (.int .i64 says) ∧ W.cell? ⟨wr.heap.size, 1, none⟩ = some (.int .i64 sum) ∧ W.cell? ⟨w2.heap.size, says.toNat, none⟩ = some (.func (.func 114) #[] #[]) ∧ W.cell? ⟨w.heap.size, sum.toNat, none⟩ = some (.int .i64 x) ∧ wr.heap.size < W.heap.size ∧ w2.heap.size < W.heap.size ∧ w.heap.size < W.heap.size) (exact KE.out _ (by assumption)) (first | (go_at_call 113; refine (CN.out _ (KO.out _ (by assumption))).mono ?_; rintro e w3 ⟨rfl, hb3⟩; have hB3 := KN.out _ _ (by assumption) hb3; dsimp only) | (go_at_call 114; refine (FN.out _).mono ?_; rintro e w4 ⟨rfl, rfl⟩; dsimp only)))
              exact ⟨rfl, hB3⟩
              intro W hW
              go_wp2
              go_ret
              exact ⟨ret_bool (by rw [keptB, withBits_len]; exact (kept_out _ _ _ hlt (by rw [HK.out, HSO.out]; simp)).symm), (box_old hb5).trans ((box_old hW).mono (by have := hb5.size; simp at this; omega))⟩
            · apply wp_mid _ (Below (wr.heap.size + 1) (wr.alloc (.cells #[.int .i64 says, .int .i64 sum, .int .i64 of, .int .i64 back, .bool came] 70)))
              (focus go_region_held3 (fun W => Below (wr.heap.size + 1) (wr.alloc (.cells #[.int .i64 says, .int .i64 sum, .int .i64 of, .int .i64 back, .bool came] 70)) W ∧ W.cell? ⟨wr.heap.size, 0, none⟩ = some (.int .i64 says) ∧ W.cell? ⟨wr.heap.size, 1, none⟩ = some (.int .i64 sum) ∧ W.cell? ⟨w2.heap.size, says.toNat, none⟩ = some (.func (.func 114) #[] #[]) ∧ W.cell? ⟨w.heap.size, sum.toNat, none⟩ = some (.int .i64 x) ∧ wr.heap.size < W.heap.size ∧ w2.heap.size < W.heap.size ∧ w.heap.size < W.heap.size) (exact KE.out _ (by assumption)) (first | (go_at_call 113; refine (CN.out _ (KO.out _ (by assumption))).mono ?_; rintro e w3 ⟨rfl, hb3⟩; have hB3 := KN.out _ _ (by assumption) hb3; dsimp only) | (go_at_call 114; refine (FN.out _).mono ?_; rintro e w4 ⟨rfl, rfl⟩; dsimp only)))
              exact ⟨rfl, hB3⟩
              intro W hW
              go_wp2
              go_roundw
              case rel => exact ⟨k + 1, by omega, by go_num, Lib.hid (by rw [HS.out, HB.out, HK.out, HSO.out]; simp), box_on hbr (box_old hW)⟩
              case measure => simp [intOf]; omega
            · apply wp_mid _ (Below (wr.heap.size + 1) (wr.alloc (.cells #[.int .i64 says, .int .i64 sum, .int .i64 of, .int .i64 back, .bool came] 70)))
              (focus go_region_held3 (fun W => Below (wr.heap.size + 1) (wr.alloc (.cells #[.int .i64 says, .int .i64 sum, .int .i64 of, .int .i64 back, .bool came] 70)) W ∧ W.cell? ⟨wr.heap.size, 0, none⟩ = some (.int .i64 says) ∧ W.cell? ⟨wr.heap.size, 1, none⟩ = some (.int .i64 sum) ∧ W.cell? ⟨w2.heap.size, says.toNat, none⟩ = some (.func (.func 115) #[] #[]) ∧ W.cell? ⟨w.heap.size, sum.toNat, none⟩ = some (.int .i64 x) ∧ wr.heap.size < W.heap.size ∧ w2.heap.size < W.heap.size ∧ w.heap.size < W.heap.size) (exact KE.out _ (by assumption)) (first | (go_at_call 113; refine (CN.out _ (KO.out _ (by assumption))).mono ?_; rintro e w3 ⟨rfl, hb3⟩; have hB3 := KN.out _ _ (by assumption) hb3; dsimp only) | (go_at_call 115; refine (FN.out _).mono ?_; rintro e w4 ⟨rfl, rfl⟩; dsimp only)))
              exact ⟨rfl, hB3⟩
              intro W hW
              go_wp2
              go_ret
              exact ⟨ret_bool (by rw [keptB, withBits_len]; exact (kept_out _ _ _ hlt (by rw [HK.out, HSO.out]; simp)).symm), (box_old hb5).trans ((box_old hW).mono (by have := hb5.size; simp at this; omega))⟩
            · apply wp_mid _ (Below (wr.heap.size + 1) (wr.alloc (.cells #[.int .i64 says, .int .i64 sum, .int .i64 of, .int .i64 back, .bool came] 70)))
              (focus go_region_held3 (fun W => Below (wr.heap.size + 1) (wr.alloc (.cells #[.int .i64 says, .int .i64 sum, .int .i64 of, .int .i64 back, .bool came] 70)) W ∧ W.cell? ⟨wr.heap.size, 0, none⟩ = some (.int .i64 says) ∧ W.cell? ⟨wr.heap.size, 1, none⟩ = some (.int .i64 sum) ∧ W.cell? ⟨w2.heap.size, says.toNat, none⟩ = some (.func (.func 115) #[] #[]) ∧ W.cell? ⟨w.heap.size, sum.toNat, none⟩ = some (.int .i64 x) ∧ wr.heap.size < W.heap.size ∧ w2.heap.size < W.heap.size ∧ w.heap.size < W.heap.size) (exact KE.out _ (by assumption)) (first | (go_at_call 113; refine (CN.out _ (KO.out _ (by assumption))).mono ?_; rintro e w3 ⟨rfl, hb3⟩; have hB3 := KN.out _ _ (by assumption) hb3; dsimp only) | (go_at_call 115; refine (FN.out _).mono ?_; rintro e w4 ⟨rfl, rfl⟩; dsimp only)))
              exact ⟨rfl, hB3⟩
              intro W hW
              go_wp2
              go_roundw
              case rel => exact ⟨k + 1, by omega, by go_num, Lib.hid (by rw [HS.out, HB.out, HK.out, HSO.out]; simp), box_on hbr (box_old hW)⟩
              case measure => simp [intOf]; omega
        · have hB2 := eqi_f hB
          have HK : Hid (keptAt (withBits m c) T s k = true) := by show _ = _; rw [HK.out, HL.out]; simp [hB]
          clear hB
          go_wp2
          go_quiet (fail)
          go_wp2
          have hBd' := below_drewN' HBX nq
          have hBd := below_drew' hBd'
          go_quiet (fail)
          go_wp2
          go_roundw
          case rel => exact ⟨k + 1, by omega, by go_num, Lib.hid (by rw [HS.out, HB.out, HK.out]; simp), box_on hbr (box_old (below_drewN' HBX _))⟩
          case measure => simp [intOf]; omega
    · obtain rfl : k = m.words.length := by omega
      go_wp2
      go_ret
      exact ⟨ret_bool (by rw [keptB, withBits_len]; exact HB.out.symm), box_old hb5⟩
end Go.Proofs.Ytnlolliankhfmaa
