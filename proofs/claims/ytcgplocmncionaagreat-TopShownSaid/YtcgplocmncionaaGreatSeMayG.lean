/- What is proved here: the contract of may. Conditions: the room is looked at and valid. -/
/- What is proved here: the contract of May. Conditions: the room lies in memory. -/
import Derived.Test.YtcgplocmncionaaGreatSeCutG
import Derived.Sort.CutIn
set_option linter.unusedVariables false
set_option linter.unusedSimpArgs false
namespace Go.Proofs.YtcgplocmncionaaGreat
open Go Go.RowKit Go.Shelf
attribute [local go_sem] Oper.semAt_some

def oneDay (u : Nat) (day : Int) : Nat → Int := fun w => if w = u then day else 10
theorem oneDay_days (u : Nat) {day : Int} (h : 0 ≤ day) (h2 : day ≤ 10) : Days (oneDay u day) := fun w => by
  unfold oneDay; split <;> omega
def mayDays (r : SeRoom) (day : Int) (u set : Nat) : Nat → Int := rounds (leaksOf r (bitsList set r.leaks.length)) (oneDay u day) r.writers.length
def mayTo (r : SeRoom) (x : SeLetter) (u set k : Nat) : Bool := (List.range k).all fun s => !(bitB x.secrets s) || keepsD r s (mayDays r x.day u set)
def mayAt (r : SeRoom) (x : SeLetter) (u set : Nat) : Bool := mayTo r x u set r.kept.length
def mayB (r : SeRoom) (x : SeLetter) (u : Nat) : Bool := (truthsP r 0).all (mayAt r x u)
theorem mayTo_succ (r : SeRoom) (x : SeLetter) (u set k : Nat) : mayTo r x u set (k + 1) = (mayTo r x u set k && (!(bitB x.secrets k) || keepsD r k (mayDays r x.day u set))) := by
  unfold mayTo; rw [List.range_succ, List.all_append]; simp
theorem mayAt_no {r : SeRoom} {x : SeLetter} {u set k : Nat} (hk : k < r.kept.length) (h1 : bitB x.secrets k = true) (h2 : keepsD r k (mayDays r x.day u set) = false) : mayAt r x u set = false := by
  unfold mayAt mayTo
  rw [List.all_eq_false]
  exact ⟨k, List.mem_range.2 hk, by simp [h1, h2]⟩
/-- may's own cells. -/
structure MayC (W : World) (b bm u : Nat) (res : Bool) (x : SeLetter) : Prop where
  r : W.heap[b]? = some (.cells #[.pointer (some ⟨bm, 0, none⟩)] 62 (0, 0))
  u : W.heap[b + 1]? = some (.cells #[.int .i64 (u : Int)] 3 (0, 0))
  f : W.heap[b + 1 + 1]? = some (.cells #[.bool res] 4 (0, 0))
  x : W.heap[b + 1 + 1 + 1]? = some (.cells #[.int .i64 x.day, .int .i64 x.secrets, .int .i64 x.writer] 43 (0, 0))
  c : W.heap[b + 1 + 1 + 1 + 1]? = some (.cells #[.pointer (some ⟨bm, 0, none⟩)] 62 (0, 0))
theorem MayC.same {W W' : World} {b bm u : Nat} {res : Bool} {x : SeLetter} (h : MayC W b bm u res x) (e : ∀ i, b ≤ i → i ≤ b + 4 → W'.heap[i]? = W.heap[i]?) : MayC W' b bm u res x :=
  ⟨(e _ (by omega) (by omega)).trans h.r, (e _ (by omega) (by omega)).trans h.u, (e _ (by omega) (by omega)).trans h.f, (e _ (by omega) (by omega)).trans h.x, (e _ (by omega) (by omega)).trans h.c⟩
theorem MayC.lt {W : World} {b bm u : Nat} {res : Bool} {x : SeLetter} (h : MayC W b bm u res x) : b + 4 < W.heap.size := by
  have := lt_of_block h.c
  omega
theorem MayC.cells {W : World} {b bm u : Nat} {res : Bool} {x : SeLetter} (h : MayC W b bm u res x) :
    W.cell? ⟨b, 0, none⟩ = some (.pointer (some ⟨bm, 0, none⟩)) ∧ W.cell? ⟨b + 1, 0, none⟩ = some (.int .i64 (u : Int)) ∧ W.cell? ⟨b + 1 + 1, 0, none⟩ = some (.bool res) ∧ W.cell? ⟨b + 1 + 1 + 1, 0, none⟩ = some (.int .i64 x.day) ∧ W.cell? ⟨b + 1 + 1 + 1, 1, none⟩ = some (.int .i64 x.secrets) ∧ W.frozen? ⟨b + 1 + 1, 0, none⟩ = false :=
  ⟨blk_cell 0 h.r rfl, blk_cell 0 h.u rfl, blk_cell 0 h.f rfl, blk_cell 0 h.x rfl, blk_cell 1 h.x rfl, blk_free 0 h.f⟩

theorem MayC.setf {W : World} {b bm u : Nat} {res : Bool} {x : SeLetter} (h : MayC W b bm u res x) (v : Bool) : MayC (W.setCell ⟨b + 1 + 1, 0, none⟩ (.bool v)) b bm u v x :=
  ⟨(Below.heap_setCell _ _ _ _ (fun e => by simp only at e; omega)).trans h.r, (Below.heap_setCell _ _ _ _ (fun e => by simp only at e; omega)).trans h.u, blk_set 0 _ h.f, (Below.heap_setCell _ _ _ _ (fun e => by simp only at e; omega)).trans h.x, (Below.heap_setCell _ _ _ _ (fun e => by simp only at e; omega)).trans h.c⟩
theorem MayC.below {W W' : World} {b bm u B : Nat} {res : Bool} {x : SeLetter} (h : MayC W b bm u res x) (hb : Below B W W') (hB : b + 4 < B) : MayC W' b bm u res x := h.same (fun i h1 h2 => hb.block i (by omega))
set_option maxRecDepth 100000 in
set_option maxHeartbeats 2000000 in
theorem SMay_any (a1 a2 a3 a4 a5 : Option Addr) (k1 k2 k3 k4 k5 : Nat) (r : SeRoom) (bm bo n u : Nat) (w : World) (hm : RoomW w bm bo a1 a2 a3 a4 a5 k1 k2 k3 k4 k5 r 0) (hv : SeValid r) (hn : n < r.letters.length) (hu : u < r.writers.length) :
    Calls Tryz.prog 47 #[.pointer (some ⟨bm, 0, none⟩), .int .i64 (n : Int), .int .i64 (u : Int)] w fun e w' => e = .returned (.bool (mayB r r.letters[n] u)) ∧ w.grownBy w' (some bo) ∧ RoomW w' bm bo a1 a2 a3 a4 a5 k1 k2 k3 k4 k5 r 0 := by
  have TR := Lib.hid (fun W : World => STruths_any bm W)
  have hlo := hm.bo_lt
  have hbl := hm.bm_lt
  have hSE := STruths_seq a1 a2 a3 a4 a5 k1 k2 k3 k4 k5 r bm bo (w.heap.size + 1 + 1 + 1 + 1) 0 hv (by omega)
  have l4 := hm.room.ok4.len
  have l4c := hm.room.ok4.1
  have l2 := hm.room.ok2.len
  have vt := hv.nt
  have vk := hv.nk
  have vw := hv.nw
  have hvn := hv.letters n hn
  obtain ⟨b4, o4, ha4, hb4, h1, h2, h3⟩ := hm.room.letters n hn
  obtain ⟨y0, y1, y2, y3, y4, y5, y6, y7, y8⟩ := hm.blk.cells
  subst ha4
  generalize r.letters[n] = x at h1 h2 h3 hvn ⊢
  obtain ⟨day, sec, wri⟩ := x
  simp only at h1 h2 h3 hvn
  have hd01 : 0 ≤ day ∧ day ≤ 9 := by omega
  have hp8 : (2 : Int) ^ r.kept.length ≤ 8 := by
    have : r.kept.length = 0 ∨ r.kept.length = 1 ∨ r.kept.length = 2 ∨ r.kept.length = 3 := by omega
    rcases this with e | e | e | e <;> rw [e] <;> decide
  obtain ⟨sb, rfl⟩ : ∃ sb : Nat, sec = sb := ⟨sec.toNat, by omega⟩
  have hsb64 : sb < 64 := by omega
  clear hp8 hvn
  have HMS := Lib.hid (fun set k => mayTo_succ r ⟨day, (sb : Int), wri⟩ u set k)
  have HMN := Lib.hid (fun set k hk h1 h2 => mayAt_no (r := r) (x := ⟨day, (sb : Int), wri⟩) (u := u) (set := set) (k := k) hk h1 h2)
  have HMB : Hid (mayB r ⟨day, (sb : Int), wri⟩ u = (truthsP r 0).all (mayAt r ⟨day, (sb : Int), wri⟩ u)) := rfl
  generalize mayB r ⟨day, (sb : Int), wri⟩ u = res at HMB ⊢
  have hn4 : (n : Int) < r.letters.length := by omega
  have hn5 : (n : Int) < k4 := by omega
  obtain ⟨Y, hY⟩ : ∃ Y : World, Y = ((w.alloc (.cells #[.pointer (some ⟨bm, 0, none⟩)] 62)).alloc (.cells #[.int .i64 (u : Int)] 3)).alloc (.cells #[.bool false] 4) := ⟨_, rfl⟩
  have hsY : Y.heap.size = w.heap.size + 1 + 1 + 1 := by rw [hY]; simp
  have hbY : Below w.heap.size w Y := by rw [hY]; exact (by (repeat' (first | assumption | exact Below.refl _ _ | refine below_drew' ?_ | refine Below.setCell ?_ (by first | omega | (simp <;> omega)) _ | refine Below.alloc ?_ (by first | omega | (simp <;> omega)) _)))
  have hYr : Y.heap[w.heap.size]? = some (.cells #[.pointer (some ⟨bm, 0, none⟩)] 62 (0, 0)) := by rw [hY]; exact (heap_alloc_old _ _ (by first | omega | (simp <;> omega))).trans ((heap_alloc_old _ _ (by first | omega | (simp <;> omega))).trans (alloc_at _ _ rfl))
  have hYu : Y.heap[w.heap.size + 1]? = some (.cells #[.int .i64 (u : Int)] 3 (0, 0)) := by rw [hY]; exact (heap_alloc_old _ _ (by first | omega | (simp <;> omega))).trans (alloc_at _ _ (by simp))
  have hYf : Y.heap[w.heap.size + 1 + 1]? = some (.cells #[.bool false] 4 (0, 0)) := by rw [hY]; exact alloc_at _ _ (by simp)
  have hRY := hm.below hbY
  replace h1 := cell_below hbY h1
  replace h2 := cell_below hbY h2
  replace h3 := cell_below hbY h3
  have hb4 := lt_of_cell h1
  obtain ⟨y0, y1, y2, y3, y4, y5, y6, y7, y8⟩ := hRY.blk.cells
  have q0 := blk_cell 0 hYr rfl
  simp only [List.getElem_toArray, List.getElem_cons_zero] at q0
  have qz := lt_of_block hYr
  have hb0 : Below w.heap.size w ((Y.alloc (.cells #[.int .i64 day, .int .i64 (sb : Int), .int .i64 wri] 43)).alloc (.cells #[.pointer (some ⟨bm, 0, none⟩)] 62)) := (hbY.alloc (by omega) _).alloc (by simp; omega) _
  have hC0 : MayC ((Y.alloc (.cells #[.int .i64 day, .int .i64 (sb : Int), .int .i64 wri] 43)).alloc (.cells #[.pointer (some ⟨bm, 0, none⟩)] 62)) w.heap.size bm u false ⟨day, sb, wri⟩ := by
    refine ⟨?_, ?_, ?_, ?_, ?_⟩
    · exact (heap_alloc_old _ _ (by first | omega | (simp <;> omega))).trans ((heap_alloc_old _ _ (by first | omega | (simp <;> omega))).trans hYr)
    · exact (heap_alloc_old _ _ (by first | omega | (simp <;> omega))).trans ((heap_alloc_old _ _ (by first | omega | (simp <;> omega))).trans hYu)
    · exact (heap_alloc_old _ _ (by first | omega | (simp <;> omega))).trans ((heap_alloc_old _ _ (by first | omega | (simp <;> omega))).trans hYf)
    · exact (heap_alloc_old _ _ (by first | omega | (simp <;> omega))).trans (alloc_at _ _ (by omega))
    · exact alloc_at _ _ (by simp; omega)
  refine (callsIn_wide (n := 0)).1 ?_
  refine callsIn_of_wp_marks Tryz.func47 rfl trivial ?_ rfl
  simp only [Tryz.ntmps47, List.size_toArray, List.length_cons, List.length_nil, Nat.reduceAdd, Nat.reduceSub, Array.replicate_succ, Array.replicate_zero, List.push_toArray, List.append_toArray, List.nil_append, List.cons_append]
  refine (wpIn_wide (n := 0)).2 ?_
  go_upto_region 1 with (fail)
  rw [← hY]
  clear hY
  replace hsY := Lib.hid hsY
  go_wp2_with (go_at_call 55; go_must ((with_reducible refine (TR.out _).mono ?_); rintro e w3 ⟨rfl, rfl⟩; dsimp only))
  rw [hsY.out]
  obtain ⟨X, hX⟩ : ∃ X : World, X = (Y.alloc (.cells #[.int .i64 day, .int .i64 (sb : Int), .int .i64 wri] 43)).alloc (.cells #[.pointer (some ⟨bm, 0, none⟩)] 62) := ⟨_, rfl⟩
  have hsz : X.heap.size = w.heap.size + 1 + 1 + 1 + 1 + 1 := by rw [hX]; simp [hsY.out]
  rw [← hX] at hb0 hC0 ⊢
  clear hX y0 y1 y2 y3 y4 y5 y6 y7 y8 q0 qz hYr hYu hYf hRY hbY h1 h2 h3 hb4
  obtain ⟨x, hx⟩ : ∃ x : SeLetter, x = ⟨day, sb, wri⟩ := ⟨_, rfl⟩
  have hxd : x.day = day := by rw [hx]
  have hxs : x.secrets = (sb : Int) := by rw [hx]
  rw [← hx] at HMB HMS HMN hC0
  replace hxd := Lib.hid hxd
  replace hxs := Lib.hid hxs
  clear hx
  refine (wpIn_wide (n := 0)).1 ?_
  refine wpIn_rangeFunc_M (gf := 97) (lb := #[.pointer (some ⟨w.heap.size + 1 + 1 + 1 + 1, 0, none⟩)]) rfl (enters_of Tryz.func97 (by kernel_rfl) rfl) hSE (fun _ => rfl)
    (fun A A' h => Above.of_grown h.1 (fun q e => by have := Option.some.inj e; omega))
    (fun pre W => pre.all (mayAt r x u) = true ∧ RoomG w W bo r ∧ MayC W w.heap.size bm u false x)
    (fun c pre W => c = .ret ∧ (truthsP r 0).all (mayAt r x u) = false ∧ RoomG w W bo r ∧ MayC W w.heap.size bm u false x)
    (fun s A A' h hb => ⟨h.1, h.2.1.below hb (by omega) (by omega), h.2.2.same (fun i h1 h2 => hb.block i (by omega))⟩)
    (fun c s A A' h hb => ⟨h.1, h.2.1, h.2.2.1.below hb (by omega) (by omega), h.2.2.2.same (fun i h1 h2 => hb.block i (by omega))⟩)
    (fun s A A' h hR => ⟨h.1, h.2.1.step hR.1 hR.2, h.2.2.same (fun i h1 h2 => hR.1.block i (by have := h.2.2.lt; omega) (fun e => by have := Option.some.inj e; omega))⟩)
    (fun c s A A' h hR => ⟨h.1, h.2.1, h.2.2.1.step hR.1 hR.2, h.2.2.2.same (fun i h1 h2 => hR.1.block i (by have := h.2.2.2.lt; omega) (fun e => by have := Option.some.inj e; omega))⟩)
    (fun s A h => ⟨h.2.1.room hm, h.2.2.c⟩) (fun c s A h => ⟨h.2.2.1.room hm, h.2.2.2.c⟩)
    ⟨rfl, hm.start.below hb0 (Nat.le_refl _) hlo, hC0⟩ ?round ?done ?stop
  case round =>
    intro l pre set W hl1 hl2 hI hpre
    have hset16 : set < 16 := by
      have := truthsP_lt (r := r) (but := 0) (s := set) (hpre.subset (by simp))
      have := two_pow_le4 r.leaks.length hv.nl
      omega
    have HNOT : Hid (mayAt r x u set = false → (truthsP r 0).all (mayAt r x u) = false) := Lib.hid (fun h => by
      rw [List.all_eq_false]
      exact ⟨set, hpre.subset (by simp), by simp [h]⟩)
    gi_wp2
    refine ⟨Above.refl _ _, hI, ?_⟩
    intro Wb hs2 hblk hIb
    clear hI
    obtain ⟨hall, hG, hC⟩ := hIb
    have HALL := Lib.hid hall
    clear hall
    have hX1 := hC.lt
    gi_wp2
    refine ⟨trivial, rfl, ((CallsIn.inRound l (callsIn_wide.2 (SNobody_any Wb))).mono ?_)⟩
    rintro e w2 ⟨rfl, hb2⟩
    gi_upto_region 5 with (fail)
    obtain ⟨V1, hV1⟩ : ∃ V1 : World, V1 = w2.alloc (.cells #[.int .i64 (noDay 0), .int .i64 (noDay 1), .int .i64 (noDay 2), .int .i64 (noDay 3)] 67) := ⟨_, rfl⟩
    rw [← hV1]
    have hB1 : Below Wb.heap.size Wb V1 := by rw [hV1]; exact hb2.alloc hb2.size _
    have hD1 : BlkI V1 w2.heap.size 67 (dl noDay) := by rw [hV1]; exact alloc_at _ _ rfl
    clear hV1
    have hz2 := hb2.size
    have hC1 := hC.below hB1 (by omega)
    obtain ⟨c0, c1, c2, c3, c4, f2⟩ := hC1.cells
    have cz := hC1.lt
    rw [hxd.out] at c3
    have hu4 : u < 4 := by omega
    have hu4i : (u : Int) < 4 := by omega
    have du := dl_cell hD1 u hu4
    have dz := hD1.lt
    have df := hD1.free u
    gi_upto_region 6 with (fail)
    obtain ⟨V2, hV2⟩ : ∃ V2 : World, V2 = V1.setCell ⟨w2.heap.size, u, none⟩ (.int .i64 day) := ⟨_, rfl⟩
    rw [← hV2]
    have hB2 : Below Wb.heap.size Wb V2 := by rw [hV2]; exact hB1.setCell hz2 _
    have hD2 : BlkI V2 w2.heap.size 67 (dl (oneDay u day)) := by
      rw [hV2]
      have := hD1.set u day
      rw [dl_set _ _ _ hu4] at this
      exact this
    clear hV2 c0 c1 c2 c3 c4 f2 cz du dz df hC1 hB1 hD1
    have hC2 := hC.below hB2 (by omega)
    obtain ⟨c0, c1, c2, c3, c4, f2⟩ := hC2.cells
    have cz := hC2.lt
    obtain ⟨e0, e1, e2, e3, ze⟩ := dl_four hD2
    have f0 := hD2.free 0
    have f1 := hD2.free 1
    have f2' := hD2.free 2
    have f3 := hD2.free 3
    have hR2 := (hG.below hB2 hG.1.size (by have := hG.1.size; omega)).room hm
    have SP := SSpread_any a1 a2 a3 _ a5 k1 k2 k3 k4 k5 r bm bo 0 set (oneDay u day) V2 hR2 hv hset16 (oneDay_days u hd01.1 (by omega))
    change Calls _ _ _ _ (fun e w' => e = .returned (arr4 (mayDays r day u set)) ∧ _) at SP
    generalize hMD : mayDays r day u set = md at SP
    have HMD := Lib.hid hMD
    clear hMD
    gi_wp2
    refine ⟨trivial, rfl, ((CallsIn.inRound l (callsIn_wide.2 SP)).mono ?_)⟩
    rintro e w4 ⟨rfl, hb4⟩
    clear SP
    have hL4 : BlkI w4 w2.heap.size 67 (dl (oneDay u day)) := hD2.same (hb4.block _ hD2.lt)
    obtain ⟨e0, e1, e2, e3, ze⟩ := dl_four hL4
    have f0 := hL4.free 0
    have f1 := hL4.free 1
    have f2' := hL4.free 2
    have f3 := hL4.free 3
    gi_upto_region 7 with (fail)
    obtain ⟨V3, hV3⟩ : ∃ V3 : World, V3 = ((((w4.setCell ⟨w2.heap.size, 0, none⟩ (.int .i64 (md 0))).setCell ⟨w2.heap.size, 1, none⟩ (.int .i64 (md 1))).setCell ⟨w2.heap.size, 2, none⟩ (.int .i64 (md 2))).setCell ⟨w2.heap.size, 3, none⟩ (.int .i64 (md 3))) := ⟨_, rfl⟩
    rw [← hV3]
    have hB3 : Below Wb.heap.size Wb V3 := by rw [hV3]; exact ((((hB2.trans (hb4.mono hB2.size)).setCell hz2 _).setCell hz2 _).setCell hz2 _).setCell hz2 _
    have hD3 : BlkI V3 w2.heap.size 67 (dl md) := by
      rw [hV3]
      exact (((hL4.set 0 (md 0)).set 1 (md 1)).set 2 (md 2)).set 3 (md 3)
    clear hV3 c0 c1 c2 c3 c4 f2 cz e0 e1 e2 e3 ze f0 f1 f2' f3 hR2 hC2 hD2 hL4 hb4 hB2
    have hR3 := (hG.below hB3 hG.1.size (by have := hG.1.size; omega)).room hm
    have hC3 := hC.below hB3 (by omega)
    obtain ⟨y0, y1, y2, y3, y4, y5, y6, y7, y8⟩ := hR3.blk.cells
    obtain ⟨c0, c1, c2, c3, c4, f2⟩ := hC3.cells
    have cz := hC3.lt
    gi_wp2
    gi_loopw [37] (fun i vr => ∃ k : Nat, k ≤ r.kept.length ∧ i = .int .i64 k ∧ Below V3.heap.size V3 vr ∧ Hid (mayTo r x u set k = true)) (fun i _ => r.kept.length - (intOf i).toNat)
    case atStart => exact ⟨0, Nat.zero_le _, rfl, Below.refl _ _, Lib.hid rfl⟩
    case round =>
      clear y0 y1 y2 y3 y4 y5 y6 y7 y8 c0 c1 c2 c3 c4 f2 cz
      obtain ⟨k, hk, rfl, hbr, HK⟩ := hrel
      have hB4 := hB3.trans (hbr.mono hB3.size)
      have hC4 := hC.below hB4 (by omega)
      have hG4 := hG.below hB4 hG.1.size (by have := hG.1.size; omega)
      have hR4 := hG4.room hm
      have hD4 : BlkI wr w2.heap.size 67 (dl md) := hD3.same (hbr.block _ hD3.lt)
      obtain ⟨c0, c1, c2, c3, c4, f2⟩ := hC4.cells
      have cz := hC4.lt
      rw [hxs.out] at c4
      by_cases hlt : k < r.kept.length
      · obtain ⟨e0, e1, e2, e3, ze⟩ := dl_four hD4
        have hb := bit_and sb hsb64 k (by omega)
        have HB : Hid (bitB (sb : Int) k = sb.testBit k) := Lib.hid (by unfold bitB; simp)
        have HS := Lib.hid (HMS.out set k)
        have HN := Lib.hid (fun h1 h2 => HMN.out set k hlt h1 h2)
        have SK := SKeeps_any a1 a2 a3 _ a5 k1 k2 k3 k4 k5 r bm bo 0 k md wr hR4 hv hlt
        rw [HMD.out] at HS HN
        generalize keepsD r k md = kd at SK HS HN
        have SK := Lib.hid SK
        have hk64 : (k : Int) < 64 := by omega
        have hs64 : (sb : Int) < 64 := by omega
        cases hbt : sb.testBit k
        · rw [hbt] at hb HB
          replace HS := Lib.hid (show mayTo r x u set (k + 1) = true by rw [HS.out, HK.out, HB.out]; rfl)
          clear hbt SK
          gi_wp2
          refine ⟨trivial, ?_⟩
          gi_wp2
          go_roundw
          case rel => exact ⟨k + 1, by omega, by go_num, hbr, HS⟩
          case measure => simp [intOf]; omega
        · rw [hbt] at hb HB
          clear hbt
          gi_wp2
          refine ⟨trivial, rfl, ((CallsIn.inRound l (callsIn_wide.2 SK.out)).mono ?_)⟩
          rintro e w5 ⟨rfl, hb5⟩
          have hB5 := hB4.trans (hb5.mono hB4.size)
          have hC5 := hC.below hB5 (by omega)
          have hG5 := hG.below hB5 hG.1.size (by have := hG.1.size; omega)
          obtain ⟨c0, c1, c2, c3, c4, f2⟩ := hC5.cells
          have cz := hC5.lt
          cases kd
          · have hno := HNOT.out (HN.out HB.out rfl)
            have hG6 := Lib.hid (hG5.set (w.heap.size + 1 + 1) 0 (.bool false) (by omega) (by omega))
            have hC6 := Lib.hid (hC5.setf false)
            have HNO := Lib.hid hno
            clear hno
            gi_wp2
            exact ⟨(Above.of_below hB5).trans (above_set _ _ _ _ _ (by omega)), rfl, HNO.out, hG6.out, hC6.out⟩
          · replace HS := Lib.hid (show mayTo r x u set (k + 1) = true by rw [HS.out, HK.out, HB.out]; rfl)
            gi_wp2
            go_roundw
            case rel => exact ⟨k + 1, by omega, by go_num, hbr.trans (hb5.mono hbr.size), HS⟩
            case measure => simp [intOf]; omega
      · obtain rfl : k = r.kept.length := by omega
        gi_wp2
        refine ⟨Above.of_below hB4, ?_, hG4, hC4⟩
        rw [List.all_append, HALL.out]
        simp only [List.all_cons, List.all_nil, Bool.and_true, Bool.true_and]
        exact HK.out
  case done =>
    intro D W hD hI hK
    obtain ⟨hall, hG, hC⟩ := hI
    obtain ⟨c0, c1, c2, c3, c4, f2⟩ := hC.cells
    have z := hC.lt
    have HR : Hid (res = true) := Lib.hid (HMB.out.trans hall)
    clear hall
    have hKs : (W.setCell ⟨w.heap.size + 1 + 1, 0, none⟩ (.bool true)).heap[D]? = some (.deferred (some [])) := (Below.heap_setCell _ _ _ _ (fun e => by simp only at e; omega)).trans hK
    have hRs := blk_set 0 (.bool true) hC.f
    have hGs := (hG.set (w.heap.size + 1 + 1) 0 (.bool true) (by omega) (by omega)).put D (.deferred none) (by omega) (by omega)
    go_wp2
    refine ⟨by simp, .inl ⟨_, _, rfl, run_takeDeferred hKs, ?_⟩⟩
    have c1 : ((W.setCell ⟨w.heap.size + 1 + 1, 0, none⟩ (.bool true)).putObj D (.deferred none)).cell? ⟨w.heap.size + 1 + 1, 0, none⟩ = some (.bool true) := blk_cell 0 ((World.putObj_heap_other (by omega)).trans hRs) rfl
    refine ⟨.bool true, ?_, ret_bool HR.out.symm, hGs.1, hGs.room hm⟩
    rw [results_one rfl]
    go_simp
  case stop =>
    intro D c pre W hD hI hK
    obtain ⟨rfl, hno, hG, hC⟩ := hI
    have HR : Hid (res = false) := Lib.hid (HMB.out.trans hno)
    clear hno
    have z := hC.lt
    have hGs := hG.put D (.deferred none) (by omega) (by omega)
    gi_wp2
    refine ⟨by simp, .inl ⟨_, _, rfl, run_takeDeferred hK, ?_⟩⟩
    have c1 : (W.putObj D (.deferred none)).cell? ⟨w.heap.size + 1 + 1, 0, none⟩ = some (.bool false) := blk_cell 0 ((World.putObj_heap_other (by omega)).trans hC.f) rfl
    refine ⟨.bool false, ?_, ret_bool HR.out.symm, hGs.1, hGs.room hm⟩
    rw [results_one rfl]
    go_simp
end Go.Proofs.YtcgplocmncionaaGreat
namespace Go.Proofs.YtcgplocmncionaaGreat
open Go Go.RowKit Go.Shelf

theorem start_one (x : SeLetter) (s u : Nat) (h : bitB x.secrets s = true) (hd : x.day ≤ 10) : startDay [{ x with writer := (u : Int) }] s = oneDay u x.day := by
  funext v
  unfold startDay oneDay
  simp only [List.foldl_cons, List.foldl_nil, h, and_true]
  by_cases e : v = u
  · subst e; rw [if_pos rfl, if_pos rfl]; omega
  · rw [if_neg (by omega), if_neg e]
theorem may_can (r : SeRoom) (x : SeLetter) (u : Nat) (hd : x.day ≤ 10) : canB r (seTruths r []) x (u : Int) = mayB r x u := by
  rw [Bool.eq_iff_iff]
  unfold canB mayB keepsB
  rw [List.all_eq_true, List.all_eq_true]
  have e : ∀ s set, bitB x.secrets s = true → keepsIn r [{ x with writer := (u : Int) }] s (bitsList set r.leaks.length) = keepsD r s (mayDays r x.day u set) := fun s set h => by
    rw [keepsIn_D]
    unfold fromD mayDays
    rw [start_one x s u h hd]
  constructor
  · intro h set hset
    unfold mayAt mayTo
    rw [List.all_eq_true]
    intro s hs
    have h1 := h s hs
    cases hb : bitB x.secrets s
    · rfl
    · rw [hb, truths_all] at h1
      have h2 := List.all_eq_true.1 (by simpa using h1) set hset
      rw [e s set hb] at h2
      simpa using h2
  · intro h s hs
    cases hb : bitB x.secrets s
    · rfl
    · rw [truths_all]
      show (List.all _ _) = true
      rw [List.all_eq_true]
      intro set hset
      have h1 := h set hset
      unfold mayAt mayTo at h1
      rw [List.all_eq_true] at h1
      have h2 := h1 s hs
      rw [hb] at h2
      rw [e s set hb]
      simpa using h2
theorem may_no {r : SeRoom} {n : Int} (h : mayErr r n ≠ 0) : mayOf r n = ([], mayErr r n) := by unfold mayOf; rw [if_neg h]
theorem may_yes {r : SeRoom} {n : Nat} (h : mayErr r n = 0) (hv : SeValid r) (hn : n < r.letters.length) : mayOf r n = (((List.range r.writers.length).filter fun u => mayB r r.letters[n] u).map fun (u : Nat) => (u : Int), 0) := by
  unfold mayOf mayList
  rw [if_pos h]
  have hx := hv.letters n hn
  have e : letterAt r (n : Int).toNat = r.letters[n] := by unfold letterAt; rw [Int.toNat_natCast, List.getElem?_eq_getElem hn]; rfl
  rw [e]
  congr 2
  apply List.filter_congr
  intro u _
  exact may_can r _ u (by omega)

theorem own_map {W V : World} {bo base : Nat} {e : TypeId} {size n : Nat} {v : Value} {xs : List Value} (h : W.ownsRow base e size v n xs) (hg : W.grownBy V (some bo)) (hb : bo < base) : V.ownsRow base e size v n xs :=
  h.kept hg (by
    cases hv : v.ownBlock with
    | none => exact .inl rfl
    | some k => exact .inr (fun e => by have := (h.lt k hv).1; have := Option.some.inj e; omega))
set_option maxRecDepth 100000 in
set_option maxHeartbeats 2000000 in
theorem SMayF_any (a1 a2 a3 a4 a5 : Option Addr) (k1 k2 k3 k4 k5 : Nat) (r : SeRoom) (n : Int) (w : World) (hm : RoomC w a1 a2 a3 a4 a5 k1 k2 k3 k4 k5 r) :
    Calls Tryz.prog 14 #[(.agg #[.slice a1 r.writers.length k1, .slice a2 r.kept.length k2, .slice a3 r.leaks.length k3, .slice a4 r.letters.length k4, .slice a5 r.heard.length k5]), .int .i64 n] w fun e w' => ∃ v, e = .returned (.tuple #[v, .int .i64 (mayOf r n).2]) ∧ IntsV w' v (mayOf r n).1 ∧ Below w.heap.size w w' := by
  have l1 := hm.ok1.len
  have l4 := hm.ok4.len
  have hQ2 := Below.refl (w.heap.size + 1) (w.alloc (.cells #[.slice a1 r.writers.length k1, .slice a2 r.kept.length k2, .slice a3 r.leaks.length k3, .slice a4 r.letters.length k4, .slice a5 r.heard.length k5] 28))
  have EN2 := SEnter2_any a1 a2 a3 a4 a5 k1 k2 k3 k4 k5 r n r.letters.length (w.alloc (.cells #[.slice a1 r.writers.length k1, .slice a2 r.kept.length k2, .slice a3 r.leaks.length k3, .slice a4 r.letters.length k4, .slice a5 r.heard.length k5] 28)) (hm.mono (box_old hQ2)) l4
  rw [show (w.alloc (.cells #[.slice a1 r.writers.length k1, .slice a2 r.kept.length k2, .slice a3 r.leaks.length k3, .slice a4 r.letters.length k4, .slice a5 r.heard.length k5] 28)).heap.size = w.heap.size + 1 by simp] at EN2
  change Calls _ _ _ _ (fun e w' => ∃ v, e = .returned (.tuple #[v, .int .i64 (mayErr r n)]) ∧ EnterV _ w' v (mayErr r n) a1 a2 a3 a4 a5 k1 k2 k3 k4 k5 r ∧ Below _ _ w') at EN2
  have HV := Lib.hid (fun h : mayErr r n = 0 => index_valid h)
  have HTN := Lib.hid (fun h => may_no (r := r) (n := n) h)
  have x0 := box_cell hQ2 0 _ rfl
  have x1 := box_cell hQ2 1 _ rfl
  have x2 := box_cell hQ2 2 _ rfl
  have x3 := box_cell hQ2 3 _ rfl
  have x4 := box_cell hQ2 4 _ rfl
  have xz := box_size hQ2
  by_cases her : mayErr r n = 0
  · obtain ⟨hv, hs0, hs1⟩ := HV.out her
    obtain ⟨m, rfl⟩ : ∃ m : Nat, n = m := ⟨n.toNat, by omega⟩
    have hml : m < r.letters.length := by omega
    have HTY := Lib.hid (may_yes her hv hml)
    generalize mayErr r m = er at her EN2
    generalize mayOf r m = res at HTY ⊢
    have HER := Lib.hid her
    have g1 := nei_f her
    have EN2 := Lib.hid EN2
    have vw := hv.nw
    clear her HV HTN
    go_enter Tryz.func14, Tryz.ntmps14
    go_upto_region 4 with (go_at_call 23; go_must (refine EN2.out.mono ?_; rintro e w3 ⟨v3, rfl, h3, hb3⟩; obtain ⟨bm, bo, rfl, hR, hbo⟩ := h3.1 HER.out; dsimp only))
    have hQ3 : Below (w.heap.size + 1) (w.alloc (.cells #[.slice a1 r.writers.length k1, .slice a2 r.kept.length k2, .slice a3 r.leaks.length k3, .slice a4 r.letters.length k4, .slice a5 r.heard.length k5] 28)) w3 := hb3.mono (by simp)
    have hKN : KeepN w w3 bm bo a1 a2 a3 a4 a5 k1 k2 k3 k4 k5 r := ⟨hR, box_old hQ3⟩
    have hbml := hR.bm_lt
    have hbol := hR.bo_lt
    have hw3 := hKN.2.size
    have hbw : w.heap.size ≤ bo := by simp at hbo; omega
    clear x0 x1 x2 x3 x4 xz
    have x0 := box_cell hQ3 0 _ rfl
    have x1 := box_cell hQ3 1 _ rfl
    have x2 := box_cell hQ3 2 _ rfl
    have x3 := box_cell hQ3 3 _ rfl
    have x4 := box_cell hQ3 4 _ rfl
    have xz := box_size hQ3
    obtain ⟨p, hp⟩ : ∃ p : Nat → Bool, p = fun u => mayB r r.letters[m] u := ⟨_, rfl⟩
    rw [← hp] at HTY
    have HP := Lib.hid hp
    clear hp
    obtain ⟨wo, hwo⟩ : ∃ wo : World, wo = w3 := ⟨_, rfl⟩
    subst hwo
    go_wp2
    go_loopw [4, 24] (fun o i wr => ∃ c : Nat, c ≤ r.writers.length ∧ i = .int .i64 c ∧ wr.ownsRow wo.heap.size 3 1 o (((List.range c).filter p).map (fun (c : Nat) => (c : Int))).length ((((List.range c).filter p).map (fun (c : Nat) => (c : Int))).map (Value.int .i64)) ∧ KeepN w wr bm bo a1 a2 a3 a4 a5 k1 k2 k3 k4 k5 r ∧ wo.heap.size ≤ wr.heap.size) (fun _ i _ => r.writers.length - (intOf i).toNat)
    case atStart => exact ⟨0, Nat.zero_le _, rfl, World.ownsRow_nil _ _ _ _, hKN, Nat.le_refl _⟩
    case round =>
      obtain ⟨c, hc, rfl, hown, hK, hz⟩ := hrel
      by_cases hlt : c < r.writers.length
      · have hst := Lib.hid (keep_succ p c)
        have hkl := keep_len p c
        generalize hL : ((List.range c).filter p).map (fun (c : Nat) => (c : Int)) = L at hown hst hkl
        clear hL
        have MY := SMay_any a1 a2 a3 a4 a5 k1 k2 k3 k4 k5 r bm bo m c wr hK.1 hv hml hlt
        have hpc : p c = mayB r r.letters[m] c := by rw [HP.out]
        rw [← hpc] at MY
        clear hpc
        generalize p c = bp at hst MY
        have MY := Lib.hid MY
        cases bp
        · go_wp2_with (go_at_call 47; go_must (refine MY.out.mono ?_; rintro e w5 ⟨rfl, hg5, hR5⟩; dsimp only))
          go_roundw
          case rel => exact ⟨c + 1, by omega, by go_num, by rw [hst.out]; simpa using own_map hown hg5 hbol, hK.step hg5 hR5 hbw, Nat.le_trans hz hg5.size⟩
          case measure => simp [intOf]; omega
        · go_wp2_with (first
            | (at_builtin; go_must (have hown5 := own_map hown hg5 hbol; have hz5 := Nat.le_trans hz hg5.size; refine wpList_app (.tmp 31) (.tmp 33) E_int rfl rfl rfl rfl wo.heap.size L.length 1 (L.map (Value.int .i64)) [.int .i64 (c : Int)] (hown5.alloc _) (SrcAt.one _ _ _ rfl) (by omega) (by decide) (by simp; omega) ?_; intro v2 w6 ho2 hg2 _; (have hb6 := app_next (Below.refl wo.heap.size w5) hz5 (Nat.le_refl _) hown5 hg2); clear hg2; simp only [Act.put, List.setIfInBounds_toArray, List.set_cons_succ, List.set_cons_zero]))
            | (go_at_call 47; go_must (refine MY.out.mono ?_; rintro e w5 ⟨rfl, hg5, hR5⟩; dsimp only)))
          go_roundw
          case rel => exact ⟨c + 1, by omega, by go_num, by rw [hst.out]; simpa using ho2, (hK.step hg5 hR5 hbw).belowB hm hb6 (by omega) hbml hbol, Nat.le_trans (Nat.le_trans hz hg5.size) hb6.size⟩
          case measure => simp [intOf]; omega
      · obtain rfl : c = r.writers.length := by omega
        go_wp2
        go_ret2
        have hr := HTY.out
        subst hr
        exact ⟨_, rfl, ints_ownV hown, hK.2⟩
  · replace HTN := Lib.hid (HTN.out her)
    generalize mayErr r n = er at her EN2 HTN
    generalize mayOf r n = res at HTN ⊢
    have HER := Lib.hid her
    have g1 := nei_t her
    have EN2 := Lib.hid EN2
    clear her HV
    go_enter Tryz.func14, Tryz.ntmps14
    go_wp2_with (go_at_call 23; go_must (refine EN2.out.mono ?_; rintro e w3 ⟨v3, rfl, h3, hb3⟩; obtain rfl := h3.2 HER.out; dsimp only))
    go_ret2
    have hr := HTN.out
    subst hr
    exact ⟨_, rfl, ⟨none, 0, rfl, ⟨by simp, by omega, fun _ => rfl⟩, IntsC.nil _ _⟩, box_old (hb3.mono (by simp))⟩
end Go.Proofs.YtcgplocmncionaaGreat
