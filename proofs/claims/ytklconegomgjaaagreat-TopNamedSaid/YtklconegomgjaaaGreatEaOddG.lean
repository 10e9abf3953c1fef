/- What is proved here: the contracts of hear and Reads of layer 1, at a valid book and what can be heard. Conditions: the book and what is heard lie in memory. -/
/- What is proved here: the contract of ear.numbers. Conditions: sets below 64. -/
/- What is proved here: the contract of Odd of layer 1, at a valid book. Conditions: the book lies in memory. -/
import Derived.Test.YtklconegomgjaaaGreatEaCommonG
import Derived.Test.YtklconegomgjaaaGreatEaCanG
set_option linter.unusedVariables false
set_option linter.unusedSimpArgs false
namespace Go.Proofs.YtklconegomgjaaaGreat
open Go Go.RowKit Go.Shelf

theorem known_get {b : EaB} (hv : EaValid b) {V : World} {bo : Nat} {T : List (Value × Value)} (hM : MapV V Tryz.prog 95 bo T) (hK : KnownB b T) {x : List Int} (hx : HeardOk b.sounds.toNat x) : lookE V bo x (ofN b x) := by
  obtain ⟨E, rfl, hn, hE⟩ := hK
  obtain ⟨kl, hkey⟩ := key_hV (by have := hv.sounds; omega) hx
  rcases hM.get key_heard map_heard hkey (zero_intE V) with ⟨g1, g2⟩ | ⟨j, v, g1, g2⟩
  · have hz : ofN b x = 0 := by
      apply Nat.eq_of_testBit_eq
      intro i
      rw [ofN_bit, Nat.zero_testBit]
      by_cases hi : i < b.spells.length
      · have : (strsN b i).contains x = false := by
          rw [Bool.eq_false_iff]
          intro hc
          exact g1 _ (List.mem_map.2 ⟨x, (hE x).2 ⟨i, hi, by simpa using hc⟩, rfl⟩) rfl
        rw [this, Bool.and_false]
      · simp [hi]
    unfold lookE
    rw [hz]
    exact g2
  · rw [List.getElem?_map] at g1
    obtain ⟨y, hy, e⟩ := Option.map_eq_some_iff.1 g1
    have e1 := congrArg Prod.fst e
    have e2 : Value.int .i64 (ofN b y : Int) = v := congrArg Prod.snd e
    obtain ⟨i, hi, hyi⟩ := (hE y).1 (List.mem_of_getElem? hy)
    have := heard_inj (strs_ok hv hi hyi).1 hx.1 e1
    subst this
    rw [← e2] at g2
    exact g2
/-- What is copied into a sound string. -/
theorem copy_cells (l : List Int) (hl : l.length ≤ 5) : ((List.take 1 (heardCells []).toList ++ (l.map (Value.int .i64) ++ List.drop (1 + (l.map (Value.int .i64)).length) (heardCells []).toList)).toArray.setIfInBounds 0 (.int .i64 (l.length : Int))) = heardCells l := by
  match l, hl with
  | [], _ => rfl
  | [_], _ => rfl
  | [_, _], _ => rfl
  | [_, _, _], _ => rfl
  | [_, _, _, _], _ => rfl
  | [_, _, _, _, _], _ => rfl
set_option maxRecDepth 100000 in
set_option maxHeartbeats 2000000 in
theorem EHear_any (a1 a2 : Option Addr) (k1 k2 : Nat) (b : EaB) (bm bo : Nat) (a : Option Addr) (l : List Int) (c : Nat) (w : World) (hm : BookW w bm bo a1 a2 k1 k2 b) (hv : EaValid b) (ho : SlOk a l.length c) (hi : IntsC w a l) (hl : HeardOk b.sounds.toNat l) (h0 : l ≠ []) :
    Calls Tryz.prog 69 #[.pointer (some ⟨bm, 0, none⟩), .slice a l.length c] w fun e w' => e = .returned (.tuple #[heardV l, .int .i64 0]) ∧ Below w.heap.size w w' := by
  obtain ⟨S, hS, hS1, hS4⟩ := sounds_nat hv
  obtain ⟨y0, y1, y2, y3, yz⟩ := hm.blk.cells
  rw [hS] at y0
  have hl5 := hl.1
  have hx : ∀ x ∈ l, 0 ≤ x ∧ x < (S : Int) := fun x h => by have := hl.2 x h; rw [hS, Int.toNat_natCast] at this; exact this
  have BY := Lib.hid (fun (V : World) (hb : Below w.heap.size w V) => (show Calls Tryz.prog 76 #[.int .i64 0, .int .i64 ((S : Int) - 1), .slice a l.length c] V fun e w' => e = .returned (.bool false) ∧ Below V.heap.size V w' from by
    have := EBeyond_any a l c 0 ((S : Int) - 1) V (by omega) (hi.mono hb)
    rwa [any_in hx] at this))
  obtain ⟨b', off, hab, hb', _⟩ := hi 0 (List.length_pos_iff.2 h0)
  subst hab
  have HI := Lib.hid (fun (V : World) (hb : Below w.heap.size w V) (k : Nat) (hk : k < l.length) => (show V.cell? ⟨b', off + k, none⟩ = some (.int .i64 l[k]) from by
    obtain ⟨b2, o2, e, _, hc⟩ := hi.mono hb k hk
    cases e
    exact hc))
  have hcn := Lib.hid (show (l.map (Value.int .i64)).length = Nat.min l.length 5 by rw [List.length_map]; exact (Nat.min_eq_left hl.1).symm)
  have hcone := Lib.hid (show ∀ v ∈ l.map (Value.int .i64), v.oneCell' = true from fun v hv => by obtain ⟨y, _, rfl⟩ := List.mem_map.1 hv; rfl)
  have hcfit := Lib.hid (show 1 + (l.map (Value.int .i64)).length ≤ (heardCells []).size by rw [List.length_map]; have := hl.1; simp [heardCells]; omega)
  obtain ⟨it, hit, hitz, hitsz, hitby⟩ := info_parts E_int.info
  have hsz1 := Lib.hid (show (Tryz.prog.info? 3).map (·.size) = some 1 by rw [hit]; simp [hitsz])
  have hg : ¬ (5 : Int) < (l.length : Int) := by omega
  have hSI : (S : Int) ≤ 4 := by omega
  obtain ⟨X, hX⟩ : ∃ X : World, X = w.alloc (.cells (heardCells []) 95) := ⟨_, rfl⟩
  have hbX : Below w.heap.size w X := by rw [hX]; exact (Below.refl _ _).alloc (Nat.le_refl _) _
  have hcX : X.heap[w.heap.size]? = some (.cells (heardCells []) 95 (0, 0)) := by rw [hX]; exact alloc_atE _ _ rfl
  replace y0 := cell_below hbX y0
  replace yz := Nat.lt_of_lt_of_le yz hbX.size
  have hXw : X.heap.size = w.heap.size + 1 := by rw [hX]; simp
  have HX := Lib.hid hX
  have hln := ho.2.2
  clear hX hm hv hx hl y1 y2 y3 hi
  go_enter Tryz.func69, Tryz.ntmps69
  go_upto_region 3 with (fail)
  rw [show w.alloc (.cells #[.int .i64 0, .int .i64 0, .int .i64 0, .int .i64 0, .int .i64 0, .int .i64 0] 95) = X from HX.out.symm]
  go_upto_region 5 with (go_at_call 76; go_must ((with_reducible refine (BY.out _ hbX).mono ?_); rintro e w2 ⟨rfl, hb2⟩; dsimp only))
  have hc2 := (hb2.block _ (by omega)).trans hcX
  have hB2 := hbX.trans (hb2.mono hbX.size)
  have hcsrc := Lib.hid (fun (j : Nat) (v : Value) (hj : (l.map (Value.int .i64))[j]? = some v) => show w2.cell? ((⟨b', off, none⟩ : Addr).add j) = some v from by
    rw [Addr.add_lit]
    rw [List.getElem?_map] at hj
    obtain ⟨y, hy, rfl⟩ := Option.map_eq_some_iff.1 hj
    obtain ⟨hlt, rfl⟩ := List.getElem?_eq_some_iff.1 hy
    exact HI.out _ hB2 j hlt)
  have hcz := lt_of_block hc2
  obtain ⟨Y, hY⟩ : ∃ Y : World, Y = w2.setRow w.heap.size (List.take 1 (heardCells []).toList ++ (List.map (Value.int .i64) l ++ List.drop (1 + (List.map (Value.int .i64) l).length) (heardCells []).toList)).toArray := ⟨_, rfl⟩
  have hYc : Y.heap[w.heap.size]? = some (.cells (List.take 1 (heardCells []).toList ++ (List.map (Value.int .i64) l ++ List.drop (1 + (List.map (Value.int .i64) l).length) (heardCells []).toList)).toArray 95 (0, 0)) := by
    rw [hY]
    exact setRow_heap w2 w.heap.size _ _ 95 _ hc2
  have hYb : Below w.heap.size w Y := by rw [hY]; exact below_setRow hB2 (Nat.le_refl _) _
  have HY := Lib.hid hY
  have HC2 := Lib.hid hc2
  have f0 := blk_free 0 hYc
  have e0 : Y.cell? ⟨w.heap.size, 0, none⟩ = some (.int .i64 0) := blk_cell 0 hYc rfl
  have yz2 := lt_of_block hYc
  have hQ := blk_set 0 (.int .i64 (l.length : Int)) hYc
  rw [copy_cells l hl5] at hQ
  clear hY hYc hc2 hbX hcX hb2 hB2
  go_upto_region 6 with (refine wpList_copy_own rfl (.tmp 22) (.tmp 23) _ _ rfl 3 E_int.und hsz1.out w.heap.size 1 5 5 ⟨b', off, none⟩ l.length c rfl rfl (heardCells []) 95 HC2.out (l.map (Value.int .i64)) hcn.out hcsrc.out hcfit.out hcone.out ?_; (rw [← HY.out]); go_frame)
  obtain ⟨Z, hZ⟩ : ∃ Z : World, Z = Y.setCell ⟨w.heap.size, 0, none⟩ (.int .i64 (l.length : Int)) := ⟨_, rfl⟩
  have hbZ : Below w.heap.size w Z := by rw [hZ]; exact hYb.setCell (by simp) _
  rw [← hZ] at hQ ⊢
  clear hZ f0 e0 yz2 HY HC2 hcsrc hcz HI hcn hcone hcfit BY hYb HX yz y0
  have c0 := blk_cell 0 hQ rfl
  have c1 := blk_cell 1 hQ rfl
  have c2 := blk_cell 2 hQ rfl
  have c3 := blk_cell 3 hQ rfl
  have c4 := blk_cell 4 hQ rfl
  have c5 := blk_cell 5 hQ rfl
  have f0 := blk_free 0 hQ
  have f1 := blk_free 1 hQ
  have f2 := blk_free 2 hQ
  have f3 := blk_free 3 hQ
  have f4 := blk_free 4 hQ
  have f5 := blk_free 5 hQ
  have zz := lt_of_block hQ
  simp only [heardCells, List.getElem_toArray, List.getElem_cons_zero, List.getElem_cons_succ] at c0 c1 c2 c3 c4 c5
  go_wp2
  obtain ⟨Qw, hQw⟩ : ∃ Qw : World, Qw = setHeard Z w.heap.size l := ⟨_, rfl⟩
  have hsQ := setHeard_blk (x := l) hQ
  have hbQ : Below w.heap.size w Qw := by rw [hQw]; exact setHeard_below hbZ (Nat.le_refl _)
  rw [← hQw] at hsQ
  unfold setHeard at hQw
  rw [← hQw]
  clear hQw c0 c1 c2 c3 c4 c5 f0 f1 f2 f3 f4 f5 hQ hbZ
  have c0 := blk_cell 0 hsQ rfl
  have c1 := blk_cell 1 hsQ rfl
  have c2 := blk_cell 2 hsQ rfl
  have c3 := blk_cell 3 hsQ rfl
  have c4 := blk_cell 4 hsQ rfl
  have c5 := blk_cell 5 hsQ rfl
  simp only [heardCells, List.getElem_toArray, List.getElem_cons_zero, List.getElem_cons_succ] at c0 c1 c2 c3 c4 c5
  go_wp2
  refine bodyPost_ret (v := .tuple #[heardV l, .int .i64 0]) ?_ rfl ⟨rfl, hbQ⟩
  rw [results_cell_tmp rfl]
  go_simp
theorem shr_bitE : ∀ c : Nat, c < 32 → ∀ i : Nat, i < 5 → (bits BinOp.and .i64 ((c : Int) / 2 ^ i) 1 == 1) = c.testBit i := by decide +kernel
set_option maxRecDepth 100000 in
set_option maxHeartbeats 1000000 in
theorem EReads_any (a1 a2 : Option Addr) (k1 k2 : Nat) (b : EaB) (i : Nat) (a : Option Addr) (l : List Int) (c : Nat) (w : World) (hm : BookC w a1 a2 k1 k2 b) (hv : EaValid b) (hi : i < b.spells.length) (ho : SlOk a l.length c) (hil : IntsC w a l) (hl : HeardOk b.sounds.toNat l) (h0 : l ≠ []) :
    Calls Tryz.prog 24 #[(.agg #[.int .i64 b.sounds, .slice a1 b.alphas.length k1, .slice a2 b.spells.length k2]), .int .i64 (i : Int), .slice a l.length c] w fun e w' => e = .returned (.tuple #[.bool ((strsN b i).contains l), .int .i64 0]) ∧ Below w.heap.size w w' := by
  have hQ0 := Below.refl (w.heap.size + 1) (w.alloc (.cells #[.int .i64 b.sounds, .slice a1 b.alphas.length k1, .slice a2 b.spells.length k2] 25))
  have hQ1 := hQ0.alloc (by simp) (.cells #[.int .i64 (i : Int)] 3)
  have hns := hv.ns
  have hl2 := hm.oks.len
  have EN := Lib.hid (EEnterOne_any a1 a2 k1 k2 b b.spells.length i (w.heap.size + 1) ((w.alloc (.cells #[.int .i64 b.sounds, .slice a1 b.alphas.length k1, .slice a2 b.spells.length k2] 25)).alloc (.cells #[.int .i64 (i : Int)] 3)) (hm.mono (box_old hQ1)) hv (by omega) hi (by simp))
  have HE := Lib.hid (fun (V : World) (bm bo : Nat) (h : BookW V bm bo a1 a2 k1 k2 b) (hb : Below w.heap.size w V) => EHear_any a1 a2 k1 k2 b bm bo a l c V h hv ho (hil.mono hb) hl h0)
  have LK := Lib.hid (fun (V : World) (bm bo : Nat) (h : BookW V bm bo a1 a2 k1 k2 b) => (show lookE V bo l (ofN b l) from by
    obtain ⟨T, hT, hK⟩ := h.map
    exact known_get hv hT hK hl))
  have hbit := ofN_bit b l i
  rw [decide_eq_true hi, Bool.true_and] at hbit
  have hsh := shr_bitE (ofN b l) (ofN_lt hv l) i (by omega)
  rw [hbit] at hsh
  generalize ofN b l = o at LK hsh
  generalize (strsN b i).contains l = r at hsh hbit ⊢
  have hi64 : (i : Int) < 64 := by omega
  clear hm hv hl hbit hil
  go_enter Tryz.func24, Tryz.ntmps24
  go_upto_region 7 with (first
    | (go_at_call 69; go_must ((with_reducible refine (HE.out _ _ _ hB2 hbw2).mono ?_); rintro e w3 ⟨rfl, hb3⟩; dsimp only))
    | (go_at_call 37; go_must ((with_reducible refine EN.out.mono ?_); rintro e w2 ⟨bm, bo, rfl, hB2, hb2, hlo, hlo2⟩; have hbw2 := (box_old hQ1).trans (hb2.mono (box_old hQ1).size); dsimp only)))
  have hb4 : Below w.heap.size w (w3.alloc (.cells (heardCells l) 95)) := (hbw2.trans (hb3.mono hbw2.size)).alloc (by have := hbw2.size; have := hb3.size; omega) _
  have hB4 : BookW (w3.alloc (.cells (heardCells l) 95)) bm bo a1 a2 k1 k2 b := hB2.below (hb3.alloc hb3.size _)
  have hc4 : (w3.alloc (.cells (heardCells l) 95)).heap[w3.heap.size]? = some (.cells (heardCells l) 95 (0, 0)) := alloc_atE _ _ rfl
  obtain ⟨V, hV⟩ : ∃ V : World, V = w3.alloc (.cells (heardCells l) 95) := ⟨_, rfl⟩
  rw [← hV] at hb4 hB4 hc4 ⊢
  have hbd := below_drew' (Below.refl V.heap.size V)
  have hlk := LK.out V.drew bm bo (hB4.below hbd)
  unfold lookE at hlk
  have m1 := hB4.blk.cells
  have HB4 := Lib.hid hb4
  have c0 := blk_cell 0 hc4 rfl
  have c1 := blk_cell 1 hc4 rfl
  have c2 := blk_cell 2 hc4 rfl
  have c3 := blk_cell 3 hc4 rfl
  have c4 := blk_cell 4 hc4 rfl
  have c5 := blk_cell 5 hc4 rfl
  simp only [heardCells, List.getElem_toArray, List.getElem_cons_zero, List.getElem_cons_succ] at c0 c1 c2 c3 c4 c5
  obtain ⟨y0, y1, y2, y3, yz⟩ := m1
  have cz := lt_of_block hc4
  clear hV hc4 hb4 hB4 LK HE EN hb3 hb2 hbw2 hB2 hQ0 hQ1
  go_region
  all_goals
    go_wp2
    go_ret2
    exact ⟨rfl, HB4.out.trans (hbd.mono HB4.out.size)⟩
end Go.Proofs.YtklconegomgjaaaGreat
namespace Go.Proofs.YtklconegomgjaaaGreat
open Go Go.RowKit
set_option maxHeartbeats 2000000 in
theorem ENumbersN_any (s n : Nat) (hs : s < 64) (hn : n ≤ 6) (w : World) :
    Calls Tryz.prog 70 #[.int .i64 (s : Int), .int .i64 (n : Int)] w fun e w' => ∃ v, e = .returned v ∧ IntsN w.heap.size w' v (bitsList s n) ∧ Below w.heap.size w w' := by
  obtain ⟨p, hp⟩ : ∃ p : Nat → Bool, p = fun i => s.testBit i := ⟨_, rfl⟩
  have hW : Hid (bitsList s n = ((List.range n).filter p).map (fun (c : Nat) => (c : Int))) := by rw [hp]; exact (rfl : bitsList s n = _)
  generalize bitsList s n = r at hW ⊢
  have HP := Lib.hid hp
  clear hp
  go_enter Tryz.func70, Tryz.ntmps70
  go_wp2
  go_loopw [4, 7] (fun o i wr => ∃ (c : Nat), c ≤ n ∧ i = .int .i64 c ∧ wr.ownsRow w.heap.size 3 1 o (((List.range c).filter p).map (fun (c : Nat) => (c : Int))).length ((((List.range c).filter p).map (fun (c : Nat) => (c : Int))).map (Value.int .i64)) ∧ Below w.heap.size w wr) (fun _ i _ => n - (intOf i).toNat)
  case atStart => exact ⟨0, Nat.zero_le _, rfl, World.ownsRow_nil _ _ _ _, Below.refl _ _⟩
  case round =>
    obtain ⟨c, hc, rfl, hown, hB⟩ := hrel
    have hB1 := hB.size
    by_cases hlt : c < n
    · have hst := Lib.hid (keep_succ p c)
      have hkl := keep_len p c
      generalize hL : ((List.range c).filter p).map (fun (c : Nat) => (c : Int)) = L at hown hst hkl
      clear hL
      have hb := bit_and s hs c (by omega)
      have hpc : p c = s.testBit c := by rw [HP.out]
      rw [← hpc] at hb
      clear hpc
      generalize p c = bp at hst hb
      have hc64 : (c : Int) < 64 := by omega
      cases bp
      · go_wp2
        go_roundw
        case rel => exact ⟨c + 1, by omega, by go_num, by rw [hst.out]; simpa using hown, hB⟩
        case measure => simp [intOf]; omega
      · go_wp2_with (at_builtin; go_must (refine wpList_app (.tmp 15) (.tmp 17) E_int rfl rfl rfl rfl w.heap.size L.length 1 (L.map (Value.int .i64)) [.int .i64 (c : Int)] (hown.alloc _) (SrcAt.one _ _ _ rfl) (by omega) (by decide) (by simp; omega) ?_; intro v2 w2 ho2 hg2 _; (have hb2 := app_next hB (Nat.le_refl _) (Nat.le_refl _) hown hg2); clear hg2; simp only [Act.put, List.setIfInBounds_toArray, List.set_cons_succ, List.set_cons_zero]))
        go_roundw
        case rel => exact ⟨c + 1, by omega, by go_num, by rw [hst.out]; simpa using ho2, hb2⟩
        case measure => simp [intOf]; omega
    · obtain rfl : c = n := by omega
      go_wp2
      go_ret
      rw [hW.out]
      exact ⟨_, rfl, ints_ownN hown, hB⟩
theorem ENumbers_any (s n : Nat) (hs : s < 64) (hn : n ≤ 6) (w : World) :
    Calls Tryz.prog 70 #[.int .i64 (s : Int), .int .i64 (n : Int)] w fun e w' => ∃ v, e = .returned v ∧ IntsV w' v (bitsList s n) ∧ Below w.heap.size w w' :=
  (ENumbersN_any s n hs hn w).mono fun e w' ⟨v, h1, h2, h3⟩ => ⟨v, h1, h2.val, h3⟩
end Go.Proofs.YtklconegomgjaaaGreat
namespace Go.Proofs.YtklconegomgjaaaGreat
open Go Go.RowKit Go.Shelf

def awayE (n s : Nat) : Nat := (2 ^ n - 1) &&& ((2 ^ n - 1) ^^^ s)
theorem away_bitsE : ∀ n : Nat, n ≤ 5 → ∀ s : Nat, s < 32 → bits BinOp.andNot IntKind.i64 ((2 ^ n - 1 : Nat) : Int) (s : Int) = ((awayE n s : Nat) : Int) := by decide +kernel
theorem less_oneE : ∀ n : Nat, n ≤ 5 → wrap64 (wrap64 (2 ^ n) - 1) = ((2 ^ n - 1 : Nat) : Int) := by decide +kernel
theorem awayE_lt (n s : Nat) : awayE n s < 2 ^ n := Nat.lt_of_le_of_lt Nat.and_le_left (by have := Nat.two_pow_pos n; omega)
/-- The first one of some sets. -/
def OddM (n : Nat) (L : List Nat) (c : Nat) : Prop := c ∈ L ∧ ∀ y ∈ L, fewer (bitsList y n) (bitsList c n) = false
theorem oddM_more {n : Nat} {L : List Nat} {c x : Nat} (h : OddM n L c) : OddM n (L ++ [x]) (if fewer (bitsList x n) (bitsList c n) = true then x else c) := by
  obtain ⟨h1, h2⟩ := h
  by_cases hf : fewer (bitsList x n) (bitsList c n) = true
  · rw [if_pos hf]
    refine ⟨by simp, fun y hy => ?_⟩
    rcases List.mem_append.1 hy with hy | hy
    · cases h3 : fewer (bitsList y n) (bitsList x n)
      · rfl
      · have := fewer_trans h3 hf
        rw [h2 y hy] at this
        cases this
    · rw [List.mem_singleton.1 hy]; exact fewer_irrefl _
  · rw [if_neg hf]
    refine ⟨by simp [h1], fun y hy => ?_⟩
    rcases List.mem_append.1 hy with hy | hy
    · exact h2 y hy
    · rw [List.mem_singleton.1 hy]; simpa using hf
/-- The sets that Odd has looked at. -/
def oddL (b : EaB) (pre : List (List Int)) : List Nat := (2 ^ b.spells.length - 1) :: pre.map fun h => awayE b.spells.length (ofN b h)
theorem oddL_snoc (b : EaB) (pre : List (List Int)) (x : List Int) : oddL b (pre ++ [x]) = oddL b pre ++ [awayE b.spells.length (ofN b x)] := by simp [oddL]
theorem oddL_all {b : EaB} (hv : EaValid b) {E : List (List Int)} (hE : ∀ h, h ∈ E ↔ ∃ i, i < b.spells.length ∧ h ∈ strsN b i) (c : Nat) : c ∈ oddL b E ↔ oddC b c = true := by
  unfold oddL oddC
  rw [List.mem_cons, List.mem_map, Bool.or_eq_true, beq_iff_eq, List.any_eq_true]
  refine or_congr Iff.rfl ⟨?_, ?_⟩
  · rintro ⟨h, hh, rfl⟩
    obtain ⟨i, hi, hs⟩ := (hE h).1 hh
    refine ⟨h, mem_heardAll.2 (strs_ok hv hi hs), ?_⟩
    rw [Bool.and_eq_true, bne_iff_ne, beq_iff_eq]
    refine ⟨fun e => ?_, rfl⟩
    have := ofN_bit b h i
    rw [e, Nat.zero_testBit, decide_eq_true hi, Bool.true_and] at this
    exact absurd (List.contains_iff_mem.2 hs) (by rw [← this]; simp)
  · rintro ⟨h, hh, hc⟩
    rw [Bool.and_eq_true, bne_iff_ne, beq_iff_eq] at hc
    refine ⟨h, (hE h).2 ?_, hc.2⟩
    obtain ⟨i, hi⟩ := Nat.exists_testBit_of_ne_zero hc.1
    rw [ofN_bit, Bool.and_eq_true, decide_eq_true_eq] at hi
    exact ⟨i, hi.1, List.contains_iff_mem.1 hi.2⟩
/-- Ints that lie in no block of a walk over a map. -/
def IntsR (B rr : Nat) (w : World) (v : Value) (l : List Int) : Prop := ∃ a c, v = .slice a l.length c ∧ SlOk a l.length c ∧ IntsC w a l ∧ ∀ ad, a = some ad → B ≤ ad.block ∧ (l ≠ [] → ad.block ≠ rr)
theorem IntsR.mono {B rr : Nat} {w W : World} {v : Value} {l : List Int} (h : IntsR B rr w v l) (hb : Below w.heap.size w W) : IntsR B rr W v l := by
  obtain ⟨a, c, e, h1, h2, h3⟩ := h; exact ⟨a, c, e, h1, h2.mono hb, h3⟩
theorem IntsR.grown {B rr : Nat} {w W : World} {v : Value} {l : List Int} (h : IntsR B rr w v l) (hg : w.grownBy W (some rr)) : IntsR B rr W v l := by
  obtain ⟨a, c, e, h1, h2, h3⟩ := h
  refine ⟨a, c, e, h1, ?_, h3⟩
  by_cases hl : l = []
  · subst hl; exact IntsC.nil _ _
  · exact h2.grown hg (fun ad ea e => (h3 ad ea).2 hl (Option.some.inj e))
theorem IntsN.away {B rr : Nat} {w : World} {v : Value} {l : List Int} (h : IntsN B w v l) (hr : w.heap.size ≤ rr) : IntsR B rr w v l := by
  obtain ⟨a, c, e, h1, h2, h3⟩ := h
  refine ⟨a, c, e, h1, h2, fun ad e => ⟨h3 ad e, fun hl => ?_⟩⟩
  subst e
  obtain ⟨b, off, e, hb, _⟩ := h2 0 (List.length_pos_iff.2 hl)
  cases e
  simp only
  omega
theorem IntsN.behind {B C rr : Nat} {w : World} {v : Value} {l : List Int} (h : IntsN B w v l) (hr : rr < B) (hC : C ≤ B) : IntsR C rr w v l := by
  obtain ⟨a, c, e, h1, h2, h3⟩ := h
  exact ⟨a, c, e, h1, h2, fun ad e => ⟨Nat.le_trans hC (h3 ad e), fun _ => by have := h3 ad e; omega⟩⟩
set_option maxRecDepth 100000 in
set_option maxHeartbeats 4000000 in
theorem EOdd_any (a1 a2 : Option Addr) (k1 k2 : Nat) (b : EaB) (w : World) (hm : BookC w a1 a2 k1 k2 b) (hv : EaValid b) :
    Calls Tryz.prog 26 #[(.agg #[.int .i64 b.sounds, .slice a1 b.alphas.length k1, .slice a2 b.spells.length k2])] w fun e w' => ∃ v c, e = .returned (.tuple #[v, .int .i64 0]) ∧ IntsN w.heap.size w' v (bitsList c b.spells.length) ∧ oddC b c = true ∧ (∀ c', oddC b c' = true → fewer (bitsList c' b.spells.length) (bitsList c b.spells.length) = false) ∧ Below w.heap.size w w' := by
  have hQ0 := Below.refl (w.heap.size + 1) (w.alloc (.cells #[.int .i64 b.sounds, .slice a1 b.alphas.length k1, .slice a2 b.spells.length k2] 25))
  have hns := hv.ns
  have hl2 := hm.oks.len
  have KE : Hid (∀ V, Below (w.heap.size + 1) (w.alloc (.cells #[.int .i64 b.sounds, .slice a1 b.alphas.length k1, .slice a2 b.spells.length k2] 25)) V → (V.cell? ⟨w.heap.size, 0, none⟩ = some (.int .i64 b.sounds) ∧ V.cell? ⟨w.heap.size, 1, none⟩ = some (.slice a1 b.alphas.length k1) ∧ V.cell? ⟨w.heap.size, 2, none⟩ = some (.slice a2 b.spells.length k2) ∧ w.heap.size < V.heap.size)) := Lib.hid (fun V hV => ⟨box_cell hV 0 _ rfl, box_cell hV 1 _ rfl, box_cell hV 2 _ rfl, box_size hV⟩)
  have EN := Lib.hid (show Calls Tryz.prog 37 #[(.agg #[.int .i64 b.sounds, .slice a1 b.alphas.length k1, .slice a2 b.spells.length k2]), .int .i64 0, .slice none 0 0] (w.alloc (.cells #[.int .i64 b.sounds, .slice a1 b.alphas.length k1, .slice a2 b.spells.length k2] 25)) _ from EEnter_any a1 a2 k1 k2 b 0 none [] 0 (w.alloc (.cells #[.int .i64 b.sounds, .slice a1 b.alphas.length k1, .slice a2 b.spells.length k2] 25)) (hm.mono (box_old hQ0)) hv (by omega) (by simp) (IntsC.nil _ _) (by simp))
  have NU := Lib.hid (fun (s : Nat) (hs : s < 64) (V : World) => ENumbersN_any s b.spells.length hs (by omega) V)
  have HOF := Lib.hid (fun h => ofN_lt hv h)
  have HEO := Lib.hid (fun E (hE : ∀ h, h ∈ E ↔ ∃ i, i < b.spells.length ∧ h ∈ strsN b i) => oddL_all hv hE)
  have HM1 := Lib.hid (fun h : List Int => away_bitsE b.spells.length hns (ofN b h) (HOF.out h))
  have HM2 := less_oneE b.spells.length hns
  have HM3 := Lib.hid (awayE_lt b.spells.length)
  have hn5 : (b.spells.length : Int) ≤ 5 := by omega
  have h32 : 2 ^ b.spells.length ≤ 32 := Nat.pow_le_pow_right (n := 2) (by omega) hns
  clear hm
  go_enter Tryz.func26, Tryz.ntmps26
  go_upto_region 6 with (first
    | (go_at_call 37; go_must ((with_reducible refine EN.out.mono ?_); rintro e w2 ⟨bm, bo, rfl, hB2, hb2, hlo, hlo2⟩; have hQ2 := hQ0.trans (hb2.mono (by simp)); obtain ⟨x0, x1, x2, xz⟩ := KE.out _ hQ2; dsimp only))
    | (go_at_call 70; go_must ((with_reducible refine (NU.out _ (by omega) _).mono ?_); rintro e w3 ⟨v3, rfl, hi3, hb3⟩; dsimp only)))
  rw [HM2]
  have hB3 := hB2.below hb3
  have hz0 := (box_old hQ0).size
  have hw3 := (box_old hQ2).trans (hb3.mono (box_old hQ2).size)
  obtain ⟨y0, y1, y2, y3, yz⟩ := hB3.blk.cells
  obtain ⟨T, hM, E, hT, hn, hE⟩ := hB3.map
  have hbo := hM.lt
  have HE := Lib.hid hE
  have HTT := Lib.hid hT
  have hzz := hb3.size
  have hz2 := (box_old hQ2).size
  have hi3' : IntsR w.heap.size w3.heap.size w3 v3 (bitsList (2 ^ b.spells.length - 1) b.spells.length) := by
    have h1 := hi3.away (rr := w3.heap.size) (Nat.le_refl _)
    obtain ⟨a, c, e, h1, h2, h3⟩ := h1
    exact ⟨a, c, e, h1, h2, fun ad e => ⟨Nat.le_trans hz2 (h3 ad e).1, (h3 ad e).2⟩⟩
  clear hi3 hQ0 hb2 hB2 hQ2 hB3 y0 y1 y2 EN hlo hlo2 hE hT hb3 x0 x1 x2 xz hz0
  go_wp2_with (at_range; refine wpList_range_v rfl (.tmp 30) _ rfl _ _ map_heard bo _ rfl hM ?_; intro o' hrg; go_frame)
  have HTT2 := HTT.out
  obtain ⟨Y, hY⟩ : ∃ Y : World, Y = w3.alloc o' := ⟨_, rfl⟩
  rw [← hY] at hrg ⊢
  have hbY3 : Below w3.heap.size w3 Y := by rw [hY]; exact (Below.refl _ _).alloc (Nat.le_refl _) _
  have hbY := hw3.trans (hbY3.mono hw3.size)
  have hiY := hi3'.mono hbY3
  clear hY hM y3 yz hi3' KE hw3
  obtain ⟨rr, hrr⟩ : ∃ rr, rr = w3.heap.size := ⟨_, rfl⟩
  rw [← hrr] at hrg hiY ⊢
  have hwr : w.heap.size ≤ rr := by rw [hrr]; omega
  clear hbY3 hzz
  clear hrr
  go_loopw [7] (fun v wr => ∃ (pre rem : List (List Int)) (c : Nat), (pre ++ rem).Perm E ∧ OddM b.spells.length (oddL b pre) c ∧ c < 2 ^ b.spells.length ∧ IntsR w.heap.size rr wr v (bitsList c b.spells.length) ∧ RngV wr Tryz.prog 95 bo rr T (rem.map fun h => (heardV h, Value.int .i64 (ofN b h : Int))) ∧ Below w.heap.size w wr) (fun _ wr => wr.rangeLeft bo rr)
  case atStart => exact ⟨[], E, 2 ^ b.spells.length - 1, by simp, ⟨by simp [oddL], fun y hy => by simp [oddL] at hy; rw [hy]; exact fewer_irrefl _⟩, by have := Nat.two_pow_pos b.spells.length; omega, hiY, by rw [HTT2] at hrg ⊢; exact hrg, hbY⟩
  case round =>
    clear hrg hbY hiY HTT2
    obtain ⟨pre, rem, c, hperm, hodd, hc2, hi, hrg, hb⟩ := hrel
    have hzr := hb.size
    go_wp2_with (at_next; refine wpList_next_v rfl (.tmp 31) rfl _ (fun h => heardV h) (fun h => Value.int .i64 (ofN b h : Int)) bo rr _ rem rfl hrg ?_ ?_)
    · intro h0
      subst h0
      rw [List.append_nil] at hperm
      have hmem : ∀ x, x ∈ oddL b pre ↔ x ∈ oddL b E := fun x => by simp only [oddL, List.mem_cons, List.mem_map, hperm.mem_iff]
      have HR : Hid (oddC b c = true ∧ ∀ c', oddC b c' = true → fewer (bitsList c' b.spells.length) (bitsList c b.spells.length) = false) := Lib.hid ⟨(HEO.out E HE.out c).1 ((hmem c).1 hodd.1), fun c' h' => hodd.2 c' ((hmem c').2 ((HEO.out E HE.out c').2 h'))⟩
      obtain ⟨a', c', e', h1, h2, h3⟩ := hi
      have HI : Hid (SlOk a' (bitsList c b.spells.length).length c' ∧ IntsC wr a' (bitsList c b.spells.length) ∧ ∀ ad, a' = some ad → w.heap.size ≤ ad.block) := Lib.hid ⟨h1, h2, fun ad e => (h3 ad e).1⟩
      clear hperm hodd hrg hmem h1 h2 h3
      subst e'
      go_wp2
      go_ret2
      exact ⟨_, c, rfl, ⟨a', c', rfl, HI.out.1, HI.out.2.1, HI.out.2.2⟩, HR.out.1, HR.out.2, hb⟩
    · intro x rem' w4 hp hrg4 hg4 hs4 hen
      have HP4 : Hid (((pre ++ [x]) ++ rem').Perm E) := Lib.hid (by simpa using (List.Perm.append_left pre hp).symm.trans hperm)
      have hlr : rem.length = rem'.length + 1 := by simpa using hp.length_eq
      have hml := hrg.left_eq
      rw [List.length_map] at hml
      have hb4 : Below w.heap.size w w4 := hb.grown hg4 hzr (fun k e => by have := Option.some.inj e; omega)
      have hi4 := hi.grown hg4
      have HM := HM1.out x
      have hox := HOF.out x
      have hal := HM3.out (ofN b x)
      have HO := Lib.hid (oddM_more (x := awayE b.spells.length (ofN b x)) hodd)
      rw [← oddL_snoc] at HO
      have HML := Lib.hid hml
      have HLR := Lib.hid hlr
      have HR4 := Lib.hid hrg4
      have HB4 := Lib.hid hb4
      have HI4 := Lib.hid hi4
      have NU4 := Lib.hid (NU.out (awayE b.spells.length (ofN b x)) (by omega) w4)
      generalize awayE b.spells.length (ofN b x) = y at HM hal HO NU4
      generalize ofN b x = ox at HM hen hox
      have hz4 := hb4.size
      have hr4 := hrg4.lt
      have hm4 := hrg4.map.lt
      clear hp hrg4 hml hlr hb4 hi4 hi hperm hrg hb hodd hg4
      go_upto_region 10 with (first | (refine wpList_entryE rfl (.tmp 31) rfl _ rr rfl hen ?_; go_frame) | (go_at_call 70; go_must ((with_reducible refine NU4.out.mono ?_); rintro e w5 ⟨v5, rfl, hi5, hb5⟩; dsimp only)))
      have hz5 := hb5.size
      have H4R := Lib.hid (HI4.out.mono hb5)
      have H5R := Lib.hid (hi5.behind (C := w.heap.size) hr4 hz4)
      obtain ⟨ab, cb, rfl, hsb, hcb, hnb⟩ := HI4.out.mono hb5
      obtain ⟨a5, c5, rfl, hs5, hc5, hn5'⟩ := hi5
      have hl5 := hs5.len
      have hlb := hsb.len
      have hB5 := Lib.hid (HB4.out.trans (hb5.mono hz4))
      have hrg5 := Lib.hid (HR4.out.same (hb5.block _ hm4) (hb5.block _ hr4))
      have HL5 : Hid (wr.rangeLeft bo rr = rem'.length + 1 ∧ w5.rangeLeft bo rr = rem'.length) := Lib.hid ⟨by rw [HML.out, HLR.out], by rw [hrg5.out.left_eq, List.length_map]⟩
      clear hnb hn5' hsb hs5 hb5
      by_cases hle : (bitsList y b.spells.length).length = (bitsList c b.spells.length).length
      · have CM := Lib.hid (Cmp_any a5 ab (bitsList y b.spells.length) (bitsList c b.spells.length) c5 cb w5 hle hlb hc5 hcb)
        have hF : Hid (fewer (bitsList y b.spells.length) (bitsList c b.spells.length) = less (bitsList y b.spells.length) (bitsList c b.spells.length)) := Lib.hid (by unfold fewer; rw [if_pos hle])
        generalize less (bitsList y b.spells.length) (bitsList c b.spells.length) = r at CM hF
        have e1 : (((bitsList y b.spells.length).length : Nat) : Int) = ((bitsList c b.spells.length).length : Nat) := by omega
        clear hle hc5 hcb
        cases r
        · have HO2 : Hid (OddM b.spells.length (oddL b (pre ++ [x])) c) := Lib.hid (by have := HO.out; rwa [hF.out] at this)
          go_wp2_with (go_at_call 71; go_must ((with_reducible refine CM.out.mono ?_); rintro e w6 ⟨q, rfl, hq, rfl⟩; have hq0 : ¬ q < 0 := (of_decide_eq_false hq.out); dsimp only))
          go_roundw
          case rel => exact ⟨pre ++ [x], rem', c, HP4.out, HO2.out, hc2, H4R.out, hrg5.out, hB5.out⟩
          case measure => have := HL5.out; omega
        · have HO2 : Hid (OddM b.spells.length (oddL b (pre ++ [x])) y) := Lib.hid (by have := HO.out; rwa [hF.out] at this)
          go_wp2_with (go_at_call 71; go_must ((with_reducible refine CM.out.mono ?_); rintro e w6 ⟨q, rfl, hq, rfl⟩; have hq0 : q < 0 := (of_decide_eq_true hq.out); dsimp only))
          go_roundw
          case rel => exact ⟨pre ++ [x], rem', y, HP4.out, HO2.out, hal, H5R.out, hrg5.out, hB5.out⟩
          case measure => have := HL5.out; omega
      · have hF : Hid (fewer (bitsList y b.spells.length) (bitsList c b.spells.length) = decide ((bitsList y b.spells.length).length < (bitsList c b.spells.length).length)) := Lib.hid (by unfold fewer; rw [if_neg hle])
        by_cases hlt : (bitsList y b.spells.length).length < (bitsList c b.spells.length).length
        · have HO2 : Hid (OddM b.spells.length (oddL b (pre ++ [x])) y) := Lib.hid (by have := HO.out; rwa [hF.out, decide_eq_true hlt, if_pos rfl] at this)
          have e1 : (((bitsList y b.spells.length).length : Nat) : Int) < ((bitsList c b.spells.length).length : Nat) := by omega
          clear hle hlt hF
          go_wp2
          go_roundw
          case rel => exact ⟨pre ++ [x], rem', y, HP4.out, HO2.out, hal, H5R.out, hrg5.out, hB5.out⟩
          case measure => have := HL5.out; omega
        · have HO2 : Hid (OddM b.spells.length (oddL b (pre ++ [x])) c) := Lib.hid (by have := HO.out; rwa [hF.out, decide_eq_false hlt, if_neg (by simp)] at this)
          have e1 : ¬ (((bitsList y b.spells.length).length : Nat) : Int) < ((bitsList c b.spells.length).length : Nat) := by omega
          have e2 : ((((bitsList y b.spells.length).length : Nat) : Int) == ((bitsList c b.spells.length).length : Nat)) = false := eqi_f (by omega)
          clear hle hlt hF
          go_wp2
          go_roundw
          case rel => exact ⟨pre ++ [x], rem', c, HP4.out, HO2.out, hc2, H4R.out, hrg5.out, hB5.out⟩
          case measure => have := HL5.out; omega
end Go.Proofs.YtklconegomgjaaaGreat
