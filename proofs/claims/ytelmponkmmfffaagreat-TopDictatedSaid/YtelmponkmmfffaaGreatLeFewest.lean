/- What is proved here: the contract of Fewest. Conditions: both letters are letters, and lie in memory. -/
import Derived.Test.YtelmponkmmfffaaGreatLrSameG
import Derived.Test.YtelmponkmmfffaaGreatLeOfG
import Derived.Test.YtelmponkmmfffaaGreatLeMakeG
set_option linter.unusedVariables false
set_option linter.unusedSimpArgs false
namespace Go.Proofs.YtelmponkmmfffaaGreat
open Go Go.RowKit Go.Shelf
attribute [local go_sem] Oper.semAt_some acts_index0 acts_index1 acts_index2 acts_index3 acts_field0 acts_field1 acts_field2 acts_field3
def lenOfV : Value → Nat
  | .slice _ n _ => n
  | _ => 0
theorem own_len {W : World} {base : Nat} {e : TypeId} {size n : Nat} {v : Value} {xs : List Value} (h : W.ownsRow base e size v n xs) : lenOfV v = n := by
  rcases h.2 with ⟨rfl, rfl⟩ | ⟨g, cap, cur, rfl, _⟩ <;> rfl
theorem RdW.over {W W' : World} {br bo : Nat} {aa ab : Option Addr} {ca cb : Nat} {a b : List ByteArray} (k : RdW W br bo aa ab ca cb a b) {B : Nat} (hb : Below B W W') (h1 : br < B) (h2 : bo < B) (hf : StrsC W' aa a) (hs : StrsC W' ab b) : RdW W' br bo aa ab ca cb a b := by
  obtain ⟨T, hT, hM⟩ := k.map
  exact ⟨(hb.block _ h1).trans k.blk, hf, hs, T, hT.below hb h2, hM⟩
/-- What lies in memory while Fewest goes through the marks. -/
structure FewI (w : World) (B P : Nat) (V : World) (br bo : Nat) (aa ab : Option Addr) (ca cb : Nat) (a b : List ByteArray) (v : Value) (i k : Nat) (M : List (Nat × ByteArray)) : Prop where
  rd : RdW V br bo aa ab ca cb a b
  p : V.heap[P]? = some (.cells #[.int .i64 (i : Int), .int .i64 (k : Int)] 141 (0, 0))
  own : V.ownsRow B 146 2 v M.length (flatC markCellsL M)
  bel : Below w.heap.size w V
  hi : i ≤ a.length
  hk : k ≤ b.length
  all : M ++ marksL a b i k = marksL a b 0 0
theorem FewI.next {w : World} {B P : Nat} {U U9 : World} {br bo : Nat} {aa ab : Option Addr} {ca cb : Nat} {a b : List ByteArray} {v7 : Value} {i k i' k' q : Nat} {wd : ByteArray} {M : List (Nat × ByteArray)}
    (hIA : ∀ V, Below w.heap.size w V → StrsC V aa a) (hIB : ∀ V, Below w.heap.size w V → StrsC V ab b)
    (h9 : U9 = (U.setCell ⟨P, 0, none⟩ (.int .i64 (i' : Int))).setCell ⟨P, 1, none⟩ (.int .i64 (k' : Int)))
    (hR : RdW U br bo aa ab ca cb a b) (hp : U.heap[P]? = some (.cells #[.int .i64 (i : Int), .int .i64 (k : Int)] 141 (0, 0)))
    (ho : U.ownsRow B 146 2 v7 (M.length + 1) (flatC markCellsL M ++ markCellsL (q, wd))) (hbw : Below w.heap.size w U) (hPB : P < B) (hwP : w.heap.size ≤ P) (h1 : br < P) (h2 : bo < P)
    (hi : i' ≤ a.length) (hk : k' ≤ b.length) (hn : marksL a b i k = (q, wd) :: marksL a b i' k') (hall : M ++ marksL a b i k = marksL a b 0 0) :
    FewI w B P U9 br bo aa ab ca cb a b v7 i' k' (M ++ [(q, wd)]) := by
  have hb9 : Below P U U9 := by rw [h9]; refine Below.setCell (Below.setCell (Below.refl P U) ?_ _) ?_ _ <;> exact Nat.le_refl _
  have hw9 : Below w.heap.size w U9 := hbw.trans (hb9.mono hwP)
  have hone : v7.ownBlock ≠ some P := fun e => by have := (ho.lt _ e).1; omega
  refine ⟨hR.over hb9 h1 h2 (hIA _ hw9) (hIB _ hw9), ?_, ?_, hw9, hi, hk, ?_⟩
  · rw [h9]
    exact blk_set 1 _ (blk_set 0 _ hp)
  · rw [h9, List.length_append, ← flatC_snoc]
    exact ownsRow_setCell_other (ownsRow_setCell_other ho hone _) hone _
  · rw [hn] at hall
    rw [← hall]
    simp
set_option maxRecDepth 100000 in
set_option maxHeartbeats 8000000 in
theorem LFewest_any (aa ab : Option Addr) (a b : List ByteArray) (ca cb : Nat) (w : World) (ha : letB a = true) (hb : letB b = true) (hia : StrsC w aa a) (hib : StrsC w ab b) :
    Calls Tryz.prog 24 #[.slice aa a.length ca, .slice ab b.length cb] w fun e w' => ∃ am cm, e = .returned (.tuple #[.slice am (marksL a b 0 0).length cm, .int .i64 (corrF a b), .int .i64 0]) ∧ SlOk am (marksL a b 0 0).length cm ∧ MarksC w' am (marksL a b 0 0) ∧ Below w.heap.size w w' := by
  obtain ⟨hla, -⟩ := let_word ha
  obtain ⟨hlb, -⟩ := let_word hb
  obtain ⟨X, hX⟩ : ∃ X : World, X = w.alloc (.cells #[.slice aa a.length ca, .slice ab b.length cb] 44) := ⟨_, rfl⟩
  have hwX : Below w.heap.size w X := by rw [hX]; exact (Below.refl _ w).alloc (Nat.le_refl _) _
  have g0 : X.heap[w.heap.size]? = some (.cells #[.slice aa a.length ca, .slice ab b.length cb] 44 (0, 0)) := by rw [hX]; exact alloc_at _ _ rfl
  have HG : Hid (∀ V, Below X.heap.size X V → (V.cell? ⟨w.heap.size, 0, none⟩ = some (.slice aa a.length ca) ∧ V.cell? ⟨w.heap.size, 1, none⟩ = some (.slice ab b.length cb) ∧ w.heap.size < V.heap.size)) := Lib.hid (fun V h => by
    have e := (h.block _ (lt_of_block g0)).trans g0
    exact ⟨blk_cell 0 e rfl, blk_cell 1 e rfl, lt_of_block e⟩)
  have LA := Lib.hid (fun V (h : Below w.heap.size w V) => LLettered_any aa a ca V (hia.mono h) ha)
  have LB := Lib.hid (fun V (h : Below w.heap.size w V) => LLettered_any ab b cb V (hib.mono h) hb)
  have LN := Lib.hid (fun V (h : Below w.heap.size w V) => LListen_any aa ab ca cb a b V (hia.mono h) (hib.mono h))
  have HIB := Lib.hid (fun V (h : Below w.heap.size w V) => hib.mono h)
  have HIA := Lib.hid (fun V (h : Below w.heap.size w V) => hia.mono h)
  have HX := Lib.hid hX
  clear hX hia hib g0
  go_enter Tryz.func24, Tryz.ntmps24
  go_upto_region 2 with (fail)
  rw [← HX.out]
  clear HX
  go_loopw [4, 6, 18] (fun r e i V => ∃ k : Nat, k ≤ 2 ∧ r = .slice none 0 0 ∧ e = .int .i64 0 ∧ i = .int .i64 k ∧ Below X.heap.size X V) (fun _ _ i _ => 2 - (intOf i).toNat)
  case atStart => exact ⟨0, by omega, rfl, rfl, rfl, Below.refl _ _⟩
  case round =>
    rename World => V
    obtain ⟨k, hk, rfl, rfl, rfl, hbV⟩ := hrel
    obtain ⟨y0, y1, yz⟩ := HG.out V hbV
    have hwV := hwX.trans (hbV.mono hwX.size)
    have hk3 : k = 0 ∨ k = 1 ∨ k = 2 := by omega
    rcases hk3 with rfl | rfl | rfl
    · go_wp2_with (go_at_call 50; go_must ((with_reducible refine (LA.out V hwV).mono ?_); rintro e w3 ⟨rfl, hb3⟩; dsimp only))
      go_roundw
      case rel => exact ⟨1, by omega, rfl, rfl, by go_num, hbV.trans (hb3.mono hbV.size)⟩
      case measure => simp [intOf]
    · go_wp2_with (go_at_call 50; go_must ((with_reducible refine (LB.out V hwV).mono ?_); rintro e w3 ⟨rfl, hb3⟩; dsimp only))
      go_roundw
      case rel => exact ⟨2, by omega, rfl, rfl, by go_num, hbV.trans (hb3.mono hbV.size)⟩
      case measure => simp [intOf]
    · have LN2 := Lib.hid (LN.out V hwV)
      clear LN LA LB HG y0 y1 yz
      go_upto_region 10 with (go_at_call 73; go_must ((with_reducible refine LN2.out.mono ?_); rintro e w3 ⟨br, bo, rfl, hR3, hb3, hbo3, hbr3⟩; dsimp only))
      have hw3 := hwV.trans (hb3.mono hwV.size)
      obtain ⟨Y, hY⟩ : ∃ Y : World, Y = w3.alloc (.cells #[.int .i64 0, .int .i64 0] 141) := ⟨_, rfl⟩
      rw [← hY]
      have hY3 : Below w3.heap.size w3 Y := by rw [hY]; exact (Below.refl _ _).alloc (Nat.le_refl _) _
      have gP : Y.heap[w3.heap.size]? = some (.cells #[.int .i64 0, .int .i64 0] 141 (0, 0)) := by rw [hY]; exact alloc_at _ _ rfl
      have hI0 : FewI w (w3.heap.size + 1) w3.heap.size Y br bo aa ab ca cb a b (.slice none 0 0) 0 0 [] :=
        ⟨hR3.below hY3, gP, ⟨rfl, .inl ⟨rfl, rfl⟩⟩, hw3.trans (hY3.mono hw3.size), Nat.zero_le _, Nat.zero_le _, rfl⟩
      have hwB := hw3.size
      have hbo9 : w.heap.size ≤ bo := Nat.le_trans (hwV.size) hbo3
      have hbo8 : bo < w3.heap.size := hR3.bo_lt
      have hbr8 : br < w3.heap.size := hR3.br_lt
      have hys : w3.heap.size + 1 ≤ Y.heap.size := by rw [hY]; simp
      have HYS := Lib.hid hys
      have HML := Lib.hid (show (marksL a b 0 0).length ≤ 30 by have := marks_len a b (remP a b (0, 0)) 0 0; unfold marksL; unfold remP at this ⊢; simp only at this ⊢; omega)
      clear hY hY3 gP hR3 LN2 hys hbV hwV hb3 hbo3 hw3
      go_loopw [4] (fun v V => ∃ i k M, FewI w (w3.heap.size + 1) w3.heap.size V br bo aa ab ca cb a b v i k M ) (fun v _ => 31 - lenOfV v)
      case atStart => exact ⟨0, 0, [], hI0⟩
      case round =>
        clear hI0
        rename World => V
        obtain ⟨i, k, M, hI⟩ := hrel
        have hML := hI.all
        obtain ⟨L, -⟩ := RBoth_any br bo aa ab ca cb a b (by omega) (by omega) _ (i, k) ⟨hI.hi, hI.hk⟩ (Nat.lt_succ_self _)
        have LL := Lib.hid (show Calls Tryz.prog 74 #[.pointer (some ⟨br, 0, none⟩), plV (i, k)] V fun e w' => e = .returned (.tuple #[.int .i64 (leftP a b i k).2, .int .i64 ((leftP a b i k).1 : Int)]) ∧ V.grownBy w' (some bo) ∧ RdW w' br bo aa ab ca cb a b ∧ KeepL a b (remP a b (i, k)) bo V w' from L V hI.rd)
        have p0 := blk_cell 0 hI.p rfl
        have p1 := blk_cell 1 hI.p rfl
        have pz := lt_of_block hI.p
        simp only [List.getElem_toArray, List.getElem_cons_zero, List.getElem_cons_succ] at p0 p1
        have hGP := Lib.hid (fun U (h : V.grownBy U (some bo)) => grown_keep h hI.p (hI.rd.other hI.p))
        have hGO := Lib.hid (fun U (h : V.grownBy U (some bo)) => (by obtain ⟨T, hT, _⟩ := hI.rd.map; exact own_grown hI.own hT h : U.ownsRow (w3.heap.size + 1) 146 2 _ M.length (flatC markCellsL M)))
        have hGB := Lib.hid (fun U (h : V.grownBy U (some bo)) => hI.bel.grown h hI.bel.size (fun k e => by have := Option.some.inj e; omega))
        have hi := hI.hi
        have hk := hI.hk
        have hML := Lib.hid hI.all
        clear hI L
        by_cases hend : i = a.length ∧ k = b.length
        · obtain ⟨rfl, rfl⟩ := hend
          have hlf : leftP a b a.length b.length = (4, 0) := by rw [leftP_eq a b _ _ (Nat.le_refl _) (Nat.le_refl _)]; simp
          rw [hlf] at LL
          have hMe : M = marksL a b 0 0 := by simpa [marks_end] using hML.out
          clear hML
          have HMe := Lib.hid hMe
          clear hMe
          have CR := Lib.hid (fun U (h : RdW U br bo aa ab ca cb a b) => RCorr0_any (by omega) (by omega) U h)
          clear hi hk
          go_upto_region 12 with (go_at_call 74; go_must ((with_reducible refine LL.out.mono ?_); rintro e w4 ⟨rfl, hg4, hR4, hn4⟩; dsimp only))
          have hb4 := hGB.out w4 hg4
          have ho4 := hGO.out w4 hg4
          have CR2 := Lib.hid (CR.out w4 hR4)
          obtain ⟨T, hT, hM⟩ := hR4.map
          obtain ⟨am, cm, hv4, s1, s2⟩ := MarksC.of_own ho4
          subst hv4
          have HO4 := Lib.hid ho4
          clear LL CR hM hg4 hn4 ho4 p0 p1 pz
          go_wp2_with (go_at_call 75; go_must ((with_reducible refine CR2.out.mono ?_); rintro e w5 ⟨rfl, hg5, hR5⟩; dsimp only))
          go_ret3
          obtain ⟨am2, cm2, hv5, s3, s4⟩ := MarksC.of_own (own_grown HO4.out hT hg5)
          simp only [Value.slice.injEq] at hv5
          obtain ⟨rfl, -, rfl⟩ := hv5
          rw [← HMe.out]
          exact ⟨_, _, rfl, s3, s4, hb4.grown hg5 hb4.size (fun k e => by have := Option.some.inj e; omega)⟩
        · obtain ⟨hq4, i', k', c, hst⟩ := left_steps a b i k hi hk hend
          obtain ⟨j1, j2, j3, j4, j5⟩ := stepP_in hst hi hk
          have hnx := marks_next a b i k i' k' c hi hk hend hst
          have hq := fun U (h : RdW U br bo aa ab ca cb a b) => RStep_any br bo aa ab ca cb a b (leftP a b i k).1 hq4 i k U h hi hk (by omega) (by omega)
          have hsv : stepV a b (leftP a b i k).1 i k = .tuple #[plV (i', k'), .int .i64 c] := by unfold stepV; rw [hst]
          rw [hsv] at hq
          have hkk : (leftP a b i k).1 = 1 ∨ (leftP a b i k).1 = 3 → k < b.length := fun h => by
            unfold stepP at hst
            rcases h with e | e <;> rw [e] at hst <;> simp only at hst <;> split at hst
            · rename_i h2; exact h2.2.1
            · cases hst
            · rename_i h2; exact h2
            · cases hst
          clear hst hsv
          generalize leftP a b i k = pr at *
          obtain ⟨kind, nn⟩ := pr
          simp only at hq4 hnx hq LL hkk
          have ST := Lib.hid hq
          have HNX := Lib.hid hnx
          have AC := Lib.hid LActs_any
          clear hq hnx
          have h4 : kind = 0 ∨ kind = 1 ∨ kind = 2 ∨ kind = 3 := by omega
          rcases h4 with rfl | rfl | rfl | rfl
          · clear hkk
            go_upto_region 16 with (first
              | (go_at_call 76; go_must ((with_reducible refine (AC.out _).mono ?_); rintro e w5 ⟨rfl, hb5⟩; dsimp only))
              | (go_at_call 74; go_must ((with_reducible refine LL.out.mono ?_); rintro e w4 ⟨rfl, hg4, hR4, hn4⟩; dsimp only)))
            have hb4 := hGB.out w4 hg4
            have ho4 := hGO.out w4 hg4
            have gp4 := hGP.out w4 hg4
            have h45 : Below w4.heap.size w4 w5 := ((Below.refl _ w4).alloc (Nat.le_refl _) (.cells #[.int .i64 0, .string ⟨#[]⟩] 146)).trans (hb5.mono (by simp))
            have gm5 : w5.heap[w4.heap.size]? = some (.cells #[.int .i64 0, .string ⟨#[]⟩] 146 (0, 0)) := (hb5.block _ (by simp)).trans (alloc_at _ _ rfl)
            have hzP := lt_of_block gp4
            have ho5 := own_below ho4 h45
            have gp5 := (h45.block _ hzP).trans gp4
            have hb5w := hb4.trans (h45.mono hb4.size)
            have hz5 := lt_of_block gm5
            have hl5 : ∀ g, u4.ownBlock = some g → w3.heap.size + 1 ≤ g ∧ g < w4.heap.size := fun g e => ho4.lt g e
            have HR4 := Lib.hid hR4
            have H45 := Lib.hid h45
            clear LL hg4 hn4 hR4 ho4 gp4 hb5 p0 p1 pz hGP hGO hGB h45 AC
            have hbk : markW b 0 k = noW := by unfold markW; rw [if_neg (by omega)]
            rw [hbk] at HNX
            obtain ⟨wd, hwd⟩ : ∃ wd : ByteArray, wd = noW := ⟨_, rfl⟩
            have hwe : (⟨#[]⟩ : ByteArray) = wd := hwd.symm
            rw [← hwd] at HNX
            rw [hwe] at gm5
            obtain ⟨Z, hZ⟩ : ∃ Z : World, Z = w5 := ⟨_, rfl⟩
            rw [← hZ]
            have hZm : Z.heap[w4.heap.size]? = some (.cells #[.int .i64 0, .string wd] 146 (0, 0)) := by rw [hZ]; exact gm5
            have hZ4 : Below w4.heap.size w4 Z := by rw [hZ]; exact H45.out
            have hZo : Z.ownsRow (w3.heap.size + 1) 146 2 u4 M.length (flatC markCellsL M) := by rw [hZ]; exact ho5
            have hZp : Z.heap[w3.heap.size]? = some (.cells #[.int .i64 (i : Int), .int .i64 (k : Int)] 141 (0, 0)) := by rw [hZ]; exact gp5
            clear hZ ho5 gp5 gm5 hb5w hwe hwd
            have hZR := HR4.out.below hZ4
            have hZw := hb4.trans (hZ4.mono hb4.size)
            have hZz := hZw.size
            have hz4 := lt_of_block hZm
            have m0 := blk_cell 0 hZm rfl
            have m1 := blk_cell 1 hZm rfl
            simp only [List.getElem_toArray, List.getElem_cons_zero, List.getElem_cons_succ] at m0 m1
            have HZR := Lib.hid hZR
            have HZO := Lib.hid hZo
            have HZP := Lib.hid hZp
            have hlm : M.length + 1 ≤ 30 := by have h1 := congrArg List.length hML.out; rw [HNX.out, List.length_append, List.length_cons] at h1; have := HML.out; omega
            clear hZR hZo hZp hZm HR4 H45
            go_upto_region 17 with (at_builtin; go_must (refine wpList_app (.tmp 55) (.tmp 57) E_markL rfl rfl rfl rfl (w3.heap.size + 1) M.length 1 (flatC markCellsL M) (markCellsL (0, wd)) (HZO.out.alloc _) (SrcAt.markL _ 0 wd _) (by omega) (by decide) (by simp; omega) ?_; intro v7 w7 ho7 hg7 _; simp only [Act.put, List.setIfInBounds_toArray, List.set_cons_succ, List.set_cons_zero]))
            have hb7 : Below (w3.heap.size + 1) Z w7 := app_next (Below.refl (w3.heap.size + 1) Z) (by omega) (Nat.le_refl _) HZO.out hg7
            have hw7 := hZw.trans (hb7.mono (by omega))
            have gp7 := (hb7.block _ (Nat.lt_succ_self _)).trans HZP.out
            have hR7 := HZR.out.over hb7 (by omega) (by omega) (HIA.out w7 hw7) (HIB.out w7 hw7)
            have S7 : Hid (Calls Tryz.prog 77 #[.pointer (some ⟨br, 0, none⟩), .int .i64 0, .agg #[.int .i64 (i : Int), .int .i64 (k : Int)]] w7 fun e w' => e = .returned (.tuple #[.agg #[.int .i64 (i' : Int), .int .i64 (k' : Int)], .int .i64 c]) ∧ Below w7.heap.size w7 w') := Lib.hid (ST.out w7 hR7)
            have p0 := blk_cell 0 gp7 rfl
            have p1 := blk_cell 1 gp7 rfl
            have pz := lt_of_block gp7
            simp only [List.getElem_toArray, List.getElem_cons_zero, List.getElem_cons_succ] at p0 p1
            have KP : Hid (∀ U, Below w7.heap.size w7 U → U.heap[w3.heap.size]? = some (.cells #[.int .i64 (i : Int), .int .i64 (k : Int)] 141 (0, 0))) := Lib.hid (fun U h => (h.block _ pz).trans gp7)
            have HR7 := Lib.hid hR7
            have HO7 := Lib.hid ho7
            have E1 := own_len HZO.out
            have E2 := own_len ho7
            clear hb7 gp7 hR7 ho7 hg7 m0 m1 HZR HZO HZP ST
            go_wp2_with (go_at_call 77; go_must ((with_reducible refine S7.out.mono ?_); rintro e w8 ⟨rfl, hb8⟩; have gp8 := KP.out w8 hb8; have q0 := blk_cell 0 gp8 rfl; have q1 := blk_cell 1 gp8 rfl; have qz := lt_of_block gp8; have qf0 := blk_free 0 gp8; have qf1 := blk_free 1 gp8; simp only [List.getElem_toArray, List.getElem_cons_zero, List.getElem_cons_succ] at q0 q1; dsimp only))
            go_roundw
            case rel => exact ⟨i', k', M ++ [(0, wd)], FewI.next HIA.out HIB.out rfl (HR7.out.below hb8) gp8 (own_below HO7.out hb8) (hw7.trans (hb8.mono hw7.size)) (Nat.lt_succ_self _) hwB hbr8 hbo8 j1 j2 HNX.out hML.out⟩
            case measure =>
              show 31 - lenOfV v7 < 31 - lenOfV u4
              omega
          · have hkl : k < b.length := hkk (by omega)
            clear hkk
            go_upto_region 15 with (first
              | (go_at_call 76; go_must ((with_reducible refine (AC.out _).mono ?_); rintro e w5 ⟨rfl, hb5⟩; dsimp only))
              | (go_at_call 74; go_must ((with_reducible refine LL.out.mono ?_); rintro e w4 ⟨rfl, hg4, hR4, hn4⟩; dsimp only)))
            have hb4 := hGB.out w4 hg4
            have ho4 := hGO.out w4 hg4
            have gp4 := hGP.out w4 hg4
            have h45 : Below w4.heap.size w4 w5 := ((Below.refl _ w4).alloc (Nat.le_refl _) (.cells #[.int .i64 1, .string ⟨#[]⟩] 146)).trans (hb5.mono (by simp))
            have gm5 : w5.heap[w4.heap.size]? = some (.cells #[.int .i64 1, .string ⟨#[]⟩] 146 (0, 0)) := (hb5.block _ (by simp)).trans (alloc_at _ _ rfl)
            have hzP := lt_of_block gp4
            have ho5 := own_below ho4 h45
            have gp5 := (h45.block _ hzP).trans gp4
            have hb5w := hb4.trans (h45.mono hb4.size)
            have hz5 := lt_of_block gm5
            have hl5 : ∀ g, u4.ownBlock = some g → w3.heap.size + 1 ≤ g ∧ g < w4.heap.size := fun g e => ho4.lt g e
            have HR4 := Lib.hid hR4
            have H45 := Lib.hid h45
            clear LL hg4 hn4 hR4 ho4 gp4 hb5 p0 p1 pz hGP hGO hGB h45 AC
            obtain ⟨bb, ob, eb, hbz, hbc⟩ := HIB.out w5 hb5w k hkl
            subst eb
            have hbk : markW b 1 k = b[k] := by unfold markW; rw [if_pos (by omega), List.getElem?_eq_getElem hkl, Option.getD_some]
            rw [hbk] at HNX
            have p1 := blk_cell 1 gp5 rfl
            have pz := lt_of_block gp5
            have m1 := blk_free 1 gm5
            have m2 := blk_cell 1 gm5 rfl
            simp only [List.getElem_toArray, List.getElem_cons_zero, List.getElem_cons_succ] at p1 m2
            have hklI : (k : Int) < b.length := by omega
            have HO5 := Lib.hid ho5
            clear ho5
            generalize b[k] = wd at *
            go_upto_region 16 with (fail)
            obtain ⟨Z, hZ⟩ : ∃ Z : World, Z = w5.setCell ⟨w4.heap.size, 1, none⟩ (.string wd) := ⟨_, rfl⟩
            rw [← hZ]
            have hZm : Z.heap[w4.heap.size]? = some (.cells #[.int .i64 1, .string wd] 146 (0, 0)) := by rw [hZ]; exact blk_set 1 _ gm5
            have hZb : ∀ B, B ≤ w4.heap.size → Below B w5 Z := fun B hB => by rw [hZ]; exact (Below.refl _ _).setCell hB _
            have hZ4 : Below w4.heap.size w4 Z := H45.out.trans (hZb _ (Nat.le_refl _))
            have hZo : Z.ownsRow (w3.heap.size + 1) 146 2 u4 M.length (flatC markCellsL M) := by rw [hZ]; exact ownsRow_setCell_other HO5.out (fun e => by have := (hl5 _ e).2; simp only at this; omega) _
            have hZp := ((hZb _ (Nat.le_refl _)).block _ hzP).trans gp5
            clear hZ hZb p1 pz m1 m2 hbc hbz HO5 gp5 gm5 hb5w hklI hkl
            have hZR := HR4.out.below hZ4
            have hZw := hb4.trans (hZ4.mono hb4.size)
            have hZz := hZw.size
            have hz4 := lt_of_block hZm
            have m0 := blk_cell 0 hZm rfl
            have m1 := blk_cell 1 hZm rfl
            simp only [List.getElem_toArray, List.getElem_cons_zero, List.getElem_cons_succ] at m0 m1
            have HZR := Lib.hid hZR
            have HZO := Lib.hid hZo
            have HZP := Lib.hid hZp
            have hlm : M.length + 1 ≤ 30 := by have h1 := congrArg List.length hML.out; rw [HNX.out, List.length_append, List.length_cons] at h1; have := HML.out; omega
            clear hZR hZo hZp hZm HR4 H45
            go_upto_region 17 with (at_builtin; go_must (refine wpList_app (.tmp 55) (.tmp 57) E_markL rfl rfl rfl rfl (w3.heap.size + 1) M.length 1 (flatC markCellsL M) (markCellsL (1, wd)) (HZO.out.alloc _) (SrcAt.markL _ 1 wd _) (by omega) (by decide) (by simp; omega) ?_; intro v7 w7 ho7 hg7 _; simp only [Act.put, List.setIfInBounds_toArray, List.set_cons_succ, List.set_cons_zero]))
            have hb7 : Below (w3.heap.size + 1) Z w7 := app_next (Below.refl (w3.heap.size + 1) Z) (by omega) (Nat.le_refl _) HZO.out hg7
            have hw7 := hZw.trans (hb7.mono (by omega))
            have gp7 := (hb7.block _ (Nat.lt_succ_self _)).trans HZP.out
            have hR7 := HZR.out.over hb7 (by omega) (by omega) (HIA.out w7 hw7) (HIB.out w7 hw7)
            have S7 : Hid (Calls Tryz.prog 77 #[.pointer (some ⟨br, 0, none⟩), .int .i64 1, .agg #[.int .i64 (i : Int), .int .i64 (k : Int)]] w7 fun e w' => e = .returned (.tuple #[.agg #[.int .i64 (i' : Int), .int .i64 (k' : Int)], .int .i64 c]) ∧ Below w7.heap.size w7 w') := Lib.hid (ST.out w7 hR7)
            have p0 := blk_cell 0 gp7 rfl
            have p1 := blk_cell 1 gp7 rfl
            have pz := lt_of_block gp7
            simp only [List.getElem_toArray, List.getElem_cons_zero, List.getElem_cons_succ] at p0 p1
            have KP : Hid (∀ U, Below w7.heap.size w7 U → U.heap[w3.heap.size]? = some (.cells #[.int .i64 (i : Int), .int .i64 (k : Int)] 141 (0, 0))) := Lib.hid (fun U h => (h.block _ pz).trans gp7)
            have HR7 := Lib.hid hR7
            have HO7 := Lib.hid ho7
            have E1 := own_len HZO.out
            have E2 := own_len ho7
            clear hb7 gp7 hR7 ho7 hg7 m0 m1 HZR HZO HZP ST
            go_wp2_with (go_at_call 77; go_must ((with_reducible refine S7.out.mono ?_); rintro e w8 ⟨rfl, hb8⟩; have gp8 := KP.out w8 hb8; have q0 := blk_cell 0 gp8 rfl; have q1 := blk_cell 1 gp8 rfl; have qz := lt_of_block gp8; have qf0 := blk_free 0 gp8; have qf1 := blk_free 1 gp8; simp only [List.getElem_toArray, List.getElem_cons_zero, List.getElem_cons_succ] at q0 q1; dsimp only))
            go_roundw
            case rel => exact ⟨i', k', M ++ [(1, wd)], FewI.next HIA.out HIB.out rfl (HR7.out.below hb8) gp8 (own_below HO7.out hb8) (hw7.trans (hb8.mono hw7.size)) (Nat.lt_succ_self _) hwB hbr8 hbo8 j1 j2 HNX.out hML.out⟩
            case measure =>
              show 31 - lenOfV v7 < 31 - lenOfV u4
              omega
          · clear hkk
            go_upto_region 16 with (first
              | (go_at_call 76; go_must ((with_reducible refine (AC.out _).mono ?_); rintro e w5 ⟨rfl, hb5⟩; dsimp only))
              | (go_at_call 74; go_must ((with_reducible refine LL.out.mono ?_); rintro e w4 ⟨rfl, hg4, hR4, hn4⟩; dsimp only)))
            have hb4 := hGB.out w4 hg4
            have ho4 := hGO.out w4 hg4
            have gp4 := hGP.out w4 hg4
            have h45 : Below w4.heap.size w4 w5 := ((Below.refl _ w4).alloc (Nat.le_refl _) (.cells #[.int .i64 2, .string ⟨#[]⟩] 146)).trans (hb5.mono (by simp))
            have gm5 : w5.heap[w4.heap.size]? = some (.cells #[.int .i64 2, .string ⟨#[]⟩] 146 (0, 0)) := (hb5.block _ (by simp)).trans (alloc_at _ _ rfl)
            have hzP := lt_of_block gp4
            have ho5 := own_below ho4 h45
            have gp5 := (h45.block _ hzP).trans gp4
            have hb5w := hb4.trans (h45.mono hb4.size)
            have hz5 := lt_of_block gm5
            have hl5 : ∀ g, u4.ownBlock = some g → w3.heap.size + 1 ≤ g ∧ g < w4.heap.size := fun g e => ho4.lt g e
            have HR4 := Lib.hid hR4
            have H45 := Lib.hid h45
            clear LL hg4 hn4 hR4 ho4 gp4 hb5 p0 p1 pz hGP hGO hGB h45 AC
            have hbk : markW b 2 k = noW := by unfold markW; rw [if_neg (by omega)]
            rw [hbk] at HNX
            obtain ⟨wd, hwd⟩ : ∃ wd : ByteArray, wd = noW := ⟨_, rfl⟩
            have hwe : (⟨#[]⟩ : ByteArray) = wd := hwd.symm
            rw [← hwd] at HNX
            rw [hwe] at gm5
            obtain ⟨Z, hZ⟩ : ∃ Z : World, Z = w5 := ⟨_, rfl⟩
            rw [← hZ]
            have hZm : Z.heap[w4.heap.size]? = some (.cells #[.int .i64 2, .string wd] 146 (0, 0)) := by rw [hZ]; exact gm5
            have hZ4 : Below w4.heap.size w4 Z := by rw [hZ]; exact H45.out
            have hZo : Z.ownsRow (w3.heap.size + 1) 146 2 u4 M.length (flatC markCellsL M) := by rw [hZ]; exact ho5
            have hZp : Z.heap[w3.heap.size]? = some (.cells #[.int .i64 (i : Int), .int .i64 (k : Int)] 141 (0, 0)) := by rw [hZ]; exact gp5
            clear hZ ho5 gp5 gm5 hb5w hwe hwd
            have hZR := HR4.out.below hZ4
            have hZw := hb4.trans (hZ4.mono hb4.size)
            have hZz := hZw.size
            have hz4 := lt_of_block hZm
            have m0 := blk_cell 0 hZm rfl
            have m1 := blk_cell 1 hZm rfl
            simp only [List.getElem_toArray, List.getElem_cons_zero, List.getElem_cons_succ] at m0 m1
            have HZR := Lib.hid hZR
            have HZO := Lib.hid hZo
            have HZP := Lib.hid hZp
            have hlm : M.length + 1 ≤ 30 := by have h1 := congrArg List.length hML.out; rw [HNX.out, List.length_append, List.length_cons] at h1; have := HML.out; omega
            clear hZR hZo hZp hZm HR4 H45
            go_upto_region 17 with (at_builtin; go_must (refine wpList_app (.tmp 55) (.tmp 57) E_markL rfl rfl rfl rfl (w3.heap.size + 1) M.length 1 (flatC markCellsL M) (markCellsL (2, wd)) (HZO.out.alloc _) (SrcAt.markL _ 2 wd _) (by omega) (by decide) (by simp; omega) ?_; intro v7 w7 ho7 hg7 _; simp only [Act.put, List.setIfInBounds_toArray, List.set_cons_succ, List.set_cons_zero]))
            have hb7 : Below (w3.heap.size + 1) Z w7 := app_next (Below.refl (w3.heap.size + 1) Z) (by omega) (Nat.le_refl _) HZO.out hg7
            have hw7 := hZw.trans (hb7.mono (by omega))
            have gp7 := (hb7.block _ (Nat.lt_succ_self _)).trans HZP.out
            have hR7 := HZR.out.over hb7 (by omega) (by omega) (HIA.out w7 hw7) (HIB.out w7 hw7)
            have S7 : Hid (Calls Tryz.prog 77 #[.pointer (some ⟨br, 0, none⟩), .int .i64 2, .agg #[.int .i64 (i : Int), .int .i64 (k : Int)]] w7 fun e w' => e = .returned (.tuple #[.agg #[.int .i64 (i' : Int), .int .i64 (k' : Int)], .int .i64 c]) ∧ Below w7.heap.size w7 w') := Lib.hid (ST.out w7 hR7)
            have p0 := blk_cell 0 gp7 rfl
            have p1 := blk_cell 1 gp7 rfl
            have pz := lt_of_block gp7
            simp only [List.getElem_toArray, List.getElem_cons_zero, List.getElem_cons_succ] at p0 p1
            have KP : Hid (∀ U, Below w7.heap.size w7 U → U.heap[w3.heap.size]? = some (.cells #[.int .i64 (i : Int), .int .i64 (k : Int)] 141 (0, 0))) := Lib.hid (fun U h => (h.block _ pz).trans gp7)
            have HR7 := Lib.hid hR7
            have HO7 := Lib.hid ho7
            have E1 := own_len HZO.out
            have E2 := own_len ho7
            clear hb7 gp7 hR7 ho7 hg7 m0 m1 HZR HZO HZP ST
            go_wp2_with (go_at_call 77; go_must ((with_reducible refine S7.out.mono ?_); rintro e w8 ⟨rfl, hb8⟩; have gp8 := KP.out w8 hb8; have q0 := blk_cell 0 gp8 rfl; have q1 := blk_cell 1 gp8 rfl; have qz := lt_of_block gp8; have qf0 := blk_free 0 gp8; have qf1 := blk_free 1 gp8; simp only [List.getElem_toArray, List.getElem_cons_zero, List.getElem_cons_succ] at q0 q1; dsimp only))
            go_roundw
            case rel => exact ⟨i', k', M ++ [(2, wd)], FewI.next HIA.out HIB.out rfl (HR7.out.below hb8) gp8 (own_below HO7.out hb8) (hw7.trans (hb8.mono hw7.size)) (Nat.lt_succ_self _) hwB hbr8 hbo8 j1 j2 HNX.out hML.out⟩
            case measure =>
              show 31 - lenOfV v7 < 31 - lenOfV u4
              omega
          · have hkl : k < b.length := hkk (by omega)
            clear hkk
            go_upto_region 15 with (first
              | (go_at_call 76; go_must ((with_reducible refine (AC.out _).mono ?_); rintro e w5 ⟨rfl, hb5⟩; dsimp only))
              | (go_at_call 74; go_must ((with_reducible refine LL.out.mono ?_); rintro e w4 ⟨rfl, hg4, hR4, hn4⟩; dsimp only)))
            have hb4 := hGB.out w4 hg4
            have ho4 := hGO.out w4 hg4
            have gp4 := hGP.out w4 hg4
            have h45 : Below w4.heap.size w4 w5 := ((Below.refl _ w4).alloc (Nat.le_refl _) (.cells #[.int .i64 3, .string ⟨#[]⟩] 146)).trans (hb5.mono (by simp))
            have gm5 : w5.heap[w4.heap.size]? = some (.cells #[.int .i64 3, .string ⟨#[]⟩] 146 (0, 0)) := (hb5.block _ (by simp)).trans (alloc_at _ _ rfl)
            have hzP := lt_of_block gp4
            have ho5 := own_below ho4 h45
            have gp5 := (h45.block _ hzP).trans gp4
            have hb5w := hb4.trans (h45.mono hb4.size)
            have hz5 := lt_of_block gm5
            have hl5 : ∀ g, u4.ownBlock = some g → w3.heap.size + 1 ≤ g ∧ g < w4.heap.size := fun g e => ho4.lt g e
            have HR4 := Lib.hid hR4
            have H45 := Lib.hid h45
            clear LL hg4 hn4 hR4 ho4 gp4 hb5 p0 p1 pz hGP hGO hGB h45 AC
            obtain ⟨bb, ob, eb, hbz, hbc⟩ := HIB.out w5 hb5w k hkl
            subst eb
            have hbk : markW b 3 k = b[k] := by unfold markW; rw [if_pos (by omega), List.getElem?_eq_getElem hkl, Option.getD_some]
            rw [hbk] at HNX
            have p1 := blk_cell 1 gp5 rfl
            have pz := lt_of_block gp5
            have m1 := blk_free 1 gm5
            have m2 := blk_cell 1 gm5 rfl
            simp only [List.getElem_toArray, List.getElem_cons_zero, List.getElem_cons_succ] at p1 m2
            have hklI : (k : Int) < b.length := by omega
            have HO5 := Lib.hid ho5
            clear ho5
            generalize b[k] = wd at *
            go_upto_region 16 with (fail)
            obtain ⟨Z, hZ⟩ : ∃ Z : World, Z = w5.setCell ⟨w4.heap.size, 1, none⟩ (.string wd) := ⟨_, rfl⟩
            rw [← hZ]
            have hZm : Z.heap[w4.heap.size]? = some (.cells #[.int .i64 3, .string wd] 146 (0, 0)) := by rw [hZ]; exact blk_set 1 _ gm5
            have hZb : ∀ B, B ≤ w4.heap.size → Below B w5 Z := fun B hB => by rw [hZ]; exact (Below.refl _ _).setCell hB _
            have hZ4 : Below w4.heap.size w4 Z := H45.out.trans (hZb _ (Nat.le_refl _))
            have hZo : Z.ownsRow (w3.heap.size + 1) 146 2 u4 M.length (flatC markCellsL M) := by rw [hZ]; exact ownsRow_setCell_other HO5.out (fun e => by have := (hl5 _ e).2; simp only at this; omega) _
            have hZp := ((hZb _ (Nat.le_refl _)).block _ hzP).trans gp5
            clear hZ hZb p1 pz m1 m2 hbc hbz HO5 gp5 gm5 hb5w hklI hkl
            have hZR := HR4.out.below hZ4
            have hZw := hb4.trans (hZ4.mono hb4.size)
            have hZz := hZw.size
            have hz4 := lt_of_block hZm
            have m0 := blk_cell 0 hZm rfl
            have m1 := blk_cell 1 hZm rfl
            simp only [List.getElem_toArray, List.getElem_cons_zero, List.getElem_cons_succ] at m0 m1
            have HZR := Lib.hid hZR
            have HZO := Lib.hid hZo
            have HZP := Lib.hid hZp
            have hlm : M.length + 1 ≤ 30 := by have h1 := congrArg List.length hML.out; rw [HNX.out, List.length_append, List.length_cons] at h1; have := HML.out; omega
            clear hZR hZo hZp hZm HR4 H45
            go_upto_region 17 with (at_builtin; go_must (refine wpList_app (.tmp 55) (.tmp 57) E_markL rfl rfl rfl rfl (w3.heap.size + 1) M.length 1 (flatC markCellsL M) (markCellsL (3, wd)) (HZO.out.alloc _) (SrcAt.markL _ 3 wd _) (by omega) (by decide) (by simp; omega) ?_; intro v7 w7 ho7 hg7 _; simp only [Act.put, List.setIfInBounds_toArray, List.set_cons_succ, List.set_cons_zero]))
            have hb7 : Below (w3.heap.size + 1) Z w7 := app_next (Below.refl (w3.heap.size + 1) Z) (by omega) (Nat.le_refl _) HZO.out hg7
            have hw7 := hZw.trans (hb7.mono (by omega))
            have gp7 := (hb7.block _ (Nat.lt_succ_self _)).trans HZP.out
            have hR7 := HZR.out.over hb7 (by omega) (by omega) (HIA.out w7 hw7) (HIB.out w7 hw7)
            have S7 : Hid (Calls Tryz.prog 77 #[.pointer (some ⟨br, 0, none⟩), .int .i64 3, .agg #[.int .i64 (i : Int), .int .i64 (k : Int)]] w7 fun e w' => e = .returned (.tuple #[.agg #[.int .i64 (i' : Int), .int .i64 (k' : Int)], .int .i64 c]) ∧ Below w7.heap.size w7 w') := Lib.hid (ST.out w7 hR7)
            have p0 := blk_cell 0 gp7 rfl
            have p1 := blk_cell 1 gp7 rfl
            have pz := lt_of_block gp7
            simp only [List.getElem_toArray, List.getElem_cons_zero, List.getElem_cons_succ] at p0 p1
            have KP : Hid (∀ U, Below w7.heap.size w7 U → U.heap[w3.heap.size]? = some (.cells #[.int .i64 (i : Int), .int .i64 (k : Int)] 141 (0, 0))) := Lib.hid (fun U h => (h.block _ pz).trans gp7)
            have HR7 := Lib.hid hR7
            have HO7 := Lib.hid ho7
            have E1 := own_len HZO.out
            have E2 := own_len ho7
            clear hb7 gp7 hR7 ho7 hg7 m0 m1 HZR HZO HZP ST
            go_wp2_with (go_at_call 77; go_must ((with_reducible refine S7.out.mono ?_); rintro e w8 ⟨rfl, hb8⟩; have gp8 := KP.out w8 hb8; have q0 := blk_cell 0 gp8 rfl; have q1 := blk_cell 1 gp8 rfl; have qz := lt_of_block gp8; have qf0 := blk_free 0 gp8; have qf1 := blk_free 1 gp8; simp only [List.getElem_toArray, List.getElem_cons_zero, List.getElem_cons_succ] at q0 q1; dsimp only))
            go_roundw
            case rel => exact ⟨i', k', M ++ [(3, wd)], FewI.next HIA.out HIB.out rfl (HR7.out.below hb8) gp8 (own_below HO7.out hb8) (hw7.trans (hb8.mono hw7.size)) (Nat.lt_succ_self _) hwB hbr8 hbo8 j1 j2 HNX.out hML.out⟩
            case measure =>
              show 31 - lenOfV v7 < 31 - lenOfV u4
              omega
end Go.Proofs.YtelmponkmmfffaaGreat
