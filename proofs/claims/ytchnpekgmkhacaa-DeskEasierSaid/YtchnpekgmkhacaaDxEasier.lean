/- What is proved here: the walk of DeskEasier: it returns true, and turns nothing that was there. Conditions: the hall lies in memory. -/
import Derived.Test.YtchnpekgmkhacaaDxCopy
import Derived.Test.YtchnpekgmkhacaaEndG
set_option linter.unusedVariables false
set_option linter.unusedSimpArgs false
namespace Go.Proofs.Ytchnpekgmkhacaa
open Go Go.RowKit Go.Shelf
theorem cust_at {h : DeH} {c : Nat} (hc : c < h.customers.length) : customerAt h c = h.customers[c] := by unfold customerAt; rw [List.getElem?_eq_getElem hc]; rfl
theorem writ_at {h : DeH} {c : Nat} (hc : c < h.writers.length) : writerAt h c = h.writers[c] := by unfold writerAt; rw [List.getElem?_eq_getElem hc]; rfl
theorem SrcAt.writ1 (W : World) (a : ByteArray) (b c d : Int) (t : TypeId) : SrcAt (W.alloc (.cells #[.string a, .int .i64 b, .int .i64 c, .int .i64 d] t)) (.slice (some ⟨W.heap.size, 0, none⟩) 1 1) 1 4 [.string a, .int .i64 b, .int .i64 c, .int .i64 d] :=
  SrcAt.box (vs := [.string a, .int .i64 b, .int .i64 c, .int .i64 d]) W (writCells_one ⟨a, b, c, d⟩) t
theorem writ_snoc (p : List DeW) (a : ByteArray) (b c d : Int) : flatC writCells p ++ [.string a, .int .i64 b, .int .i64 c, .int .i64 d] = flatC writCells (p ++ [⟨a, b, c, d⟩]) := flatC_snoc (f := writCells) p ⟨a, b, c, d⟩
theorem DBitE_is (n k : Int) (r : Bool) (w : World) (hr : bitB n k.toNat = r) (h0 : 0 ≤ k) (hk : k ≤ 1000) (h1 : -9223372036854775808 ≤ n) (h2 : n ≤ 9223372036854775807) :
    Calls Try.prog 46 #[.int .i64 n, .int .i64 k] w fun e w' => e = .returned (.bool r) ∧ Below w.heap.size w w' := by
  have C := Bit_any n k w (by omega) (by omega) h1 h2
  rw [hr] at C
  exact C.mono fun e w' ⟨h1, h2⟩ => ⟨h1, by rw [h2]; exact Below.refl _ _⟩
theorem kinds_bit {n : Int} {j c : Nat} (h0 : 0 ≤ n) (h1 : n ≤ 15) (hj : j < 4) (hb : bitB n j = false) (hc : bitB n c = true) : bitB (n + ((2 ^ j : Nat) : Int)) c = true := by
  unfold bitB at *
  have e : (n + ((2 ^ j : Nat) : Int)).toNat = n.toNat + 2 ^ j := by generalize 2 ^ j = m; omega
  rw [e]
  exact kinds_more _ _ _ (by omega) hj hb hc
/-- A hall whose writers are the call's own. -/
structure MoreH (base ba : Nat) (aw ac : Option Addr) (kw kc : Nat) (wax : Int) (L : List DeW) (n : Nat) (V : World) : Prop where
  blk : V.heap[ba]? = some (.cells #[.int .i64 wax, .slice aw L.length kw, .slice ac n kc] 25 (0, 0))
  ow : V.ownsRow base 72 4 (.slice aw L.length kw) L.length (flatC writCells L)
section
variable {base ba g o n : Nat} {aw ac : Option Addr} {kw kc : Nat} {wax : Int} {L : List DeW} {V V' : World}
theorem MoreH.mono (k : MoreH base ba aw ac kw kc wax L n V) (h : Below V.heap.size V V') : MoreH base ba aw ac kw kc wax L n V' :=
  ⟨(h.block _ (lt_of_block k.blk)).trans k.blk, own_below k.ow h⟩
theorem MoreH.far (k : MoreH base ba aw ac kw kc wax L n V) (h1 : ba ≠ g) (h2 : (Value.slice aw L.length kw).ownBlock ≠ some g) (u : Value) : MoreH base ba aw ac kw kc wax L n (V.setCell ⟨g, o, none⟩ u) :=
  ⟨(Below.heap_setCell _ _ _ _ h1).trans k.blk, ownsRow_setCell_other (a := ⟨g, o, none⟩) k.ow h2 u⟩
theorem MoreH.lt (k : MoreH base ba aw ac kw kc wax L n V) : ba < V.heap.size ∧ ∀ j, (Value.slice aw L.length kw).ownBlock = some j → j < V.heap.size :=
  ⟨lt_of_block k.blk, fun j hj => (k.ow.lt j hj).2⟩
end
/-- What an easier hall answers. -/
theorem easier_facts {h : DeH} (he : deErr h = 0) {p : List (List Int)} {n e0 : Int} {l1 l2 : List Int} {e1 : Int} (h0 : deBest h = (p, n, e0)) (h1 : deEnough h = (l1, e1)) (h2 : deAway h = (l2, 0)) (G : DeH) (E : Easy h G) (ge : deErr G = 0) :
    ∃ q m f0 r1 f1 r2, deBest G = (q, m, f0) ∧ deEnough G = (r1, f1) ∧ deAway G = (r2, 0) ∧ (e0 = 0 → f0 = 0 ∧ m ≤ n) ∧ (e1 = 0 → f1 = 0 ∧ r1.length ≤ l1.length) ∧ r2.length ≤ l2.length := by
  have ha := easy_away E he ge
  rw [h2] at ha
  refine ⟨(deBest G).1, (deBest G).2.1, (deBest G).2.2, (deEnough G).1, (deEnough G).2, (deAway G).1, rfl, rfl, Prod.ext rfl (away_first ge).2, fun e => ?_, fun e => ?_, ha⟩
  · subst e
    obtain ⟨q, m, hq, hm⟩ := easy_best E he ge h0
    rw [hq]; exact ⟨rfl, hm⟩
  · subst e
    obtain ⟨m, hq, hm⟩ := easy_enough E he ge h1
    rw [hq]; exact ⟨rfl, hm⟩
set_option maxRecDepth 100000 in
set_option maxHeartbeats 16000000 in
theorem DeskEasier_walk (aw ac : Option Addr) (kw kc : Nat) (h : DeH) (s0 s1 s2 s3 s4 : Nat) (nm : ByteArray) (kn fl fh : Int) (w : World) (hm : HallC w aw ac kw kc h) (gy0 : s0 ≤ 255) (gy1 : s1 ≤ 255) (gy2 : s2 ≤ 255) (gy3 : s3 ≤ 255) (gy4 : s4 ≤ 255) (hnm : nm.size ≤ 9223372036854775807) : Calls Try.prog 14 #[(.agg #[.int .i64 h.wax, .slice aw h.writers.length kw, .slice ac h.customers.length kc]), .agg #[.int .u8 (s0 : Int), .int .u8 (s1 : Int), .int .u8 (s2 : Int), .int .u8 (s3 : Int), .int .u8 (s4 : Int), .string nm, .int .i64 kn, .int .i64 fl, .int .i64 fh]] w fun e w' => e = .returned (.bool true) ∧ Below w.heap.size w w' := by
  obtain ⟨X, hX⟩ : ∃ X : World, X = ((w.alloc (.cells #[.int .i64 h.wax, .slice aw h.writers.length kw, .slice ac h.customers.length kc] 25)).alloc (.cells #[.int .u8 (s0 : Int), .int .u8 (s1 : Int), .int .u8 (s2 : Int), .int .u8 (s3 : Int), .int .u8 (s4 : Int), .string nm, .int .i64 kn, .int .i64 fl, .int .i64 fh] 78)) := ⟨_, rfl⟩
  have hwX : Below w.heap.size w X := by rw [hX]; exact (by (repeat' (first | assumption | exact Below.refl _ _ | refine below_drew' ?_ | refine Below.setCell ?_ (by first | omega | (simp <;> omega)) _ | refine Below.alloc ?_ (by first | omega | (simp <;> omega)) _)))
  have g1 : X.heap[w.heap.size]? = some (.cells #[.int .i64 h.wax, .slice aw h.writers.length kw, .slice ac h.customers.length kc] 25 (0, 0)) := by rw [hX]; (repeat' (first | exact alloc_at _ _ (by simp) | refine (heap_alloc_old _ _ (by first | omega | (simp <;> omega))).trans ?_))
  have g2 : X.heap[w.heap.size + 1]? = some (.cells #[.int .u8 (s0 : Int), .int .u8 (s1 : Int), .int .u8 (s2 : Int), .int .u8 (s3 : Int), .int .u8 (s4 : Int), .string nm, .int .i64 kn, .int .i64 fl, .int .i64 fh] 78 (0, 0)) := by rw [hX]; (repeat' (first | exact alloc_at _ _ (by simp) | refine (heap_alloc_old _ _ (by first | omega | (simp <;> omega))).trans ?_))
  replace g1 := fun (V : World) (h : Below X.heap.size X V) => (h.block _ (lt_of_block g1)).trans g1
  replace g2 := fun (V : World) (h : Below X.heap.size X V) => (h.block _ (lt_of_block g2)).trans g2
  have HC : Hid (∀ V, Below X.heap.size X V → (V.cell? ⟨w.heap.size, 0, none⟩ = some (.int .i64 h.wax) ∧ V.cell? ⟨w.heap.size, 1, none⟩ = some (.slice aw h.writers.length kw) ∧ V.cell? ⟨w.heap.size, 2, none⟩ = some (.slice ac h.customers.length kc) ∧ V.cell? ⟨w.heap.size + 1, 0, none⟩ = some (.int .u8 (s0 : Int)) ∧ V.cell? ⟨w.heap.size + 1, 1, none⟩ = some (.int .u8 (s1 : Int)) ∧ V.cell? ⟨w.heap.size + 1, 2, none⟩ = some (.int .u8 (s2 : Int)) ∧ V.cell? ⟨w.heap.size + 1, 3, none⟩ = some (.int .u8 (s3 : Int)) ∧ V.cell? ⟨w.heap.size + 1, 4, none⟩ = some (.int .u8 (s4 : Int)) ∧ V.cell? ⟨w.heap.size + 1, 5, none⟩ = some (.string nm) ∧ V.cell? ⟨w.heap.size + 1, 6, none⟩ = some (.int .i64 kn) ∧ V.cell? ⟨w.heap.size + 1, 7, none⟩ = some (.int .i64 fl) ∧ V.cell? ⟨w.heap.size + 1, 8, none⟩ = some (.int .i64 fh) ∧ w.heap.size < V.heap.size ∧ w.heap.size + 1 < V.heap.size)) := Lib.hid (fun V h => ⟨blk_cell 0 (g1 V h) rfl, blk_cell 1 (g1 V h) rfl, blk_cell 2 (g1 V h) rfl, blk_cell 0 (g2 V h) rfl, blk_cell 1 (g2 V h) rfl, blk_cell 2 (g2 V h) rfl, blk_cell 3 (g2 V h) rfl, blk_cell 4 (g2 V h) rfl, blk_cell 5 (g2 V h) rfl, blk_cell 6 (g2 V h) rfl, blk_cell 7 (g2 V h) rfl, blk_cell 8 (g2 V h) rfl, lt_of_block (g1 V h), lt_of_block (g2 V h)⟩)
  have M := Lib.hid (fun (V : World) (h : Below X.heap.size X V) => (hm.mono hwX).mono h)
  clear g1 g2
  have hQ := Below.refl X.heap.size X
  have hx := HC.out _ hQ
  by_cases he : deErr h = 0
  · have hvd := Lib.hid (decide_eq_true he)
    have hv := deValid_of he
    have hnw := hv.nw
    have hnc := hv.nc
    obtain ⟨hvx, hvy⟩ := hv.wax
    have hwc := hm.okw.1
    have hcc := hm.okc.1
    go_enter Try.func14, Try.ntmps14
    go_upto_region 1 with (fail)
    rw [← hX]
    clear hX
    go_upto_region 3 with (first
      | (go_at_call 37; (with_reducible refine (DValid_is _ _ _ _ h true hvd.out _ (M.out _ hQ)).mono ?_); rintro e w2 ⟨rfl, hb⟩; replace hQ := q_on hQ hb; replace hx := HC.out _ hQ; dsimp only))
    clear hb
    go_cut [5, 6] from 32 to 33 (fun pa pb V => ∃ ba bb : Nat, pa = .pointer (some ⟨ba, 0, none⟩) ∧ pb = .pointer (some ⟨bb, 0, none⟩) ∧ ba ≠ bb ∧ w2.heap.size ≤ ba ∧ w2.heap.size ≤ bb ∧ V.heap[ba]? = some (.cells #[.int .i64 h.wax, .slice aw h.writers.length kw, .slice ac h.customers.length kc] 25 (0, 0)) ∧ V.heap[bb]? = some (.cells #[.int .i64 h.wax, .slice aw h.writers.length kw, .slice ac h.customers.length kc] 25 (0, 0)) ∧ Below w2.heap.size w2 V)
    case first =>
      go_region
      all_goals
        go_wp2
        go_meet
        case rel =>
          first
            | exact ⟨w2.heap.size, w2.heap.size + 1, rfl, rfl, by omega, by omega, by omega, by rw [drew_heap]; exact (heap_alloc_old _ _ (by simp)).trans (alloc_at _ _ rfl), by rw [drew_heap]; exact alloc_at _ _ (by simp), (by (repeat' (first | assumption | exact Below.refl _ _ | refine below_drew' ?_ | refine Below.setCell ?_ (by first | omega | (simp <;> omega)) _ | refine Below.alloc ?_ (by first | omega | (simp <;> omega)) _)))⟩
            | exact ⟨w2.heap.size + 1, w2.heap.size, rfl, rfl, by omega, by omega, by omega, by rw [drew_heap]; exact alloc_at _ _ (by simp), by rw [drew_heap]; exact (heap_alloc_old _ _ (by simp)).trans (alloc_at _ _ rfl), (by (repeat' (first | assumption | exact Below.refl _ _ | refine below_drew' ?_ | refine Below.setCell ?_ (by first | omega | (simp <;> omega)) _ | refine Below.alloc ?_ (by first | omega | (simp <;> omega)) _)))⟩
    case rest =>
      obtain ⟨ba, bb, rfl, rfl, hne, hba, hbb, hVa, hVb, hbV⟩ := hcut
      rename World => V
      have hQV := q_on hQ hbV
      go_upto_region 4 with (fail)
      clear hx
      go_cut [] from 34 to 41 (fun W => ∃ a9 c9, MoreH w2.heap.size ba a9 ac c9 kc h.wax (moreD h ⟨nm, kn, fl, fh⟩).writers h.customers.length W ∧ W.heap[bb]? = some (.cells #[.int .i64 h.wax, .slice aw h.writers.length kw, .slice ac h.customers.length kc] 25 (0, 0)) ∧ Below w2.heap.size w2 W)
      case first =>
        obtain ⟨L1, hL1⟩ : ∃ L1, L1 = h.writers := ⟨_, rfl⟩
        obtain ⟨L2, hL2⟩ : ∃ L2, L2 = L1 ++ [(⟨nm, kn, fl, fh⟩ : DeW)] := ⟨_, rfl⟩
        have htk := Lib.hid hL2
        have hK2 : Hid ((moreD h ⟨nm, kn, fl, fh⟩).writers = L2) := Lib.hid (by rw [hL2, hL1]; rfl)
        have hsz : SlOk aw L1.length kw := by rw [hL1]; exact hm.okw
        have hzV : WritersC V aw L1 := by rw [hL1]; exact (M.out _ hQV).writers
        have hll : L1.length ≤ 3 := by rw [hL1]; exact hnw
        rw [← hL1] at hVa
        have SF : Hid (∀ W, Below V.heap.size V W → (fun W => Below V.heap.size V W ∧ W.cell? ⟨w.heap.size, 1, none⟩ = some (.slice aw L1.length kw) ∧ W.cell? ⟨w.heap.size + 1, 5, none⟩ = some (.string nm) ∧ W.cell? ⟨w.heap.size + 1, 6, none⟩ = some (.int .i64 kn) ∧ W.cell? ⟨w.heap.size + 1, 7, none⟩ = some (.int .i64 fl) ∧ W.cell? ⟨w.heap.size + 1, 8, none⟩ = some (.int .i64 fh) ∧ w.heap.size < W.heap.size ∧ w.heap.size + 1 < W.heap.size ∧ ba < W.heap.size) W) := Lib.hid (fun W h9 => by
          obtain ⟨-, k1, -, -, -, -, -, -, k5, k6, k7, k8, z0, z1⟩ := HC.out _ (q_on hQV h9)
          exact ⟨h9, by rw [hL1]; exact k1, k5, k6, k7, k8, z0, z1, Nat.lt_of_lt_of_le (lt_of_block hVa) h9.size⟩)
        have zoV := lt_of_block hVa
        have zbV := lt_of_block hVb
        have hVo := hVa
        clear hVa hL1 hL2 hnw hwc
        refine wp_region_z (fun W => Below V.heap.size V W ∧ W.cell? ⟨w.heap.size, 1, none⟩ = some (.slice aw L1.length kw) ∧ W.cell? ⟨w.heap.size + 1, 5, none⟩ = some (.string nm) ∧ W.cell? ⟨w.heap.size + 1, 6, none⟩ = some (.int .i64 kn) ∧ W.cell? ⟨w.heap.size + 1, 7, none⟩ = some (.int .i64 fl) ∧ W.cell? ⟨w.heap.size + 1, 8, none⟩ = some (.int .i64 fh) ∧ w.heap.size < W.heap.size ∧ w.heap.size + 1 < W.heap.size ∧ ba < W.heap.size) 9 (by kernel_rfl) (SF.out V.drew (by (repeat' (first | assumption | exact Below.refl _ _ | refine Below.drew ?_ | refine Below.alloc ?_ (by first | omega | (simp <;> omega)) _)))) (fun hHeld => ?_)
        (refine wpZ_take (i := 1) (v := ?_) rfl (by kernel_rfl) (by kernel_rfl) (by kernel_rfl) (by kernel_rfl) (fun _ _ _ h => h) (Or.inl ⟨by kernel_rfl, ?_⟩) (by assumption) ?_; rotate_left 1; (focus (intro w hSw; (try dsimp only at hSw); go_simp; first | done | with_reducible rfl)); simp only [Act.put, List.getElem_toArray, List.getElem_cons_succ, List.getElem_cons_zero, List.setIfInBounds_toArray, List.set_cons_succ, List.set_cons_zero])
        (refine wpZ_take (i := 2) (v := ?_) rfl (by kernel_rfl) (by kernel_rfl) (by kernel_rfl) (by kernel_rfl) (fun _ _ _ h => h) (Or.inl ⟨by kernel_rfl, ?_⟩) (by assumption) ?_; rotate_left 1; (focus (intro w hSw; (try dsimp only at hSw); go_simp; first | done | with_reducible rfl)); simp only [Act.put, List.getElem_toArray, List.getElem_cons_succ, List.getElem_cons_zero, List.setIfInBounds_toArray, List.set_cons_succ, List.set_cons_zero])
        (refine wpZ_take (i := 4) (v := ?_) rfl (by kernel_rfl) (by kernel_rfl) (by kernel_rfl) (by kernel_rfl) (fun _ _ _ h => h) (Or.inl ⟨by kernel_rfl, ?_⟩) (by assumption) ?_; rotate_left 1; (focus (intro w hSw; (try dsimp only at hSw); go_simp; first | done | with_reducible rfl)); simp only [Act.put, List.getElem_toArray, List.getElem_cons_succ, List.getElem_cons_zero, List.setIfInBounds_toArray, List.set_cons_succ, List.set_cons_zero])
        (refine wpZ_take (i := 5) (v := ?_) rfl (by kernel_rfl) (by kernel_rfl) (by kernel_rfl) (by kernel_rfl) (fun _ _ _ h => h) (Or.inl ⟨by kernel_rfl, ?_⟩) (by assumption) ?_; rotate_left 1; (focus (intro w hSw; (try dsimp only at hSw); go_simp; first | done | with_reducible rfl)); simp only [Act.put, List.getElem_toArray, List.getElem_cons_succ, List.getElem_cons_zero, List.setIfInBounds_toArray, List.set_cons_succ, List.set_cons_zero])
        refine wpZ_ready (rs := [0, 6]) (by kernel_rfl) (by simp) (AllZ.cons rfl (fun K hK => ?_) (AllZ.cons rfl (fun K hK => ?_) AllZ.nil)); (focus ((go_simp; refine hK.out _ _ (fun _ => SF.out _ (by (repeat' (first | assumption | exact Below.refl _ _ | refine Below.drew ?_ | refine Below.alloc ?_ (by first | omega | (simp <;> omega)) _)))) ?_; (try simp only [Act.put, List.getElem_toArray, List.getElem_cons_succ, List.getElem_cons_zero, List.setIfInBounds_toArray, List.set_cons_succ, List.set_cons_zero]); clear hK); refine wpZ_ready (rs := [3, 6]) (by kernel_rfl) (by simp) (AllZ.cons rfl (fun K hK => ?_) (AllZ.cons rfl (fun K hK => ?_) AllZ.nil)); (focus (have hm0 : ((V.alloc (.cells #[] 72)).drew).ownsRow V.heap.size 72 4 (.slice (some ⟨V.heap.size, 0, none⟩) 0 0) 0 [] := (made_row2 (Nat.le_refl _) _ _).drew; refine step_app (.tmp 34) (.tmp 36) (v := .slice (some ⟨V.heap.size, 0, none⟩) 0 0) E_writ (by rfl) (by rfl) (by rfl) (by rfl) V.heap.size 0 L1.length [] (flatC writCells L1) hm0 (SrcAt.writs hsz.2.2 (hzV.mono (by (repeat' (first | assumption | exact Below.refl _ _ | refine Below.drew ?_ | refine Below.alloc ?_ (by first | omega | (simp <;> omega)) _))))) (by omega) (by decide) (by first | omega | (simp [drew_heap] <;> omega)) ?_; intro v1 V1 ho1 hg1 _; (have hB1 : Below V.heap.size V V1 := app_grown (by (repeat' (first | assumption | exact Below.refl _ _ | refine Below.drew ?_ | refine Below.alloc ?_ (by first | omega | (simp <;> omega)) _))) hm0 hg1); (rw [Nat.zero_add, List.nil_append] at ho1); have hz1v := hB1.size; refine hK.out _ _ (fun _ => SF.out _ hB1) ?_; (try simp only [Act.put, List.getElem_toArray, List.getElem_cons_succ, List.getElem_cons_zero, List.setIfInBounds_toArray, List.set_cons_succ, List.set_cons_zero]); clear hK; refine wpZ_ready (rs := [6]) (by kernel_rfl) (by simp) (AllZ.cons rfl (fun K hK => ?_) AllZ.nil); (go_simp; refine hK.out _ _ (fun _ => SF.out _ (by (repeat' (first | assumption | exact Below.refl _ _ | refine Below.drew ?_ | refine Below.alloc ?_ (by first | omega | (simp <;> omega)) _)))) ?_; (try simp only [Act.put, List.getElem_toArray, List.getElem_cons_succ, List.getElem_cons_zero, List.setIfInBounds_toArray, List.set_cons_succ, List.set_cons_zero]); clear hK); have hs2 := SrcAt.writ1 V1 nm kn fl fh 72; refine wpZ_ready (rs := [7]) (by kernel_rfl) (by simp) (AllZ.cons rfl (fun K hK => ?_) AllZ.nil); refine step_app (.tmp 37) (.tmp 40) (v := v1) E_writ (by rfl) (by rfl) (by rfl) (by rfl) V.heap.size L1.length 1 (flatC writCells L1) [.string nm, .int .i64 kn, .int .i64 fl, .int .i64 fh] (by first | exact ho1 | exact ho1.alloc _) hs2 (by omega) (by decide) (by first | omega | (simp [drew_heap] <;> omega)) ?_; intro v2 V2 ho2 hg2 _; (have hB2 : Below V.heap.size V V2 := app_grown (by (repeat' (first | assumption | exact Below.refl _ _ | refine Below.drew ?_ | refine Below.alloc ?_ (by first | omega | (simp <;> omega)) _))) (by first | exact ho1 | exact ho1.alloc _) hg2); (rw [writ_snoc, ← htk.out] at ho2); (have e2 : L1.length + 1 = L2.length := by rw [htk.out]; simp); (rw [e2] at ho2); clear e2; (obtain ⟨-, a9, c9, rfl, hs9, -⟩ := writs_own ho2); (have hc2 : V2.heap[ba]? = _ := (hB2.block _ zoV).trans hVo); have hHeld2 := SF.out _ hB2; refine hK.out _ _ (fun _ => hHeld2) ?_; (try simp only [Act.put, List.getElem_toArray, List.getElem_cons_succ, List.getElem_cons_zero, List.setIfInBounds_toArray, List.set_cons_succ, List.set_cons_zero]); clear hK; (refine wpZ_take (i := 8) (v := ?_) rfl (by kernel_rfl) (by kernel_rfl) (by kernel_rfl) (by kernel_rfl) (fun _ _ _ h => h) (Or.inl ⟨by kernel_rfl, ?_⟩) (by assumption) ?_; rotate_left 1; (focus (intro w hSw; (try dsimp only at hSw); go_simp; first | done | with_reducible rfl)); simp only [Act.put, List.getElem_toArray, List.getElem_cons_succ, List.getElem_cons_zero, List.setIfInBounds_toArray, List.set_cons_succ, List.set_cons_zero]); have k2 : V2.cell? ⟨ba, 1, none⟩ = some (.slice aw L1.length kw) := blk_cell 1 hc2 rfl; have k3 := blk_free 1 hc2; have zo2 := lt_of_block hc2; refine wpZ_ready (rs := [9]) (by kernel_rfl) (by simp) (AllZ.cons rfl (fun K hK => ?_) AllZ.nil); (go_simp; refine hK.out _ _ (fun h => absurd rfl h) ?_; (try simp only [Act.put, List.getElem_toArray, List.getElem_cons_succ, List.getElem_cons_zero, List.setIfInBounds_toArray, List.set_cons_succ, List.set_cons_zero]); clear hK; refine wpZ_done (by kernel_rfl) ?_ _))); rotate_left 1; (focus ((go_simp; refine hK.out _ _ (fun _ => SF.out _ (by (repeat' (first | assumption | exact Below.refl _ _ | refine Below.drew ?_ | refine Below.alloc ?_ (by first | omega | (simp <;> omega)) _)))) ?_; (try simp only [Act.put, List.getElem_toArray, List.getElem_cons_succ, List.getElem_cons_zero, List.setIfInBounds_toArray, List.set_cons_succ, List.set_cons_zero]); clear hK); refine wpZ_ready (rs := [3]) (by kernel_rfl) (by simp) (AllZ.cons rfl (fun K hK => ?_) AllZ.nil); have hm0 : (((V.alloc (.cells #[] 72)).alloc (.cells #[.string nm, .int .i64 kn, .int .i64 fl, .int .i64 fh] 72)).drew).ownsRow V.heap.size 72 4 (.slice (some ⟨V.heap.size, 0, none⟩) 0 0) 0 [] := ((made_row2 (Nat.le_refl _) _ _).alloc _).drew; have hsr : SrcAt (((V.alloc (.cells #[] 72)).alloc (.cells #[.string nm, .int .i64 kn, .int .i64 fl, .int .i64 fh] 72)).drew) (.slice (some ⟨V.heap.size + 1, 0, none⟩) 1 1) 1 4 [.string nm, .int .i64 kn, .int .i64 fl, .int .i64 fh] := (by have h := (SrcAt.writ1 (V.alloc (.cells #[] 72)) nm kn fl fh 72).below (below_drew' (Below.refl _ _)); rwa [show (V.alloc (.cells #[] 72)).heap.size = V.heap.size + 1 from by simp] at h); refine step_app (.tmp 34) (.tmp 36) (v := .slice (some ⟨V.heap.size, 0, none⟩) 0 0) E_writ (by rfl) (by rfl) (by rfl) (by rfl) V.heap.size 0 L1.length [] (flatC writCells L1) hm0 (SrcAt.writs hsz.2.2 (hzV.mono (by (repeat' (first | assumption | exact Below.refl _ _ | refine Below.drew ?_ | refine Below.alloc ?_ (by first | omega | (simp <;> omega)) _))))) (by omega) (by decide) (by first | omega | (simp [drew_heap] <;> omega)) ?_; intro v1 V1 ho1 hg1 _; (have hB1 : Below V.heap.size V V1 := app_grown (by (repeat' (first | assumption | exact Below.refl _ _ | refine Below.drew ?_ | refine Below.alloc ?_ (by first | omega | (simp <;> omega)) _))) hm0 hg1); (rw [Nat.zero_add, List.nil_append] at ho1); have hz1v := hB1.size; refine hK.out _ _ (fun _ => SF.out _ hB1) ?_; (try simp only [Act.put, List.getElem_toArray, List.getElem_cons_succ, List.getElem_cons_zero, List.setIfInBounds_toArray, List.set_cons_succ, List.set_cons_zero]); clear hK; have hs2 := src_grown hsr hg1 (by simp [Value.ownBlock]); refine wpZ_ready (rs := [7]) (by kernel_rfl) (by simp) (AllZ.cons rfl (fun K hK => ?_) AllZ.nil); refine step_app (.tmp 37) (.tmp 40) (v := v1) E_writ (by rfl) (by rfl) (by rfl) (by rfl) V.heap.size L1.length 1 (flatC writCells L1) [.string nm, .int .i64 kn, .int .i64 fl, .int .i64 fh] (by first | exact ho1 | exact ho1.alloc _) hs2 (by omega) (by decide) (by first | omega | (simp [drew_heap] <;> omega)) ?_; intro v2 V2 ho2 hg2 _; (have hB2 : Below V.heap.size V V2 := app_grown (by (repeat' (first | assumption | exact Below.refl _ _ | refine Below.drew ?_ | refine Below.alloc ?_ (by first | omega | (simp <;> omega)) _))) (by first | exact ho1 | exact ho1.alloc _) hg2); (rw [writ_snoc, ← htk.out] at ho2); (have e2 : L1.length + 1 = L2.length := by rw [htk.out]; simp); (rw [e2] at ho2); clear e2; (obtain ⟨-, a9, c9, rfl, hs9, -⟩ := writs_own ho2); (have hc2 : V2.heap[ba]? = _ := (hB2.block _ zoV).trans hVo); have hHeld2 := SF.out _ hB2; refine hK.out _ _ (fun _ => hHeld2) ?_; (try simp only [Act.put, List.getElem_toArray, List.getElem_cons_succ, List.getElem_cons_zero, List.setIfInBounds_toArray, List.set_cons_succ, List.set_cons_zero]); clear hK; (refine wpZ_take (i := 8) (v := ?_) rfl (by kernel_rfl) (by kernel_rfl) (by kernel_rfl) (by kernel_rfl) (fun _ _ _ h => h) (Or.inl ⟨by kernel_rfl, ?_⟩) (by assumption) ?_; rotate_left 1; (focus (intro w hSw; (try dsimp only at hSw); go_simp; first | done | with_reducible rfl)); simp only [Act.put, List.getElem_toArray, List.getElem_cons_succ, List.getElem_cons_zero, List.setIfInBounds_toArray, List.set_cons_succ, List.set_cons_zero]); have k2 : V2.cell? ⟨ba, 1, none⟩ = some (.slice aw L1.length kw) := blk_cell 1 hc2 rfl; have k3 := blk_free 1 hc2; have zo2 := lt_of_block hc2; refine wpZ_ready (rs := [9]) (by kernel_rfl) (by simp) (AllZ.cons rfl (fun K hK => ?_) AllZ.nil); (go_simp; refine hK.out _ _ (fun h => absurd rfl h) ?_; (try simp only [Act.put, List.getElem_toArray, List.getElem_cons_succ, List.getElem_cons_zero, List.setIfInBounds_toArray, List.set_cons_succ, List.set_cons_zero]); clear hK; refine wpZ_done (by kernel_rfl) ?_ _))))); rotate_left 2; (focus ((go_simp; refine hK.out _ _ (fun _ => SF.out _ (by (repeat' (first | assumption | exact Below.refl _ _ | refine Below.drew ?_ | refine Below.alloc ?_ (by first | omega | (simp <;> omega)) _)))) ?_; (try simp only [Act.put, List.getElem_toArray, List.getElem_cons_succ, List.getElem_cons_zero, List.setIfInBounds_toArray, List.set_cons_succ, List.set_cons_zero]); clear hK); refine wpZ_ready (rs := [0]) (by kernel_rfl) (by simp) (AllZ.cons rfl (fun K hK => ?_) AllZ.nil); (go_simp; refine hK.out _ _ (fun _ => SF.out _ (by (repeat' (first | assumption | exact Below.refl _ _ | refine Below.drew ?_ | refine Below.alloc ?_ (by first | omega | (simp <;> omega)) _)))) ?_; (try simp only [Act.put, List.getElem_toArray, List.getElem_cons_succ, List.getElem_cons_zero, List.setIfInBounds_toArray, List.set_cons_succ, List.set_cons_zero]); clear hK); refine wpZ_ready (rs := [3]) (by kernel_rfl) (by simp) (AllZ.cons rfl (fun K hK => ?_) AllZ.nil); have hm0 : (((V.alloc (.cells #[.string nm, .int .i64 kn, .int .i64 fl, .int .i64 fh] 72)).alloc (.cells #[] 72)).drew).ownsRow V.heap.size 72 4 (.slice (some ⟨V.heap.size + 1, 0, none⟩) 0 0) 0 [] := (by have h := (made_row2 (B := V.heap.size) (W := V.alloc (.cells #[.string nm, .int .i64 kn, .int .i64 fl, .int .i64 fh] 72)) (by simp) 72 4).drew; rwa [show (V.alloc (.cells #[.string nm, .int .i64 kn, .int .i64 fl, .int .i64 fh] 72)).heap.size = V.heap.size + 1 from by simp] at h); have hsr : SrcAt (((V.alloc (.cells #[.string nm, .int .i64 kn, .int .i64 fl, .int .i64 fh] 72)).alloc (.cells #[] 72)).drew) (.slice (some ⟨V.heap.size, 0, none⟩) 1 1) 1 4 [.string nm, .int .i64 kn, .int .i64 fl, .int .i64 fh] := (SrcAt.writ1 V nm kn fl fh 72).below (below_drew' (al_on _ _)); refine step_app (.tmp 34) (.tmp 36) (v := .slice (some ⟨V.heap.size + 1, 0, none⟩) 0 0) E_writ (by rfl) (by rfl) (by rfl) (by rfl) V.heap.size 0 L1.length [] (flatC writCells L1) hm0 (SrcAt.writs hsz.2.2 (hzV.mono (by (repeat' (first | assumption | exact Below.refl _ _ | refine Below.drew ?_ | refine Below.alloc ?_ (by first | omega | (simp <;> omega)) _))))) (by omega) (by decide) (by first | omega | (simp [drew_heap] <;> omega)) ?_; intro v1 V1 ho1 hg1 _; (have hB1 : Below V.heap.size V V1 := app_grown (by (repeat' (first | assumption | exact Below.refl _ _ | refine Below.drew ?_ | refine Below.alloc ?_ (by first | omega | (simp <;> omega)) _))) hm0 hg1); (rw [Nat.zero_add, List.nil_append] at ho1); have hz1v := hB1.size; refine hK.out _ _ (fun _ => SF.out _ hB1) ?_; (try simp only [Act.put, List.getElem_toArray, List.getElem_cons_succ, List.getElem_cons_zero, List.setIfInBounds_toArray, List.set_cons_succ, List.set_cons_zero]); clear hK; have hs2 := src_grown hsr hg1 (by simp [Value.ownBlock]); refine wpZ_ready (rs := [7]) (by kernel_rfl) (by simp) (AllZ.cons rfl (fun K hK => ?_) AllZ.nil); refine step_app (.tmp 37) (.tmp 40) (v := v1) E_writ (by rfl) (by rfl) (by rfl) (by rfl) V.heap.size L1.length 1 (flatC writCells L1) [.string nm, .int .i64 kn, .int .i64 fl, .int .i64 fh] (by first | exact ho1 | exact ho1.alloc _) hs2 (by omega) (by decide) (by first | omega | (simp [drew_heap] <;> omega)) ?_; intro v2 V2 ho2 hg2 _; (have hB2 : Below V.heap.size V V2 := app_grown (by (repeat' (first | assumption | exact Below.refl _ _ | refine Below.drew ?_ | refine Below.alloc ?_ (by first | omega | (simp <;> omega)) _))) (by first | exact ho1 | exact ho1.alloc _) hg2); (rw [writ_snoc, ← htk.out] at ho2); (have e2 : L1.length + 1 = L2.length := by rw [htk.out]; simp); (rw [e2] at ho2); clear e2; (obtain ⟨-, a9, c9, rfl, hs9, -⟩ := writs_own ho2); (have hc2 : V2.heap[ba]? = _ := (hB2.block _ zoV).trans hVo); have hHeld2 := SF.out _ hB2; refine hK.out _ _ (fun _ => hHeld2) ?_; (try simp only [Act.put, List.getElem_toArray, List.getElem_cons_succ, List.getElem_cons_zero, List.setIfInBounds_toArray, List.set_cons_succ, List.set_cons_zero]); clear hK; (refine wpZ_take (i := 8) (v := ?_) rfl (by kernel_rfl) (by kernel_rfl) (by kernel_rfl) (by kernel_rfl) (fun _ _ _ h => h) (Or.inl ⟨by kernel_rfl, ?_⟩) (by assumption) ?_; rotate_left 1; (focus (intro w hSw; (try dsimp only at hSw); go_simp; first | done | with_reducible rfl)); simp only [Act.put, List.getElem_toArray, List.getElem_cons_succ, List.getElem_cons_zero, List.setIfInBounds_toArray, List.set_cons_succ, List.set_cons_zero]); have k2 : V2.cell? ⟨ba, 1, none⟩ = some (.slice aw L1.length kw) := blk_cell 1 hc2 rfl; have k3 := blk_free 1 hc2; have zo2 := lt_of_block hc2; refine wpZ_ready (rs := [9]) (by kernel_rfl) (by simp) (AllZ.cons rfl (fun K hK => ?_) AllZ.nil); (go_simp; refine hK.out _ _ (fun h => absurd rfl h) ?_; (try simp only [Act.put, List.getElem_toArray, List.getElem_cons_succ, List.getElem_cons_zero, List.setIfInBounds_toArray, List.set_cons_succ, List.set_cons_zero]); clear hK; refine wpZ_done (by kernel_rfl) ?_ _)))
        all_goals
          go_wp2
          go_meet
          case rel =>
            rw [hK2.out]
            have h9 := ownsRow_setCell_other ho2 (a := ⟨ba, 1, none⟩) (fun e => by have h1 := (ho2.lt _ e).1; simp only at h1; omega) (.slice a9 L2.length c9)
            exact ⟨a9, c9, ⟨blk_set 1 _ hc2, own_base h9 hbV.size⟩, (Below.heap_setCell _ _ _ _ (Ne.symm hne)).trans ((hB2.block _ zbV).trans hVb), (hbV.trans (hB2.mono hbV.size)).setCell hba _⟩
      case rest =>
        obtain ⟨a9, c9, hMo, hUb, hbU⟩ := hcut
        rename World => U
        clear hVa hVb hbV hQV
        obtain ⟨d0, hd0⟩ : ∃ d0 : Nat, d0 = s0 % 3 := ⟨_, rfl⟩
        have f0 : (s0 : Int) % 3 = (d0 : Int) := by omega
        have f0t : (s0 : Int).tmod 3 = (d0 : Int) := by rw [Int.tmod_eq_emod_of_nonneg (by omega)]; exact f0
        have hd3 : d0 ≤ 2 := by omega
        obtain ⟨wx, hx1, hx2⟩ : ∃ wx : Int, (0 < h.wax - (d0 : Int) → wx = h.wax - (d0 : Int)) ∧ (¬ 0 < h.wax - (d0 : Int) → wx = 0) := by
          by_cases hlt : 0 < h.wax - (d0 : Int)
          · exact ⟨_, fun _ => rfl, fun k => absurd hlt k⟩
          · exact ⟨0, fun k => absurd k hlt, fun _ => rfl⟩
        have hwx : wx ≤ h.wax := by
          by_cases hlt : 0 < h.wax - (d0 : Int)
          · have := hx1 hlt; omega
          · have := hx2 hlt; omega
        clear hd0
        replace hx1 := Lib.hid hx1
        replace hx2 := Lib.hid hx2
        have hQU := q_on hQ hbU
        go_upto_region 5 with (fail)
        go_cut [] from 43 to 50 (fun W => W = U.setCell ⟨bb, 0, none⟩ (.int .i64 wx))
        case first =>
          have hx := HC.out _ hQU
          have x0 := blk_cell 0 hUb rfl
          simp only [List.getElem_toArray, List.getElem_cons_zero, List.getElem_cons_succ] at x0
          have y0 := blk_free 0 hUb
          have yz := lt_of_block hUb
          by_cases hlt : 0 < h.wax - (d0 : Int)
          · have e := hx1.out hlt
            replace e := Lib.hid e
            go_wp2
            go_meet
            case rel => rw [e.out]
          · have e := Lib.hid (hx2.out hlt)
            go_wp2
            go_meet
            case rel => rw [e.out]
        case rest =>
          subst hcut
          obtain ⟨Y5, hY⟩ : ∃ Y : World, Y = U.setCell ⟨bb, 0, none⟩ (.int .i64 wx) := ⟨_, rfl⟩
          rw [← hY]
          have hmlt := hMo.lt
          have hMY : MoreH w2.heap.size ba a9 ac c9 kc h.wax (moreD h ⟨nm, kn, fl, fh⟩).writers h.customers.length Y5 := by rw [hY]; exact hMo.far hne (kind_blk hMo.ow hUb (by decide)) _
          have hYb : Y5.heap[bb]? = some (.cells #[.int .i64 wx, .slice aw h.writers.length kw, .slice ac h.customers.length kc] 25 (0, 0)) := by rw [hY]; exact blk_set 0 _ hUb
          have hbY : Below w2.heap.size w2 Y5 := by rw [hY]; exact hbU.setCell hbb _
          have hYs : Y5.heap.size = U.heap.size := by rw [hY]; simp
          rw [← hYs] at hmlt
          clear hY hYs hMo hUb hbU hQU hx1 hx2 f0 f0t
          have hQY := q_on hQ hbY
          have hx := HC.out _ hQY
          have SR7 := Lib.hid (SrcAt.custs (c := kc) hm.okc.2.2 ((M.out _ hQY).custs.mono (al_on Y5 (.cells #[] 55))))
          go_upto_region 7 with (at_builtin; go_must (refine wpList_app (.tmp 52) (.tmp 54) E_cust rfl rfl rfl rfl Y5.heap.size 0 h.customers.length [] (flatC custCells h.customers) (made_row Y5 _ 5) SR7.out (by omega) (by decide) (by simp) ?_; intro v7 w7 ho7 hg7 _; (have hb7 := app_fresh hg7); (simp only [Nat.zero_add, List.nil_append] at ho7); (obtain ⟨-, a7, c7, rfl, -, -⟩ := custs_own ho7); have h7b := (hb7.block _ (lt_of_block hYb)).trans hYb; have x7 := blk_cell 2 h7b rfl; have f7 := blk_free 2 h7b; have z7 := lt_of_block h7b; clear hg7; simp only [Act.put, List.setIfInBounds_toArray, List.set_cons_succ, List.set_cons_zero]))
          obtain ⟨Z7, hZ7⟩ : ∃ Z : World, Z = w7.setCell ⟨bb, 2, none⟩ (.slice a7 h.customers.length c7) := ⟨_, rfl⟩
          rw [← hZ7]
          have hs7 := hb7.size
          have hM7 : MoreH w2.heap.size ba a9 ac c9 kc h.wax (moreD h ⟨nm, kn, fl, fh⟩).writers h.customers.length Z7 := by rw [hZ7]; exact (hMY.mono hb7).far hne (kind_blk (hMY.mono hb7).ow h7b (by decide)) _
          have hbZ7 : Below w2.heap.size w2 Z7 := by rw [hZ7]; exact (hbY.trans (hb7.mono hbY.size)).setCell hbb _
          have hZ7b : Z7.heap[bb]? = some (.cells #[.int .i64 wx, .slice aw h.writers.length kw, .slice a7 h.customers.length c7] 25 (0, 0)) := by rw [hZ7]; exact blk_set 2 _ h7b
          have hoZ7 : Z7.ownsRow Y5.heap.size 55 5 (.slice a7 h.customers.length c7) h.customers.length (flatC custCells h.customers) := by rw [hZ7]; exact ownsRow_setCell_other ho7 (kind_blk ho7 h7b (by decide)) _
          have hsZ7 : Y5.heap.size ≤ Z7.heap.size := by rw [hZ7]; simpa using hs7
          clear hZ7 x7 f7 z7 h7b ho7 hb7 hYb SR7 hx hQY hMY hs7
          have hQ7 := q_on hQ hbZ7
          have hx := HC.out _ hQ7
          have SR8 := Lib.hid (SrcAt.writs (c := kw) hm.okw.2.2 ((M.out _ hQ7).writers.mono (al_on Z7 (.cells #[] 72))))
          go_upto_region 8 with (at_builtin; go_must (refine wpList_app (.tmp 57) (.tmp 59) E_writ rfl rfl rfl rfl Z7.heap.size 0 h.writers.length [] (flatC writCells h.writers) (made_row Z7 _ 4) SR8.out (by omega) (by decide) (by simp) ?_; intro v8 w8 ho8 hg8 _; (have hb8 := app_fresh hg8); (simp only [Nat.zero_add, List.nil_append] at ho8); (obtain ⟨-, a8, c8, rfl, -, -⟩ := writs_own ho8); have h8b := (hb8.block _ (lt_of_block hZ7b)).trans hZ7b; have x8 := blk_cell 1 h8b rfl; have f8 := blk_free 1 h8b; have z8 := lt_of_block h8b; clear hg8; simp only [Act.put, List.setIfInBounds_toArray, List.set_cons_succ, List.set_cons_zero]))
          obtain ⟨Z8, hZ8⟩ : ∃ Z : World, Z = w8.setCell ⟨bb, 1, none⟩ (.slice a8 h.writers.length c8) := ⟨_, rfl⟩
          rw [← hZ8]
          have hs8 := hb8.size
          have hM8 : MoreH w2.heap.size ba a9 ac c9 kc h.wax (moreD h ⟨nm, kn, fl, fh⟩).writers h.customers.length Z8 := by rw [hZ8]; exact (hM7.mono hb8).far hne (kind_blk (hM7.mono hb8).ow h8b (by decide)) _
          have hbZ8 : Below w2.heap.size w2 Z8 := by rw [hZ8]; exact (hbZ7.trans (hb8.mono hbZ7.size)).setCell hbb _
          have hoC := own_below hoZ7 hb8
          have hFC : ∀ j, (Value.slice a7 h.customers.length c7).ownBlock = some j → Y5.heap.size ≤ j := fun j hj => (hoZ7.lt j hj).1
          have hFW : ∀ j, (Value.slice a8 h.writers.length c8).ownBlock = some j → Y5.heap.size ≤ j := fun j hj => Nat.le_trans hsZ7 (ho8.lt j hj).1
          have hYw : w2.heap.size ≤ Y5.heap.size := hbY.size
          have hCP : CopyH w2.heap.size bb a8 a7 c8 c7 wx h.writers h.customers Z8 := by
            refine ⟨hbb, by rw [hZ8]; exact blk_set 1 _ h8b, ?_, ?_⟩
            · rw [hZ8]
              exact own_base (ownsRow_setCell_other ho8 (kind_blk ho8 h8b (by decide)) _) hbZ7.size
            · rw [hZ8]
              exact own_base (ownsRow_setCell_other hoC (kind_blk hoC h8b (by decide)) _) hYw
          clear hZ8 x8 f8 z8 h8b ho8 hb8 hZ7b hoZ7 SR8 hx hQ7 hbZ7 hM7 hs8 hoC hsZ7
          have hQ8 := q_on hQ hbZ8
          have hx := HC.out _ hQ8
          have t2 := blk_cell 2 hCP.blk rfl
          have tz := lt_of_block hCP.blk
          simp only [List.getElem_toArray, List.getElem_cons_zero, List.getElem_cons_succ] at t2
          go_upto_if 65 with (fail)
          go_cut [7, 8] from 65 to 96 (fun _ _ W => ∃ (i : Nat) (hi : Int), hi ≤ (customerAt h i).hi ∧ CopyH w2.heap.size bb a8 a7 c8 c7 wx h.writers (h.customers.modify i fun x => { x with hi := hi }) W ∧ MoreH w2.heap.size ba a9 ac c9 kc h.wax (moreD h ⟨nm, kn, fl, fh⟩).writers h.customers.length W ∧ Below w2.heap.size w2 W)
          case first =>
            by_cases hz : h.customers.length = 0
            · have n1 : ¬ (0 : Int) < (h.customers.length : Int) := by omega
              have e : (h.customers.modify 0 fun x => { x with hi := (customerAt h 0).hi }) = h.customers := by rw [List.length_eq_zero_iff.1 hz]; rfl
              replace hz := Lib.hid hz
              replace e := Lib.hid e
              go_wp2
              go_meet
              case rel => exact ⟨0, (customerAt h 0).hi, Int.le_refl _, by rw [e.out]; exact hCP, hM8, hbZ8⟩
            · obtain ⟨i, hid⟩ : ∃ i : Nat, i = s2 % h.customers.length := ⟨_, rfl⟩
              have hi : i < h.customers.length := by rw [hid]; exact Nat.mod_lt _ (by omega)
              have f2 : (s2 : Int) % (h.customers.length : Int) = (i : Int) := by rw [hid]; exact (Int.natCast_emod _ _).symm
              have f2t : (s2 : Int).tmod (h.customers.length : Int) = (i : Int) := by rw [Int.tmod_eq_emod_of_nonneg (by omega)]; exact f2
              replace f2 := Lib.hid f2
              replace f2t := Lib.hid f2t
              have hci0 : (0 : Int) < (h.customers.length : Int) := by omega
              clear hid
              obtain ⟨d1, hd1⟩ : ∃ d1 : Nat, d1 = s1 % 4 := ⟨_, rfl⟩
              have f1 : (s1 : Int) % 4 = (d1 : Int) := by omega
              have f1t : (s1 : Int).tmod 4 = (d1 : Int) := by rw [Int.tmod_eq_emod_of_nonneg (by omega)]; exact f1
              have hd13 : d1 ≤ 3 := by omega
              clear hd1
              have hcv := hv.c i hi
              have eci := cust_at hi
              obtain ⟨g7, cap7, e7⟩ := ownsRow_pos (by omega) hCP.oc
              obtain ⟨rfl, -, rfl⟩ := Value.slice.inj e7
              clear e7
              obtain ⟨p0, p1, p2, p3, p4, p5, p6, p7, -⟩ := hCP.cust i hi
              have hfg := hFC g7 rfl
              have hB7 : w2.heap.size ≤ g7 := Nat.le_trans hYw hfg
              have hsm := fun nh : Int => set_modify_c h.customers i hi (fun x => { x with hi := nh })
              have hcI : (i : Int) < h.customers.length := by omega
              have hcap : (i : Int) < c7 := by omega
              generalize h.customers[i] = xi at *
              obtain ⟨cn, ck, clo, chi, csh⟩ := xi
              dsimp only at hcv p0 p1 p2 p3 p4 hsm eci
              obtain ⟨-, -, q1, q2, q3, -, -⟩ := hcv
              replace eci := Lib.hid eci
              replace hsm := Lib.hid hsm
              obtain ⟨nh, hh1, hh2⟩ : ∃ nh : Int, (clo < chi - (d1 : Int) → nh = chi - (d1 : Int)) ∧ (¬ clo < chi - (d1 : Int) → nh = clo) := by
                by_cases hlt : clo < chi - (d1 : Int)
                · exact ⟨_, fun _ => rfl, fun k => absurd hlt k⟩
                · exact ⟨clo, fun k => absurd k hlt, fun _ => rfl⟩
              have hnh : nh ≤ chi := by
                by_cases hlt : clo < chi - (d1 : Int)
                · have := hh1 hlt; omega
                · have := hh2 hlt; omega
              replace hh1 := Lib.hid hh1
              replace hh2 := Lib.hid hh2
              have hz1 : ¬ h.customers.length = 0 := hz
              go_upto_region 10 with (fail)
              simp only [f2.out, f2t.out]
              go_upto_region 11 with (fail)
              obtain ⟨bc, hbc⟩ : ∃ bc, bc = Z8.heap.size := ⟨_, rfl⟩
              obtain ⟨P, hP⟩ : ∃ P : World, P = Z8.alloc (.cells #[.string cn, .int .i64 ck, .int .i64 clo, .int .i64 chi, .int .i64 csh] 55) := ⟨_, rfl⟩
              rw [← hP, ← hbc]
              have hZP : Below Z8.heap.size Z8 P := by rw [hP]; exact al_on _ _
              have hPc : P.heap[bc]? = some (.cells #[.string cn, .int .i64 ck, .int .i64 clo, .int .i64 chi, .int .i64 csh] 55 (0, 0)) := by rw [hP, hbc]; exact alloc_at _ _ rfl
              have hbcZ : Z8.heap.size ≤ bc := by rw [hbc]; exact Nat.le_refl _
              clear hP hbc hx t2 tz p0 p1 p2 p3 p4 p5 p6 p7
              have hx := HC.out _ (q_on hQ8 hZP)
              go_cut [] from 65 to 91 (fun W => W = P.setCell ⟨bc, 3, none⟩ (.int .i64 nh))
              case first =>
                have v2 := blk_cell 2 hPc rfl
                have v3 := blk_cell 3 hPc rfl
                have y3 := blk_free 3 hPc
                have vz := lt_of_block hPc
                simp only [List.getElem_toArray, List.getElem_cons_zero, List.getElem_cons_succ] at v2 v3
                by_cases hlt : clo < chi - (d1 : Int)
                · have e := Lib.hid (hh1.out hlt)
                  go_wp2
                  go_meet
                  case rel => rw [e.out]
                · have e := Lib.hid (hh2.out hlt)
                  go_wp2
                  go_meet
                  case rel => rw [e.out]
              case rest =>
                subst hcut
                obtain ⟨Q1, hQ1⟩ : ∃ Q1 : World, Q1 = P.setCell ⟨bc, 3, none⟩ (.int .i64 nh) := ⟨_, rfl⟩
                rw [← hQ1]
                have hQc : Q1.heap[bc]? = some (.cells #[.string cn, .int .i64 ck, .int .i64 clo, .int .i64 nh, .int .i64 csh] 55 (0, 0)) := by rw [hQ1]; exact blk_set 3 _ hPc
                have hZQ : Below Z8.heap.size Z8 Q1 := by rw [hQ1]; exact hZP.setCell hbcZ _
                have hCQ := hCP.mono hZQ
                have hMQ := hM8.mono hZQ
                have hbQ := hbZ8.trans (hZQ.mono hbZ8.size)
                clear hQ1 hPc hZP hx f1 f1t hh1 hh2
                obtain ⟨p0, p1, p2, p3, p4, p5, p6, p7, -⟩ := hCQ.cust i hi
                clear p0 p1 p2 p3 p4
                have r0 := blk_cell 0 hQc rfl
                have r1 := blk_cell 1 hQc rfl
                have r2 := blk_cell 2 hQc rfl
                have r3 := blk_cell 3 hQc rfl
                have r4 := blk_cell 4 hQc rfl
                have rz := lt_of_block hQc
                have t2 := blk_cell 2 hCQ.blk rfl
                have tz := lt_of_block hCQ.blk
                simp only [List.getElem_toArray, List.getElem_cons_zero, List.getElem_cons_succ] at r0 r1 r2 r3 r4 t2
                have kc0 := hCQ.cust i hi
                have u0 := p5 (i * 5)
                have u1 := p5 (i * 5 + 1)
                have u2 := p5 (i * 5 + 2)
                have u3 := p5 (i * 5 + 3)
                have u4 := p5 (i * 5 + 4)
                obtain ⟨j0, j1, j2, j3, j4, -⟩ := kc0
                clear p5 hQc hZQ
                have hn1 : ba ≠ g7 := by have := hmlt.1; omega
                have hn2 := mt (hmlt.2 g7) (show ¬ g7 < Y5.heap.size by omega)
                go_wp2
                go_meet
                case rel => exact ⟨i, nh, by rw [eci.out]; exact hnh, by rw [← hsm.out nh]; exact hCQ.setC i hi ⟨cn, ck, clo, nh, csh⟩, ((((hMQ.far hn1 hn2 _).far hn1 hn2 _).far hn1 hn2 _).far hn1 hn2 _).far hn1 hn2 _, ((((hbQ.setCell hB7 _).setCell hB7 _).setCell hB7 _).setCell hB7 _).setCell hB7 _⟩
          case rest =>
            obtain ⟨i, hi, hhi, hCW, hMW, hbW⟩ := hcut
            rename World => W
            clear hx t2 tz hQ8 hM8 hbZ8 hCP
            obtain ⟨cs, hcs⟩ : ∃ cs, cs = h.customers.modify i fun x => { x with hi := hi } := ⟨_, rfl⟩
            have hcl : cs.length = h.customers.length := by rw [hcs]; simp
            rw [← hcs] at hCW
            replace hcs := Lib.hid hcs
            have hQW := q_on hQ hbW
            have hx := HC.out _ hQW
            have t1 := blk_cell 1 hCW.blk rfl
            have tz := lt_of_block hCW.blk
            simp only [List.getElem_toArray, List.getElem_cons_zero, List.getElem_cons_succ] at t1
            go_upto_if 100 with (fail)
            go_cut [9, 10, 11] from 100 to 134 (fun _ _ _ W => ∃ (k : Nat) (kd : Int), (∀ c, bitB (writerAt h k).kinds c = true → bitB kd c = true) ∧ CopyH w2.heap.size bb a8 a7 c8 c7 wx (h.writers.modify k fun x => { x with kinds := kd }) cs W ∧ MoreH w2.heap.size ba a9 ac c9 kc h.wax (moreD h ⟨nm, kn, fl, fh⟩).writers h.customers.length W ∧ Below w2.heap.size w2 W)
            case first =>
              by_cases hz : h.writers.length = 0
              · have n1 : ¬ (0 : Int) < (h.writers.length : Int) := by omega
                have e : (h.writers.modify 0 fun x => { x with kinds := (writerAt h 0).kinds }) = h.writers := by rw [List.length_eq_zero_iff.1 hz]; rfl
                replace hz := Lib.hid hz
                replace e := Lib.hid e
                go_wp2
                go_meet
                case rel => exact ⟨0, (writerAt h 0).kinds, fun _ k => k, by rw [e.out]; exact hCW, hMW, hbW⟩
              · obtain ⟨k, hkd⟩ : ∃ k : Nat, k = s4 % h.writers.length := ⟨_, rfl⟩
                have hk : k < h.writers.length := by rw [hkd]; exact Nat.mod_lt _ (by omega)
                have f4 : (s4 : Int) % (h.writers.length : Int) = (k : Int) := by rw [hkd]; exact (Int.natCast_emod _ _).symm
                have f4t : (s4 : Int).tmod (h.writers.length : Int) = (k : Int) := by rw [Int.tmod_eq_emod_of_nonneg (by omega)]; exact f4
                replace f4 := Lib.hid f4
                replace f4t := Lib.hid f4t
                have hwi0 : (0 : Int) < (h.writers.length : Int) := by omega
                have q1 := eqi_f (show (h.writers.length : Int) ≠ 0 by omega)
                clear hkd
                obtain ⟨j, hj9⟩ : ∃ j : Int, j = (s3 : Int) % 4 := ⟨_, rfl⟩
                have f3 : Hid ((s3 : Int) % 4 = j) := Lib.hid hj9.symm
                have f3t : Hid ((s3 : Int).tmod 4 = j) := Lib.hid (by rw [Int.tmod_eq_emod_of_nonneg (by omega)]; exact hj9.symm)
                have hj0 : 0 ≤ j := by omega
                have hj3 : j ≤ 3 := by omega
                clear hj9
                have hwv := hv.w k hk
                have ewk := writ_at hk
                obtain ⟨g8, cap8, e8⟩ := ownsRow_pos (by omega) hCW.ow
                obtain ⟨rfl, -, rfl⟩ := Value.slice.inj e8
                clear e8
                have hfg := hFW g8 rfl
                have hB8 : w2.heap.size ≤ g8 := Nat.le_trans hYw hfg
                have hsm := fun kd : Int => set_modify_w h.writers k hk (fun x => { x with kinds := kd })
                have hwI : (k : Int) < h.writers.length := by omega
                have hcap : (k : Int) < c8 := by have := (hCW.writ k hk).2.2.2.2.2.2.1; omega
                have KW := fun (V : World) (hq : Below W.heap.size W V) => (hCW.mono hq).writ k hk
                generalize h.writers[k] = xk at *
                obtain ⟨wn, wk, wlo, whi⟩ := xk
                dsimp only at hwv KW hsm ewk
                obtain ⟨b1, b2, -, -, -⟩ := hwv
                replace ewk := Lib.hid ewk
                replace hsm := Lib.hid hsm
                replace KW := Lib.hid KW
                go_upto_region 14 with (fail)
                go_quiet (fail)
                simp only [f4.out, f4t.out, f3.out, f3t.out]
                have hWq := below_drewN' (Below.refl W.heap.size W) nq
                generalize World.drewN W nq = U at hWq ⊢
                clear hx t1 tz
                have hx := HC.out _ (q_on hQW hWq)
                obtain ⟨p0, p1, p2, p3, p5, p6, p7, -⟩ := KW.out _ hWq
                have hCU := hCW.mono hWq
                have t1 := blk_cell 1 hCU.blk rfl
                have tz := lt_of_block hCU.blk
                simp only [List.getElem_toArray, List.getElem_cons_zero, List.getElem_cons_succ] at t1
                go_upto_region 16 with (fail)
                obtain ⟨bw, hbw⟩ : ∃ bw, bw = U.heap.size := ⟨_, rfl⟩
                obtain ⟨P, hP⟩ : ∃ P : World, P = U.alloc (.cells #[.string wn, .int .i64 wk, .int .i64 wlo, .int .i64 whi] 72) := ⟨_, rfl⟩
                rw [← hP, ← hbw]
                have hUP : Below U.heap.size U P := by rw [hP]; exact al_on _ _
                have hPw : P.heap[bw]? = some (.cells #[.string wn, .int .i64 wk, .int .i64 wlo, .int .i64 whi] 72 (0, 0)) := by rw [hP, hbw]; exact alloc_at _ _ rfl
                have hbwU : U.heap.size ≤ bw := by rw [hbw]; exact Nat.le_refl _
                clear hP hbw hx t1 tz p0 p1 p2 p3 p5 p6 p7
                have v1 := blk_cell 1 hPw rfl
                have vz := lt_of_block hPw
                simp only [List.getElem_toArray, List.getElem_cons_zero, List.getElem_cons_succ] at v1
                obtain ⟨r, hr⟩ : ∃ r, bitB wk j.toNat = r := ⟨_, rfl⟩
                have hrh := Lib.hid hr
                go_upto_if 121 with (go_at_call 46; (with_reducible refine (DBitE_is wk j r _ hrh.out hj0 (by omega) (by omega) (by omega)).mono ?_); rintro e w9 ⟨rfl, hb9⟩; dsimp only)
                have hU9 := q_on hUP hb9
                have h9w := (hb9.block _ (lt_of_block hPw)).trans hPw
                clear v1 vz hPw hb9 hUP hr
                go_cut [] from 120 to 129 (fun V => ∃ kd : Int, (∀ c, bitB wk c = true → bitB kd c = true) ∧ V.heap[bw]? = some (.cells #[.string wn, .int .i64 kd, .int .i64 wlo, .int .i64 whi] 72 (0, 0)) ∧ Below U.heap.size U V)
                case first =>
                  cases r with
                  | true =>
                    go_wp2
                    go_meet
                    case rel => exact ⟨wk, fun _ k => k, h9w, hU9⟩
                  | false =>
                    have KB := Lib.hid (fun (jn : Nat) (hn : jn = j.toNat) (hl : jn < 4) c hc => kinds_bit (n := wk) (j := jn) (c := c) b1 b2 hl (by rw [hn]; exact hrh.out) hc)
                    have v1 := blk_cell 1 h9w rfl
                    have y1 := blk_free 1 h9w
                    have vz := lt_of_block h9w
                    simp only [List.getElem_toArray, List.getElem_cons_zero, List.getElem_cons_succ] at v1
                    have H4 : ∀ V : World, Below w9.heap.size w9 V → V.cell? ⟨bw, 1, none⟩ = some (.int .i64 wk) ∧ V.frozen? ⟨bw, 1, none⟩ = false ∧ bw < V.heap.size := fun V hq => by
                      have hh := (hq.block _ (lt_of_block h9w)).trans h9w
                      exact ⟨blk_cell 1 hh rfl, blk_free 1 hh, lt_of_block hh⟩
                    have FIN := Lib.hid (fun (V : World) (hq : Below w9.heap.size w9 V) (d : Int) (hd : ∀ c, bitB wk c = true → bitB (wk + d) c = true) => (show ∃ kd : Int, (∀ c, bitB wk c = true → bitB kd c = true) ∧ (V.setCell ⟨bw, 1, none⟩ (.int .i64 (wk + d))).heap[bw]? = some (.cells #[.string wn, .int .i64 kd, .int .i64 wlo, .int .i64 whi] 72 (0, 0)) ∧ Below U.heap.size U (V.setCell ⟨bw, 1, none⟩ (.int .i64 (wk + d))) from ⟨wk + d, hd, blk_set 1 _ ((hq.block _ (lt_of_block h9w)).trans h9w), (q_on hU9 hq).setCell hbwU _⟩))
                    clear H4
                    have EXT := fun (V V' : World) (k9 : ∃ kd : Int, (∀ c, bitB wk c = true → bitB kd c = true) ∧ V.heap[bw]? = some (.cells #[.string wn, .int .i64 kd, .int .i64 wlo, .int .i64 whi] 72 (0, 0)) ∧ Below U.heap.size U V) (hq : Below V.heap.size V V') => (show ∃ kd : Int, (∀ c, bitB wk c = true → bitB kd c = true) ∧ V'.heap[bw]? = some (.cells #[.string wn, .int .i64 kd, .int .i64 wlo, .int .i64 whi] 72 (0, 0)) ∧ Below U.heap.size U V' from by
                      obtain ⟨kd, h1, h2, h3⟩ := k9
                      exact ⟨kd, h1, (hq.block _ (lt_of_block h2)).trans h2, q_on h3 hq⟩)
                    have hc4 : j = 0 ∨ j = 1 ∨ j = 2 ∨ j = 3 := by omega
                    rcases hc4 with rfl | rfl | rfl | rfl
                    all_goals
                      go_wp2
                      go_region
                      all_goals
                        go_wp2
                        go_meet
                        case rel =>
                          first
                            | exact EXT _ _ (FIN.out w9 (Below.refl _ _) 1 (fun c hc => KB.out 0 rfl (by decide) c hc)) (by (repeat' (first | assumption | exact Below.refl _ _ | refine Below.drew ?_ | refine Below.alloc ?_ (by first | omega | (simp <;> omega)) _)))
                            | exact FIN.out _ (by (repeat' (first | assumption | exact Below.refl _ _ | refine Below.drew ?_ | refine Below.alloc ?_ (by first | omega | (simp <;> omega)) _))) 1 (fun c hc => KB.out 0 rfl (by decide) c hc)
                            | exact EXT _ _ (FIN.out w9 (Below.refl _ _) 2 (fun c hc => KB.out 1 rfl (by decide) c hc)) (by (repeat' (first | assumption | exact Below.refl _ _ | refine Below.drew ?_ | refine Below.alloc ?_ (by first | omega | (simp <;> omega)) _)))
                            | exact FIN.out _ (by (repeat' (first | assumption | exact Below.refl _ _ | refine Below.drew ?_ | refine Below.alloc ?_ (by first | omega | (simp <;> omega)) _))) 2 (fun c hc => KB.out 1 rfl (by decide) c hc)
                            | exact EXT _ _ (FIN.out w9 (Below.refl _ _) 4 (fun c hc => KB.out 2 rfl (by decide) c hc)) (by (repeat' (first | assumption | exact Below.refl _ _ | refine Below.drew ?_ | refine Below.alloc ?_ (by first | omega | (simp <;> omega)) _)))
                            | exact FIN.out _ (by (repeat' (first | assumption | exact Below.refl _ _ | refine Below.drew ?_ | refine Below.alloc ?_ (by first | omega | (simp <;> omega)) _))) 4 (fun c hc => KB.out 2 rfl (by decide) c hc)
                            | exact EXT _ _ (FIN.out w9 (Below.refl _ _) 8 (fun c hc => KB.out 3 rfl (by decide) c hc)) (by (repeat' (first | assumption | exact Below.refl _ _ | refine Below.drew ?_ | refine Below.alloc ?_ (by first | omega | (simp <;> omega)) _)))
                            | exact FIN.out _ (by (repeat' (first | assumption | exact Below.refl _ _ | refine Below.drew ?_ | refine Below.alloc ?_ (by first | omega | (simp <;> omega)) _))) 8 (fun c hc => KB.out 3 rfl (by decide) c hc)
                case rest =>
                  obtain ⟨kd, hkd, hVw, hUV⟩ := hcut
                  rename World => V
                  have hWV := q_on hWq hUV
                  have hCV := hCW.mono hWV
                  have hMV := hMW.mono hWV
                  have hbV := hbW.trans (hWV.mono hbW.size)
                  obtain ⟨p0, p1, p2, p3, p5, p6, p7, -⟩ := KW.out _ hWV
                  have r0 := blk_cell 0 hVw rfl
                  have r1 := blk_cell 1 hVw rfl
                  have r2 := blk_cell 2 hVw rfl
                  have r3 := blk_cell 3 hVw rfl
                  have rz := lt_of_block hVw
                  have t1 := blk_cell 1 hCV.blk rfl
                  have tz := lt_of_block hCV.blk
                  simp only [List.getElem_toArray, List.getElem_cons_zero, List.getElem_cons_succ] at r0 r1 r2 r3 t1
                  have u0 := p5 (k * 4)
                  have u1 := p5 (k * 4 + 1)
                  have u2 := p5 (k * 4 + 2)
                  have u3 := p5 (k * 4 + 3)
                  clear p5 hVw
                  have hn1 : ba ≠ g8 := by have := hmlt.1; omega
                  have hn2 := mt (hmlt.2 g8) (show ¬ g8 < Y5.heap.size by omega)
                  go_wp2
                  go_meet
                  case rel => exact ⟨k, kd, by rw [ewk.out]; exact hkd, by rw [← hsm.out kd]; exact hCV.setW k hk ⟨wn, kd, wlo, whi⟩, (((hMV.far hn1 hn2 _).far hn1 hn2 _).far hn1 hn2 _).far hn1 hn2 _, (((hbV.setCell hB8 _).setCell hB8 _).setCell hB8 _).setCell hB8 _⟩
            case rest =>
              obtain ⟨k, kd, hkd, hCR, hMR, hbR⟩ := hcut
              rename World => R
              clear hx t1 tz
              rw [hcs.out] at hCR
              have hQR := q_on hQ hbR
              have hnmW : ∀ x ∈ (h.writers.modify k fun x => { x with kinds := kd }), x.name.size ≤ 9223372036854775807 := names_w k (fun _ => rfl) hm.wsize
              have hnmC : ∀ x ∈ (h.customers.modify i fun x => { x with hi := hi }), x.name.size ≤ 9223372036854775807 := names_c i (fun _ => rfl) hm.csize
              have hnmM : ∀ x ∈ (moreD h ⟨nm, kn, fl, fh⟩).writers, x.name.size ≤ 9223372036854775807 := fun x hx => by
                rcases List.mem_append.1 hx with h9 | h9
                · exact hm.wsize x h9
                · rw [List.mem_singleton.1 h9]; exact hnm
              obtain ⟨-, a0, c0, e0, so9, -⟩ := writs_own hMR.ow
              obtain ⟨rfl, -, rfl⟩ := Value.slice.inj e0
              obtain ⟨G1, E1, HB1⟩ : ∃ G1 : DeH, Easy h G1 ∧ Hid (∀ V, Below R.heap.size R V → V.heap[ba]? = some (.cells #[.int .i64 G1.wax, .slice a9 G1.writers.length c9, .slice ac G1.customers.length kc] 25 (0, 0)) ∧ HallC V a9 ac c9 kc G1) := ⟨moreD h ⟨nm, kn, fl, fh⟩, more_easy h _, Lib.hid (fun V hq => by
                have hMV := hMR.mono hq
                obtain ⟨-, a0, c0, e0, so9, wo9⟩ := writs_own hMV.ow
                obtain ⟨rfl, -, rfl⟩ := Value.slice.inj e0
                exact ⟨hMV.blk, so9, hm.okc, wo9, (M.out _ (q_on hQR hq)).custs, hnmM, hm.csize⟩)⟩
              obtain ⟨G2, E2, HB2⟩ : ∃ G2 : DeH, Easy h G2 ∧ Hid (∀ V, Below R.heap.size R V → V.heap[bb]? = some (.cells #[.int .i64 G2.wax, .slice a8 G2.writers.length c8, .slice a7 G2.customers.length c7] 25 (0, 0)) ∧ HallC V a8 a7 c8 c7 G2) := ⟨lessD h wx i hi k kd, less_easy hwx hhi hkd, Lib.hid (fun V hq => by
                have hCV := hCR.mono hq
                exact ⟨hCV.blk, hCV.hall hnmW hnmC⟩)⟩
              have HCR := Lib.hid (fun (V : World) (hq : Below R.heap.size R V) => HC.out V (q_on hQR hq))
              have MR := Lib.hid (fun (V : World) (hq : Below R.heap.size R V) => M.out V (q_on hQR hq))
              have hwR : Below w.heap.size w R := hwX.trans (hQR.mono hwX.size)
              obtain ⟨p, n, e0, hbe⟩ : ∃ p n e, deBest h = (p, n, e) := ⟨_, _, _, rfl⟩
              obtain ⟨l1, e1, hen⟩ : ∃ l e, deEnough h = (l, e) := ⟨_, _, rfl⟩
              obtain ⟨l2, haw⟩ : ∃ l, deAway h = (l, 0) := ⟨_, Prod.ext rfl (away_first he).2⟩
              have FACT := Lib.hid (fun G E ge => easier_facts he hbe hen haw G E ge)
              replace hbe := Lib.hid hbe
              replace hen := Lib.hid hen
              replace haw := Lib.hid haw
              clear hCR hMR hbR hmlt hFC hFW hYw hbY so9 hnmW hnmC hnmM hcs hcl hbW hMW hCW hQW hvd hv hnw hnc hvx hvy hwc hcc hne hba hbb hwx hhi hkd he HC M hQR hQ
              have hQ := Below.refl R.heap.size R
              have hx := HCR.out _ hQ
              go_upto_region 23 with (first
                | (go_at_call 32; (with_reducible refine (DA_Away _ _ _ _ h l2 0 haw.out _ (MR.out _ hQ)).mono ?_); rintro e w5 ⟨b5, k5, rfl, o5, -, hb⟩; replace hQ := q_on hQ hb; replace hx := HCR.out _ hQ; dsimp only)
                | (go_at_call 29; (with_reducible refine (DA_Enough _ _ _ _ h l1 e1 hen.out _ (MR.out _ hQ)).mono ?_); rintro e w4 ⟨b4, k4, rfl, o4, -, hb⟩; replace hQ := q_on hQ hb; replace hx := HCR.out _ hQ; dsimp only)
                | (go_at_call 26; (with_reducible refine (DA_Best _ _ _ _ h p n e0 hbe.out _ (MR.out _ hQ)).mono ?_); rintro e w3 ⟨b3, k3, rfl, o3, -, hb⟩; replace hQ := q_on hQ hb; replace hx := HCR.out _ hQ; dsimp only))
              clear hb hx hbe hen haw MR HCR
              have o4c := o4.1
              have o4l := o4.len
              have o5l := o5.len
              go_loopw [19, 20, 21, 22, 23, 24, 25, 26, 27] (fun iv _ _ _ _ _ _ _ _ V => ∃ j : Nat, j ≤ 2 ∧ iv = .int .i64 (j : Int) ∧ Below R.heap.size R V) (fun iv _ _ _ _ _ _ _ _ _ => 2 - (intOf iv).toNat)
              case atStart => exact ⟨0, by omega, rfl, hQ⟩
              case round =>
                obtain ⟨j, hj, rfl, hb⟩ := hrel
                obtain ⟨W1, hW1⟩ : ∃ W1 : World, W1 = wr := ⟨_, rfl⟩
                subst hW1
                by_cases hlt : j < 2
                · obtain ⟨hG1, -⟩ := HB1.out _ hb
                  have x0 := blk_cell 0 hG1 rfl
                  have x1 := blk_cell 1 hG1 rfl
                  have x2 := blk_cell 2 hG1 rfl
                  have xz := lt_of_block hG1
                  simp only [List.getElem_toArray, List.getElem_cons_zero, List.getElem_cons_succ] at x0 x1 x2
                  clear hG1
                  go_upto_region 26 with (fail)
                  obtain ⟨bm, hbm⟩ : ∃ bm, bm = W1.heap.size := ⟨_, rfl⟩
                  obtain ⟨W2, hW2⟩ : ∃ W2 : World, W2 = W1.alloc (.cells #[.int .i64 G1.wax, .slice a9 G1.writers.length c9, .slice ac G1.customers.length kc] 25) := ⟨_, rfl⟩
                  rw [← hW2, ← hbm]
                  have hB12 : Below W1.heap.size W1 W2 := by rw [hW2]; exact al_on _ _
                  have h2m : W2.heap[bm]? = some (.cells #[.int .i64 G1.wax, .slice a9 G1.writers.length c9, .slice ac G1.customers.length kc] 25 (0, 0)) := by rw [hW2, hbm]; exact alloc_at _ _ rfl
                  have hR2 : Below R.heap.size R W2 := q_on hb hB12
                  have hbmR : R.heap.size ≤ bm := by rw [hbm]; exact hb.size
                  clear hW2 hbm x0 x1 x2 xz hB12
                  go_upto_if 157 with (fail)
                  go_cut [] from 157 to 158 (fun V => ∃ (G : DeH) (gw gc : Option Addr) (dw dc : Nat), Easy h G ∧ V.heap[bm]? = some (.cells #[.int .i64 G.wax, .slice gw G.writers.length dw, .slice gc G.customers.length dc] 25 (0, 0)) ∧ HallC V gw gc dw dc G ∧ Below R.heap.size R V)
                  case first =>
                    by_cases hj1 : (j : Int) = 1
                    · have q0 := eqi_t hj1
                      obtain ⟨hG2, hH2⟩ := HB2.out _ hR2
                      have x0 := blk_cell 0 hG2 rfl
                      have x1 := blk_cell 1 hG2 rfl
                      have x2 := blk_cell 2 hG2 rfl
                      have xz := lt_of_block hG2
                      have v0 := blk_cell 0 h2m rfl
                      have v1 := blk_cell 1 h2m rfl
                      have v2 := blk_cell 2 h2m rfl
                      have y0 := blk_free 0 h2m
                      have y1 := blk_free 1 h2m
                      have y2 := blk_free 2 h2m
                      have yz := lt_of_block h2m
                      simp only [List.getElem_toArray, List.getElem_cons_zero, List.getElem_cons_succ] at x0 x1 x2 v0 v1 v2
                      replace hj1 := Lib.hid hj1
                      go_wp2
                      go_meet
                      case rel =>
                        have hB : Below R.heap.size R (((W2.setCell ⟨bm, 0, none⟩ (.int .i64 G2.wax)).setCell ⟨bm, 1, none⟩ (.slice a8 G2.writers.length c8)).setCell ⟨bm, 2, none⟩ (.slice a7 G2.customers.length c7)) := ((hR2.setCell hbmR _).setCell hbmR _).setCell hbmR _
                        exact ⟨G2, a8, a7, c8, c7, E2, blk_set 2 _ (blk_set 1 _ (blk_set 0 _ h2m)), (HB2.out _ hB).2, hB⟩
                    · have q0 := eqi_f hj1
                      go_wp2
                      go_meet
                      case rel => exact ⟨G1, a9, ac, c9, kc, E1, h2m, (HB1.out _ hR2).2, hR2⟩
                  case rest =>
                    obtain ⟨G, gw, gc, dw, dc, E, hVm, hHG, hRV⟩ := hcut
                    rename World => V
                    have HGC := Lib.hid (fun (U : World) (hq : Below V.heap.size V U) => (show U.cell? ⟨bm, 0, none⟩ = some (.int .i64 G.wax) ∧ U.cell? ⟨bm, 1, none⟩ = some (.slice gw G.writers.length dw) ∧ U.cell? ⟨bm, 2, none⟩ = some (.slice gc G.customers.length dc) ∧ bm < U.heap.size from by
                      have hh := (hq.block _ (lt_of_block hVm)).trans hVm
                      exact ⟨blk_cell 0 hh rfl, blk_cell 1 hh rfl, blk_cell 2 hh rfl, lt_of_block hh⟩))
                    have NG := Lib.hid (fun (U : World) (hq : Below V.heap.size V U) => hHG.mono hq)
                    clear hVm hHG h2m
                    have hq := Below.refl V.heap.size V
                    have hx := HGC.out _ hq
                    by_cases ge : deErr G = 0
                    · have hgd := Lib.hid (decide_eq_true ge)
                      obtain ⟨q, m, f0, r1, f1, r2, hGb, hGe, hGa, i0, i1, i2⟩ := FACT.out G E ge
                      replace hGb := Lib.hid hGb
                      replace hGe := Lib.hid hGe
                      replace hGa := Lib.hid hGa
                      replace ge := Lib.hid ge
                      go_upto_region 32 with (first
                        | (go_at_call 32; (with_reducible refine (DA_Away _ _ _ _ G r2 0 hGa.out _ (NG.out _ hq)).mono ?_); rintro e u5 ⟨z5, y5, rfl, t5, -, hb⟩; replace hq := q_on hq hb; replace hx := HGC.out _ hq; dsimp only)
                        | (go_at_call 29; (with_reducible refine (DA_Enough _ _ _ _ G r1 f1 hGe.out _ (NG.out _ hq)).mono ?_); rintro e u4 ⟨z4, y4, rfl, t4, -, hb⟩; replace hq := q_on hq hb; replace hx := HGC.out _ hq; dsimp only)
                        | (go_at_call 26; (with_reducible refine (DA_Best _ _ _ _ G q m f0 hGb.out _ (NG.out _ hq)).mono ?_); rintro e u3 ⟨z3, y3, rfl, t3, -, hb⟩; replace hq := q_on hq hb; replace hx := HGC.out _ hq; dsimp only)
                        | (go_at_call 37; (with_reducible refine (DValid_is _ _ _ _ G true hgd.out _ (NG.out _ hq)).mono ?_); rintro e u2 ⟨rfl, hb⟩; replace hq := q_on hq hb; replace hx := HGC.out _ hq; dsimp only))
                      have t4l := t4.len
                      have t5l := t5.len
                      have hend := Lib.hid (hRV.trans (hq.mono hRV.size))
                      clear hx hb
                      by_cases k0 : e0 = 0
                      · obtain ⟨rfl, hmn⟩ := i0 k0
                        subst k0
                        have n1 : ¬ n < m := by omega
                        by_cases k1 : e1 = 0
                        · obtain ⟨rfl, hln⟩ := i1 k1
                          subst k1
                          go_wp2
                          go_roundw
                          case rel => exact ⟨j + 1, by omega, by go_num, hend.out⟩
                          case measure => simp [intOf]; omega
                        · have q1 := eqi_f k1
                          replace i1 := Lib.hid i1
                          replace k1 := Lib.hid k1
                          go_wp2
                          go_roundw
                          case rel => exact ⟨j + 1, by omega, by go_num, hend.out⟩
                          case measure => simp [intOf]; omega
                      · have q0 := eqi_f k0
                        replace i0 := Lib.hid i0
                        replace k0 := Lib.hid k0
                        by_cases k1 : e1 = 0
                        · obtain ⟨rfl, hln⟩ := i1 k1
                          subst k1
                          go_wp2
                          go_roundw
                          case rel => exact ⟨j + 1, by omega, by go_num, hend.out⟩
                          case measure => simp [intOf]; omega
                        · have q1 := eqi_f k1
                          replace i1 := Lib.hid i1
                          replace k1 := Lib.hid k1
                          go_wp2
                          go_roundw
                          case rel => exact ⟨j + 1, by omega, by go_num, hend.out⟩
                          case measure => simp [intOf]; omega
                    · have hgd := Lib.hid (decide_eq_false ge)
                      replace ge := Lib.hid ge
                      go_wp2_with ((go_at_call 37; (with_reducible refine (DValid_is _ _ _ _ G false hgd.out _ (NG.out _ hq)).mono ?_); rintro e u2 ⟨rfl, hb⟩; replace hq := q_on hq hb; replace hx := HGC.out _ hq; dsimp only))
                      go_roundw
                      case rel => exact ⟨j + 1, by omega, by go_num, hRV.trans (hq.mono hRV.size)⟩
                      case measure => simp [intOf]; omega
                · obtain rfl : j = 2 := by omega
                  have hQ := hb
                  go_wp2_with (go_at_call 23; (with_reducible refine (DAwake_any _).mono ?_); rintro e w22 ⟨rfl, hb⟩; replace hQ := q_on hQ hb; dsimp only)
                  go_ret
                  exact ⟨rfl, hwR.trans (hQ.mono hwR.size)⟩
  · have hvd := Lib.hid (decide_eq_false he)
    clear he
    go_enter Try.func14, Try.ntmps14
    go_upto_region 1 with (fail)
    rw [← hX]
    clear hX
    go_wp2_with (first
      | (go_at_call 23; (with_reducible refine (DAwake_any _).mono ?_); rintro e w4 ⟨rfl, hb⟩; replace hQ := q_on hQ hb; replace hx := HC.out _ hQ; dsimp only)
      | (go_at_call 37; (with_reducible refine (DValid_is _ _ _ _ h false hvd.out _ (M.out _ hQ)).mono ?_); rintro e w2 ⟨rfl, hb⟩; replace hQ := q_on hQ hb; replace hx := HC.out _ hQ; dsimp only))
    go_ret
    exact ⟨rfl, hwX.trans (hQ.mono hwX.size)⟩
end Go.Proofs.Ytchnpekgmkhacaa
