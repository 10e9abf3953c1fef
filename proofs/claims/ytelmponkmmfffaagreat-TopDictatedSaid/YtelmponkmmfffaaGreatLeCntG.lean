/- What is proved here: the contract of ref01.Split: the parts of a string. Conditions: a string of at most a thousand bytes. -/
/- What is proved here: append of so many empty strings onto a slice that the call itself owns. Over any program. -/
/- What is proved here: the contract of the shape of a form that is looked at. Conditions: the form is fine, and has so many in each room as it can. -/
/- What is proved here: counts of a form that is looked at, as an iterator over all that can be in its rooms. Conditions: the form that is looked at lies in memory, and is fine. -/
import Derived.Test.YtelmponkmmfffaaGreatLeMakeG
import Derived.Lib.AppendZeros
import Derived.Test.YtelmponkmmfffaaGreatDeFailG
import Derived.RangeFuncCalls
import Derived.OwnWalkIn
import Derived.TacticsInMore
import Derived.LoopNIn
import Derived.LoopIn
import Derived.WalkMore
import Derived.IntWalk
set_option linter.unusedVariables false
set_option linter.unusedSimpArgs false
namespace Go.Proofs.YtelmponkmmfffaaGreat
open Go Go.RowKit Go.Shelf
/-- What was parted of the first bytes, and where the last part begins. -/
def splTo (s : ByteArray) (c : Nat) : Nat → List ByteArray × Nat
  | 0 => ([], 0)
  | i + 1 => if (s.data[i]?.getD 0).toNat = c then ((splTo s c i).1 ++ [s.extract (splTo s c i).2 i], i + 1) else splTo s c i
def splitL (s : ByteArray) (c : Nat) : List ByteArray := (splTo s c s.size).1 ++ [s.extract (splTo s c s.size).2 s.size]
theorem spl_bd (s : ByteArray) (c : Nat) : ∀ i, (splTo s c i).1.length ≤ i ∧ (splTo s c i).2 ≤ i
  | 0 => by simp [splTo]
  | i + 1 => by
    have := spl_bd s c i
    simp only [splTo]
    split
    · simp; omega
    · omega
set_option maxRecDepth 100000 in
set_option maxHeartbeats 4000000 in
theorem LSplit_any (s : ByteArray) (c : Nat) (hc : c < 256) (hs : s.size ≤ 1000) (w : World) :
    Calls Tryz.prog 67 #[.string s, .int .u8 (c : Int)] w fun e w' => ∃ a k, e = .returned (.slice a (splitL s c).length k) ∧ SlOk a (splitL s c).length k ∧ StrsC w' a (splitL s c) ∧ Below w.heap.size w w' ∧ ∀ ad, a = some ad → w.heap.size ≤ ad.block := by
  have HB := Lib.hid (spl_bd s c)
  have HS := Lib.hid (fun i => show splTo s c (i + 1) = if (s.data[i]?.getD 0).toNat = c then ((splTo s c i).1 ++ [s.extract (splTo s c i).2 i], i + 1) else splTo s c i from rfl)
  have HE : Hid (splitL s c = (splTo s c s.size).1 ++ [s.extract (splTo s c s.size).2 s.size]) := Lib.hid rfl
  go_enter Tryz.func67, Tryz.ntmps67
  go_upto_region 4 with (fail)
  go_loopw [5, 6, 7] (fun v b i V => ∃ k : Nat, k ≤ s.size ∧ b = .int .i64 ((splTo s c k).2 : Int) ∧ i = .int .i64 k ∧ Below w.heap.size w V ∧ V.ownsRow w.heap.size 9 1 v (splTo s c k).1.length ((splTo s c k).1.map Value.string)) (fun _ _ i _ => s.size - (intOf i).toNat)
  case atStart => exact ⟨0, by omega, rfl, rfl, Below.refl _ _, ⟨rfl, .inl ⟨rfl, rfl⟩⟩⟩
  case round =>
    rename World => V
    obtain ⟨k, hk, rfl, rfl, hb, hown⟩ := hrel
    have h1 := HB.out k
    by_cases hlt : k < s.size
    · have h2 := HS.out k
      have e1 : (s.data[k]?.getD 0).toNat = s[k].toNat := by rw [Array.getElem?_eq_getElem (show k < s.data.size from hlt), Option.getD_some]; rfl
      rw [e1] at h2
      clear e1
      have hltI : (k : Int) < s.size := by omega
      have hix : ∀ W : World, (Instr.index 9 (.string s) (.int .i64 (k : Int))).run Tryz.prog W = .ok (.int .u8 (s[k].toNat : Int)) W := fun W => by
        refine (run_index_string (P := Tryz.prog) (w := W) 9 s .i64 (k : Int) (by kernel_rfl)).trans ?_
        simp [hlt]
      generalize s[k].toNat = R at *
      generalize splTo s c k = st at *
      obtain ⟨pre, beg⟩ := st
      simp only at h1 h2 hown
      have HO := Lib.hid hown
      have H2 := Lib.hid h2
      clear hown h2
      by_cases hR : R = c
      · have H3 := Lib.hid (H2.out.trans (if_pos hR))
        have hRI : (R : Int) = (c : Int) := by omega
        clear H2
        go_wp2_with (at_builtin; go_must (refine wpList_app (.tmp 19) (.tmp 24) E_str rfl rfl rfl rfl w.heap.size pre.length 1 (pre.map Value.string) [.string (s.extract beg k)] (HO.out.alloc _) (SrcAt.one _ _ _ rfl) (by omega) (by decide) (by have := hb.size; simp; omega) ?_; intro v7 w7 ho7 hg7 _; have hb7 := app_next hb (Nat.le_refl _) (Nat.le_refl _) HO.out hg7; clear hg7; simp only [Act.put, List.setIfInBounds_toArray, List.set_cons_succ, List.set_cons_zero]))
        go_roundw
        case rel => exact ⟨k + 1, by omega, by rw [H3.out]; go_num, by go_num, hb7, by rw [H3.out]; simpa using ho7⟩
        case measure => simp [intOf]; omega
      · have H3 := Lib.hid (H2.out.trans (if_neg hR))
        have hRI : ¬ (R : Int) = (c : Int) := by omega
        clear H2
        go_wp2
        go_roundw
        case rel => exact ⟨k + 1, by omega, by rw [H3.out], by go_num, hb, by rw [H3.out]; exact HO.out⟩
        case measure => simp [intOf]; omega
    · obtain rfl : k = s.size := by omega
      have HO := Lib.hid hown
      generalize hst : splTo s c s.size = st at *
      have HST := Lib.hid hst
      clear hst hown
      obtain ⟨pre, beg⟩ := st
      simp only at h1
      go_wp2_with (at_builtin; go_must (refine wpList_app (.tmp 28) (.tmp 32) E_str rfl rfl rfl rfl w.heap.size pre.length 1 (pre.map Value.string) [.string (s.extract beg s.size)] (HO.out.alloc _) (SrcAt.one _ _ _ rfl) (by omega) (by decide) (by have := hb.size; simp; omega) ?_; intro v7 w7 ho7 hg7 _; have hb7 := app_next hb (Nat.le_refl _) (Nat.le_refl _) HO.out hg7; clear hg7; simp only [Act.put, List.setIfInBounds_toArray, List.set_cons_succ, List.set_cons_zero]))
      go_ret
      have ho8 : w7.ownsRow w.heap.size 9 1 v7 (pre.length + 1) ((splitL s c).map Value.string) := by rw [HE.out]; simpa using ho7
      obtain ⟨a, q, e, s1, s2⟩ := StrsV.of_own ho8
      exact ⟨a, q, by rw [e]; rfl, s1, s2, hb7, fun ad h => (ho8.lt ad.block (by rw [e, h]; rfl)).1⟩
end Go.Proofs.YtelmponkmmfffaaGreat
namespace Go.Proofs.YtelmponkmmfffaaGreat
open Go Go.RowKit Go.Shelf
theorem zeroCells_one (z : Value) (n : Nat) : Builtin.zeroCells #[z] n = (List.replicate n z).toArray := by
  apply Array.ext
  · simp [Builtin.zeroCells]
  · intro j h1 h2
    simp [Builtin.zeroCells, Nat.mod_one]
theorem run_app_zeros {P : Program} {w : World} (base : Nat) (t tn ty e : TypeId) (i : TypeInfo) (z : Value) (bytes : Nat) (kn : IntKind) (ht : P.underlying t = some (.slice e)) (htn : P.underlying tn = some (.int kn)) (hi : P.info? e = some i) (hz : i.zero = some z)
    (hsize : i.size = 1) (hby : i.bytes = bytes) (hzs : z.cells = #[z]) (hz1 : z.oneCell' = true)
    (v : Value) (n : Nat) (xs : List Value) (hown : w.ownsRow base e 1 v n xs) (m : Nat)
    (hnm : n + m ≤ 1000000) (hbt : bytes ≤ 1000000) (hbase : base ≤ w.heap.size) :
    ∃ v' w', (Builtin.append_ #[t, tn] ty #[v, .int .i64 (m : Int)]).run P w = .ok v' w' ∧ w'.ownsRow base e 1 v' (n + m) (xs ++ List.replicate m z) ∧ w.grownBy w' v.ownBlock ∧ (v'.ownBlock = v.ownBlock ∨ v'.ownBlock = some w.heap.size) := by
  subst hby
  have hm : maxLen = 9223372036854775807 := rfl
  have hbm : (n + m) * i.bytes ≤ 1000000 * 1000000 := Nat.mul_le_mul hnm hbt
  have hmb : m * i.bytes ≤ 1000000 * 1000000 := Nat.mul_le_mul (by omega) hbt
  have hlen : (xs ++ List.replicate m z).length = (n + m) * 1 := by rw [List.length_append, hown.1, List.length_replicate]; omega
  have hw : IntKind.i64.wrap (m : Int) = m := by rw [IntKind.wrap_i64]; omega
  have hneg : ¬ ((m : Int) < 0) := by omega
  have h48i : ¬ (281474976710656 < (m : Int) * (i.bytes : Int)) := by rw [← Int.natCast_mul]; omega
  have hap : (if m = 0 then (#[] : Array Value) else Builtin.zeroCells z.cells m) = (List.replicate m z).toArray := by
    split
    · rename_i h0; subst h0; rfl
    · rw [hzs, zeroCells_one]
  have grown : ∀ (old : Nat), old < n + m → ∀ (row : Option Nat),
      (w.drew.alloc (.cells (xs.toArray ++ (List.replicate m z).toArray ++ Builtin.zeroCells z.cells (grownCap w (n + m) old e - (n + m))) e)).ownsRow base e 1
        (.slice (some ⟨w.heap.size, 0, none⟩) (n + m) (grownCap w (n + m) old e)) (n + m) (xs ++ List.replicate m z) ∧
      w.grownBy (w.drew.alloc (.cells (xs.toArray ++ (List.replicate m z).toArray ++ Builtin.zeroCells z.cells (grownCap w (n + m) old e - (n + m))) e)) row := by
    intro old ho row
    have hge := grownCap_ge w (n + m) old e
    have hcm : grownCap w (n + m) old e ≤ maxLen := grownCap_le_maxLen w (n + m) old e (by omega)
    refine ⟨⟨hlen, .inr ⟨w.heap.size, _, _, rfl, hbase, heap_alloc_new w.drew _, hge, hcm, ?_, ?_⟩⟩, ⟨rfl, rfl, rfl, by simp, fun k hk _ => heap_alloc_old w.drew _ hk⟩⟩
    · simp only [Array.size_append, List.size_toArray, size_zeroCells, hzs, hown.1, List.length_replicate]
      simp
      omega
    · simp only [Array.toList_append, List.append_assoc]
      rw [← List.append_assoc, ← hlen]
      exact List.take_left
  rcases hown.2 with ⟨rfl, rfl⟩ | ⟨g, cap, cur, rfl, hbg, hg, hnc, hcm, hcs, htake⟩
  · have hx : xs = [] := List.eq_nil_of_length_eq_zero (by simpa using hown.1)
    subst hx
    by_cases h0 : m = 0
    · subst h0
      refine ⟨.slice none 0 0, w, ?_, World.ownsRow_nil w base e 1, ⟨rfl, rfl, rfl, Nat.le_refl _, fun _ _ _ => rfl⟩, .inl rfl⟩
      have hw0 : IntKind.i64.wrap 0 = 0 := hw
      simp [Builtin.append_, run_underlying ht, run_underlying htn, sizeOf, typeInfo, hi, asInt, asIntOf, hw0]
    · have hr := Lib.run_append_nil_zeros (P := P) w t tn ty e i z .i64 kn ht htn hi hz m (by omega) (by omega) (by omega) (by omega)
      have hgr := grown 0 (by omega) (Value.ownBlock (.slice none 0 0))
      simp only [Nat.zero_add, List.nil_append] at hgr ⊢
      rw [hzs, zeroCells_one] at hr
      rw [hzs] at hgr
      simp only [Array.empty_append] at hgr
      exact ⟨_, _, hr, hgr.1, hgr.2, .inr rfl⟩
  · by_cases hroom : n + m ≤ cap
    · have hfit : n * i.size + (List.replicate m z).length ≤ cur.size := by rw [List.length_replicate, hcs, hsize]; omega
      have hst := run_storeCells_at P g (n * i.size) e (List.replicate m z) 0 cur w hg (by simpa using hfit) (fun u hu => by rw [List.eq_of_mem_replicate hu]; exact hz1)
      simp only [Nat.add_zero] at hst
      have hr : (Builtin.append_ #[t, tn] ty #[.slice (some ⟨g, 0, none⟩) n cap, .int .i64 (m : Int)]).run P w = .ok (.slice (some ⟨g, 0, none⟩) (n + m) cap) (w.setRow g (cur.toList.take (n * i.size) ++ List.replicate m z ++ cur.toList.drop (n * i.size + (List.replicate m z).length)).toArray) := by
        by_cases h0 : m = 0
        · subst h0
          simp only [List.replicate_zero, List.length_nil, Nat.add_zero, List.append_nil] at hst ⊢
          have hw0 : IntKind.i64.wrap 0 = 0 := hw
          simp [Builtin.append_, run_underlying ht, run_underlying htn, sizeOf, typeInfo, hi, asInt, asIntOf, hw0, hnc, Addr.add_lit]
          rw [hst]
          simp
        · simp [Builtin.append_, run_underlying ht, run_underlying htn, sizeOf, typeInfo, zeroValue, hi, hz, asInt, asIntOf, hw, hneg, h48i, hroom, h0, hsize, hzs, zeroCells_one, Addr.add_lit]
          rw [hsize, Nat.mul_one, List.length_replicate] at hst
          rw [hst]
          simp
      refine ⟨_, _, hr, ⟨hlen, .inr ⟨g, cap, _, rfl, hbg, setRow_heap w g cur _ e _ hg, hroom, hcm, ?_, ?_⟩⟩, ⟨rfl, rfl, rfl, by simp, fun k _ hk => setRow_other w g k _ (fun e => hk (by simp [Value.ownBlock, e]))⟩, .inl rfl⟩
      · simp only [List.size_toArray, List.length_append, List.length_take, List.length_drop, Array.length_toList, List.length_replicate] at hfit ⊢
        omega
      · rw [hsize, htake, ← hlen]
        exact List.take_left
    · have holds : ∀ j u, xs[j]? = some u → w.cell? ((⟨g, 0, none⟩ : Addr).add j) = some u := hown.cells (g := g) rfl
      have h0 : m ≠ 0 := by omega
      have hgr := grown cap (by omega) (Value.ownBlock (.slice (some ⟨g, 0, none⟩) n cap))
      refine ⟨_, _, ?_, hgr.1, hgr.2, .inr rfl⟩
      have hfo := run_firstCells_some (P := P) w.drew i.size n ⟨g, 0, none⟩ n cap xs (by rw [hsize]; exact hown.1) (by simpa using holds)
      have hf48 := growslice_fits (bytes := i.bytes) (show cap < n + m by omega) (by omega)
      have h63' : ¬ (9223372036854775807 < ((n : Int) + (m : Int))) := by omega
      have h48' : ¬ (281474976710656 < Builtin.nextslicecap (n + m) cap * i.bytes) := by omega
      simp [Builtin.append_, run_underlying ht, run_underlying htn, sizeOf, typeInfo, zeroValue, hi, hz, asInt, asIntOf, hw, hneg, h48i, hroom, h0, hsize, hzs, zeroCells_one, h63', h48', Question.forced, newRow, grownCap]
      rw [hsize] at hfo
      rw [hfo]
      simp
theorem wpList_app_zeros {P : Program} {w : World} {ops : Array Oper} {rest : List Oper} {o : Oper} {a : Act} {Q : Exit → Act → World → Prop} (s x : Operand) {t tn e : TypeId} {z : Value} {bytes : Nat} {kn : IntKind}
    (hE : ElemInfo P t e z 1 bytes) (htn : P.underlying tn = some (.int kn)) (hzs : z.cells = #[z]) (hz1 : z.oneCell' = true) (hgd : o.guard = none) (ho : o.op = .call { callee := .builtin .append, args := #[s, x], argTypes := #[t, tn] })
    {v : Value} (hs : a.eval s = v) (n m : Nat) (hx : a.eval x = .int .i64 (m : Int)) (base : Nat) (xs : List Value) (hown : w.ownsRow base e 1 v n xs)
    (hnm : n + m ≤ 1000000) (hbt : bytes ≤ 1000000) (hbase : base ≤ w.heap.size)
    (h : ∀ v' w', w'.ownsRow base e 1 v' (n + m) (xs ++ List.replicate m z) → w.grownBy w' v.ownBlock → (v'.ownBlock = v.ownBlock ∨ v'.ownBlock = some w.heap.size) → wpList P ops Q rest (a.put o.dst v') w') :
    wpList P ops Q (o :: rest) a w := by
  obtain ⟨i, hi, hz, hsz, hby⟩ := info_parts hE.info
  obtain ⟨v', w', hr, h2, h3, h4⟩ := run_app_zeros (P := P) (w := w) base t tn o.type e i z bytes kn hE.und htn hi hz hsz hby hzs hz1 v n xs hown m hnm hbt hbase
  exact Lib.wpList_append_run w hgd s x t tn ho _ _ hs hx v' w' hr (h v' w' h2 h3 h4)
theorem shape_app : ∀ (a b : List LeP) (m : List Int), shapeF (a ++ b) m = shapeF a m ++ shapeF b (m.drop (roomsF a).length)
  | [], b, m => by simp [shapeF, roomsF]
  | p :: a, b, m => by
    simp only [List.cons_append, shapeF, roomsF]
    split
    · rw [shape_app a b m.tail, List.append_assoc, List.length_cons]
      cases m <;> simp
    · rw [shape_app a b m, List.append_assoc]
theorem shape_yes {l : List LeP} {m : List Int} {k : Nat} (h : k < l.length) (h0 : l[k].words.length = 0) : shapeF (l.take (k + 1)) m = shapeF (l.take k) m ++ List.replicate (m[(roomsF (l.take k)).length]?.getD 0).toNat noW := by
  rw [← List.take_append_getElem h, shape_app]
  congr 1
  simp [shapeF, h0]
theorem shape_no {l : List LeP} {m : List Int} {k : Nat} (h : k < l.length) (h0 : l[k].words.length ≠ 0) : shapeF (l.take (k + 1)) m = shapeF (l.take k) m ++ l[k].words := by
  rw [← List.take_append_getElem h, shape_app]
  congr 1
  simp [shapeF, h0]
theorem shape_len : ∀ (ps : List LeP) (m : List Int), (∀ p ∈ ps, LePOk p) → (∀ x ∈ m, 0 ≤ x ∧ x ≤ 3) → (shapeF ps m).length ≤ 3 * ps.length
  | [], _, _, _ => by simp [shapeF]
  | p :: ps, m, hp, hm => by
    have hpp := hp p (by simp)
    have h1 := hpp.many
    simp only [shapeF]
    split
    · have ih := shape_len ps m.tail (fun q hq => hp q (by simp [hq])) (fun x hx => hm x (List.mem_of_mem_tail hx))
      have h2 : m.headD 0 ≤ 3 := by cases m with
        | nil => simp
        | cons x m => simpa using (hm x (by simp)).2
      simp only [List.length_append, List.length_replicate, List.length_cons]
      omega
    · have ih := shape_len ps m (fun q hq => hp q (by simp [hq])) hm
      simp only [List.length_append, List.length_cons]
      omega
end Go.Proofs.YtelmponkmmfffaaGreat
namespace Go.Proofs.YtelmponkmmfffaaGreat
open Go Go.RowKit Go.Shelf
@[reducible] def mAt (m : List Int) (i : Nat) : Int := m[i]?.getD 0
@[reducible] def manyV (m : List Int) : Value := .agg #[.int .i64 (mAt m 0), .int .i64 (mAt m 1), .int .i64 (mAt m 2), .int .i64 (mAt m 3), .int .i64 (mAt m 4)]
@[reducible] def manyCells (m : List Int) : Array Value := #[.int .i64 (mAt m 0), .int .i64 (mAt m 1), .int .i64 (mAt m 2), .int .i64 (mAt m 3), .int .i64 (mAt m 4)]
theorem U_int : Tryz.prog.underlying 3 = some (.int .i64) := by kernel_rfl
theorem many_cell {W : World} {B : Nat} {t : TypeId} {m : List Int} (h : W.heap[B]? = some (.cells (manyCells m) t (0, 0))) (q : Nat) (hq : q < 5) : W.cell? ⟨B, q, none⟩ = some (.int .i64 (mAt m q)) := by
  have : q = 0 ∨ q = 1 ∨ q = 2 ∨ q = 3 ∨ q = 4 := by omega
  rcases this with rfl | rfl | rfl | rfl | rfl <;> exact blk_cell _ h rfl
theorem mAt_bd {m : List Int} (h : ∀ x ∈ m, 0 ≤ x ∧ x ≤ 3) (q : Nat) : 0 ≤ mAt m q ∧ mAt m q ≤ 3 := by
  unfold mAt
  cases hx : m[q]? with
  | none => simp
  | some x => exact h x (List.mem_of_getElem? hx)
set_option maxRecDepth 100000 in
set_option maxHeartbeats 8000000 in
theorem LShape_any (p0 : Nat) (f : LeF) (m : List Int) (w : World) (hFW : FormW w p0 f) (hok : LeFOk f) (hm : ∀ x ∈ m, 0 ≤ x ∧ x ≤ 3) :
    Calls Tryz.prog 98 #[.pointer (some ⟨p0, 0, none⟩), manyV m] w fun e w' => ∃ a c, e = .returned (.slice a (shapeF f.parts m).length c) ∧ SlOk a (shapeF f.parts m).length c ∧ StrsC w' a (shapeF f.parts m) ∧ Below w.heap.size w w' := by
  obtain ⟨X, hX⟩ : ∃ X : World, X = w.alloc (.cells (manyCells m) 106) := ⟨_, rfl⟩
  have hwX : Below w.heap.size w X := by rw [hX]; exact (Below.refl _ w).alloc (Nat.le_refl _) _
  have g1 : X.heap[w.heap.size]? = some (.cells (manyCells m) 106 (0, 0)) := by rw [hX]; exact alloc_at _ _ rfl
  replace g1 := fun (V : World) (h : Below X.heap.size X V) => (h.block _ (lt_of_block g1)).trans g1
  have HMC : Hid (∀ V, Below X.heap.size X V → ∀ q, q < 5 → V.cell? ⟨w.heap.size, q, none⟩ = some (.int .i64 (mAt m q)) ∧ w.heap.size < V.heap.size) := Lib.hid (fun V h q hq => ⟨many_cell (g1 V h) q hq, lt_of_block (g1 V h)⟩)
  have HMB := Lib.hid (mAt_bd hm)
  have hpok : ∀ p ∈ f.parts, LePOk p := fun p hp => by obtain ⟨i, hi, rfl⟩ := List.getElem_of_mem hp; exact hok.part i hi
  have hpk := Lib.hid hpok
  have hp5 := hok.many
  have hsl := Lib.hid (fun k => show (shapeF (f.parts.take k) m).length ≤ 15 from by
    have := shape_len (f.parts.take k) m (fun p hp => hpok p (List.mem_of_mem_take hp)) hm
    have h2 : (f.parts.take k).length ≤ 5 := by rw [List.length_take]; omega
    omega)
  obtain ⟨ap, kp, ar, kr, HF, hop, hor⟩ := FormW.cells (hFW.mono hwX)
  have HF := Lib.hid HF
  obtain ⟨⟨x0, x1, x2, xz⟩, -, -⟩ := HF.out X (Below.refl _ _)
  clear x0 x2
  have HX := Lib.hid hX
  clear hX g1 hpok hok hFW hm
  go_enter Tryz.func98, Tryz.ntmps98
  go_upto_region 1 with (fail)
  rw [← HX.out]
  clear HX
  go_upto_region 3 with (fail)
  go_loopw [4, 5, 14] (fun l q i V => ∃ k : Nat, k ≤ f.parts.length ∧ q = .int .i64 ((roomsF (f.parts.take k)).length : Int) ∧ i = .int .i64 k ∧ Below X.heap.size X V ∧ V.ownsRow X.heap.size 9 1 l (shapeF (f.parts.take k) m).length ((shapeF (f.parts.take k) m).map Value.string)) (fun _ _ i _ => f.parts.length - (intOf i).toNat)
  case atStart => exact ⟨0, Nat.zero_le _, by simp [roomsF], rfl, Below.refl _ _, by simp only [List.take_zero, shapeF]; exact ⟨rfl, .inl ⟨rfl, rfl⟩⟩⟩
  case round =>
    clear x1 xz
    rename World => V
    obtain ⟨k, hk, rfl, rfl, hbw, hown⟩ := hrel
    by_cases hlt : k < f.parts.length
    · obtain ⟨-, HP, -⟩ := HF.out V hbw
      obtain ⟨b, off, e0, hb, ⟨aw, cw, r0, r1, r2⟩, r3, r4⟩ := HP k hlt
      obtain ⟨Y, hY⟩ : ∃ Y : World, Y = V.alloc (.cells #[.slice aw f.parts[k].words.length cw, .int .i64 f.parts[k].lo, .int .i64 f.parts[k].hi] 62) := ⟨_, rfl⟩
      have hYw : Below V.heap.size V Y := by rw [hY]; exact (Below.refl _ V).alloc (Nat.le_refl _) _
      have g2 : Y.heap[V.heap.size]? = some (.cells #[.slice aw f.parts[k].words.length cw, .int .i64 f.parts[k].lo, .int .i64 f.parts[k].hi] 62 (0, 0)) := by rw [hY]; exact alloc_at _ _ rfl
      have hYr := hbw.trans (hYw.mono hbw.size)
      have HO := Lib.hid (own_below hown hYw)
      have HW := Lib.hid (r2.mono hYw)
      have hlk := hsl.out k
      have HSY := Lib.hid (fun h0 => shape_yes (m := m) hlt h0)
      have HSN := Lib.hid (fun h0 => shape_no (m := m) hlt h0)
      have HRY := Lib.hid (rooms_yes hlt)
      have HRN := Lib.hid (rooms_no hlt)
      have hp3 := (hpk.out _ (List.getElem_mem hlt)).many
      have hrk : (roomsF (f.parts.take k)).length ≤ k := Nat.le_trans (rooms_len _) (by rw [List.length_take]; omega)
      have y0 := blk_cell 0 g2 rfl
      simp only [List.getElem_toArray, List.getElem_cons_zero, List.getElem_cons_succ] at y0
      have yz := lt_of_block g2
      obtain ⟨mc, mz⟩ := HMC.out Y hYr _ (show (roomsF (f.parts.take k)).length < 5 by omega)
      obtain ⟨mv, hmv⟩ : ∃ mv : Nat, mAt m (roomsF (f.parts.take k)).length = mv := ⟨(mAt m (roomsF (f.parts.take k)).length).toNat, by have := (HMB.out (roomsF (f.parts.take k)).length).1; omega⟩
      have hmv3 : mv ≤ 3 := by have := (HMB.out (roomsF (f.parts.take k)).length).2; omega
      have HMV := Lib.hid hmv
      rw [hmv] at mc
      subst e0
      have HY := Lib.hid hY
      clear hY hown hmv HP
      generalize f.parts[k] = p at *
      by_cases h0 : p.words.length = 0
      · have hry := Lib.hid (show (roomsF (f.parts.take (k + 1))).length = (roomsF (f.parts.take k)).length + 1 by rw [HRY.out h0, List.length_append]; rfl)
        have hsy := Lib.hid (show shapeF (f.parts.take (k + 1)) m = shapeF (f.parts.take k) m ++ List.replicate mv noW by have h1 := HSY.out h0; have h2 := HMV.out; unfold mAt at h2; rw [h2] at h1; exact h1)
        rw [h0] at r0 y0 HY g2
        clear HRY HRN HSY HSN r2 HMV HW
        have hr6 : (roomsF (f.parts.take k)).length ≤ 5 := by omega
        generalize (roomsF (f.parts.take k)).length = q at *
        go_upto_region 5 with (fail)
        rw [← HY.out]
        clear HY
        go_wp2_with (at_builtin; go_must (refine wpList_app_zeros (.tmp 26) (.tmp 29) (t := 44) (tn := 3) (e := 9) (kn := .i64) (v := u4) E_str U_int rfl rfl rfl rfl rfl (shapeF (f.parts.take k) m).length mv rfl X.heap.size _ HO.out (by omega) (by decide) (by have := hYr.size; omega) ?_; intro v5 w5 ho5 hg5 _; have hb5 := app_on hYr hYr.size (Nat.le_refl _) HO.out hg5; clear hg5; simp only [Act.put, List.setIfInBounds_toArray, List.set_cons_succ, List.set_cons_zero]))
        go_roundw
        case rel => exact ⟨k + 1, by omega, by rw [hry.out]; go_num, by go_num, hb5, by rw [hsy.out, List.length_append, List.map_append, List.length_replicate, List.map_replicate]; exact ho5⟩
        case measure => simp [intOf]; omega
      · have hz : (0 : Int) < (p.words.length : Int) := by omega
        have hrn := Lib.hid (HRN.out h0)
        have hsn := Lib.hid (HSN.out h0)
        clear HRY HRN HSY HSN r2 mc mz HMV
        go_upto_region 5 with (fail)
        rw [← HY.out]
        clear HY
        go_wp2_with (at_builtin; go_must (refine wpList_app (.tmp 22) (.tmp 24) E_str rfl rfl rfl rfl X.heap.size (shapeF (f.parts.take k) m).length p.words.length _ (p.words.map Value.string) HO.out (SrcAt.strsL r1.2.2 HW.out) (by omega) (by decide) (by have := hYr.size; omega) ?_; intro v6 w6 ho6 hg6 _; have hb6 := app_on hYr hYr.size (Nat.le_refl _) HO.out hg6; clear hg6; simp only [Act.put, List.setIfInBounds_toArray, List.set_cons_succ, List.set_cons_zero]))
        go_roundw
        case rel => exact ⟨k + 1, by omega, by rw [hrn.out], by go_num, hb6, by rw [hsn.out, List.length_append, List.map_append]; exact ho6⟩
        case measure => simp [intOf]; omega
    · obtain rfl : k = f.parts.length := by omega
      rw [List.take_length] at hown
      obtain ⟨a, c, rfl, s1, s2⟩ := StrsV.of_own hown
      go_wp2
      go_ret
      exact ⟨a, c, rfl, s1, s2, hwX.trans (hbw.mono hwX.size)⟩
end Go.Proofs.YtelmponkmmfffaaGreat
namespace Go.Proofs.YtelmponkmmfffaaGreat
open Go Go.RowKit Go.Shelf
theorem store_fnL (P : Program) (w : World) (a : Addr) (m : Mode) (fn : Fn) (first captured : Array Value) : (store a (.func fn first captured) m).run P w = stored P w a (.func fn first captured) m := run_store P w a _ m rfl
/-- What the iterator reads. -/
structure CntZ (A : World) (p1 p0 : Nat) (f : LeF) : Prop where
  p : A.heap[p1]? = some (.cells #[.pointer (some ⟨p0, 0, none⟩)] 95 (0, 0))
  form : FormW A p0 f
@[reducible] def encM (m : List Int) : Array Value := #[manyV m]
/-- The iterator's own cells. -/
structure CntO (A : World) (p1 yb l : Nat) (a : List Int) : Prop where
  y : A.heap[yb]? = some (.cells #[.func (.yield l) #[] #[]] 211 (0, 0))
  m : A.heap[yb + 1]? = some (.cells (manyCells a) 106 (0, 0))
  n : A.heap[yb + 2]? = some (.cells #[.func (.func 133) #[] #[.pointer (some ⟨p1, 0, none⟩), .pointer (some ⟨yb, 0, none⟩), .pointer (some ⟨yb + 1, 0, none⟩), .pointer (some ⟨yb + 2, 0, none⟩)]] 163 (0, 0))
theorem CntO.above {A A' : World} {p1 yb l B : Nat} {a : List Int} (h : CntO A p1 yb l a) (hb : Above B A A') (hB : B ≤ yb) : CntO A' p1 yb l a := ⟨(hb.block _ hB (lt_of_block h.y)).trans h.y, (hb.block _ (by omega) (lt_of_block h.m)).trans h.m, (hb.block _ (by omega) (lt_of_block h.n)).trans h.n⟩
theorem CntO.below {A A' : World} {p1 yb l : Nat} {a : List Int} (h : CntO A p1 yb l a) (hb : Below A.heap.size A A') : CntO A' p1 yb l a := ⟨(hb.block _ (lt_of_block h.y)).trans h.y, (hb.block _ (lt_of_block h.m)).trans h.m, (hb.block _ (lt_of_block h.n)).trans h.n⟩
theorem many_set (a : List Int) (q : Nat) (v : Int) (h : q < a.length) (h5 : q < 5) : (manyCells a).setIfInBounds q (.int .i64 v) = manyCells (a.set q v) := by
  have : q = 0 ∨ q = 1 ∨ q = 2 ∨ q = 3 ∨ q = 4 := by omega
  rcases this with rfl | rfl | rfl | rfl | rfl <;> simp [manyCells, mAt, List.getElem?_set, h]
theorem CntO.set {A : World} {p1 yb l : Nat} {a : List Int} (k : CntO A p1 yb l a) (q : Nat) (v : Int) (h : q < a.length) (h5 : q < 5) : CntO (A.setCell ⟨yb + 1, q, none⟩ (.int .i64 v)) p1 yb l (a.set q v) :=
  ⟨(Below.heap_setCell _ _ _ _ (by simp)).trans k.y, by have := blk_set q (.int .i64 v) k.m; rw [many_set a q v h h5] at this; exact this, (Below.heap_setCell _ _ _ _ (by simp)).trans k.n⟩
theorem take_set_next (a : List Int) (q : Nat) (v : Int) (h : q < a.length) : (a.set q v).take (q + 1) = a.take q ++ [v] := by
  have h' : q < (a.set q v).length := by simpa using h
  rw [← List.take_append_getElem h', List.getElem_set_self, List.take_set_of_le (Nat.le_refl _)]
/-- What comes of a room's first so many numbers. -/
def cntTo (pfx : List Int) (lo : Int) (rs : List (Int × Int)) (c : Nat) : List (List Int) := (List.range c).flatMap fun (k : Nat) => (countsF rs).map fun s => (pfx ++ [lo + (k : Int)]) ++ s
theorem cntTo_succ (pfx : List Int) (lo : Int) (rs : List (Int × Int)) (c : Nat) : cntTo pfx lo rs (c + 1) = cntTo pfx lo rs c ++ (countsF rs).map fun s => (pfx ++ [lo + (c : Int)]) ++ s := by
  unfold cntTo
  rw [List.range_succ, List.flatMap_append]
  simp
theorem cntTo_pre {pfx : List Int} {lo : Int} {rs : List (Int × Int)} {n m : Nat} (hnm : n ≤ m) : cntTo pfx lo rs n <+: cntTo pfx lo rs m := by
  obtain ⟨d, rfl⟩ : ∃ d, m = n + d := ⟨m - n, by omega⟩
  clear hnm
  induction d with
  | zero => exact List.prefix_refl _
  | succ d ih => rw [← Nat.add_assoc, cntTo_succ]; exact ih.trans (List.prefix_append _ _)
theorem cnt_all (pfx : List Int) (r : Int × Int) (rs : List (Int × Int)) : (countsF (r :: rs)).map (fun s => pfx ++ s) = cntTo pfx r.1 rs (r.2 - r.1 + 1).toNat := by
  unfold cntTo
  rw [show countsF (r :: rs) = (List.range (r.2 - r.1 + 1).toNat).flatMap fun (k : Nat) => (countsF rs).map fun m => (r.1 + k) :: m from rfl]
  simp [List.map_flatMap, List.map_map, Function.comp_def, List.append_assoc]
def CntC (rs : List (Int × Int)) (p1 yb l : Nat) (xs : List (List Int)) (J : List (List Int) → World → Prop) (left : Nat) : Prop :=
  ∀ (ri : Int) (q : Nat) (a : List Int) (pre : List (List Int)) (W : World), ri = q → q + left = rs.length → a.length = rs.length → yb + 3 ≤ W.heap.size → CntO W p1 yb l a → J pre W → pre ++ (countsF (rs.drop q)).map (fun s => a.take q ++ s) <+: xs →
    Calls Tryz.prog 133 #[.int .i64 ri, .pointer (some ⟨p1, 0, none⟩), .pointer (some ⟨yb, 0, none⟩), .pointer (some ⟨yb + 1, 0, none⟩), .pointer (some ⟨yb + 2, 0, none⟩)] W fun e W' => e = .returned (.bool true) ∧ J (pre ++ (countsF (rs.drop q)).map (fun s => a.take q ++ s)) W' ∧ yb + 3 ≤ W'.heap.size ∧ ∃ a', a'.length = rs.length ∧ a'.take q = a.take q ∧ CntO W' p1 yb l a'
section
variable (p1 p0 : Nat) (f : LeF) (yb l B : Nat) (xs : List (List Int)) (J : List (List Int) → World → Prop)
set_option maxRecDepth 100000 in
set_option maxHeartbeats 2000000 in
theorem LNext_zero (hB : B ≤ yb) (h5 : (roomsF f.parts).length ≤ 5) (hJ : ∀ s A A', J s A → Below yb A A' → J s A') (hJZ : ∀ s A, J s A → CntZ A p1 p0 f)
    (hY : ∀ pre x W1, J pre W1 → pre ++ [x] <+: xs → YieldAt Fence.wide 0 Tryz.prog l (encM x) W1 fun e W' => e = .returned (.bool true) ∧ J (pre ++ [x]) W' ∧ Above B W1 W') :
    CntC (roomsF f.parts) p1 yb l xs J 0 := by
  intro ri q a pre W hri hql hal hyb hO hj hpre
  have hqn : q = (roomsF f.parts).length := by omega
  rw [List.drop_of_length_le (by omega), show countsF [] = [[]] from rfl, List.map_cons, List.map_nil, List.append_nil, List.take_of_length_le (by omega)] at hpre ⊢
  have hz := hJZ _ _ hj
  obtain ⟨ap, kp, ar, kr, HF, hop, hor⟩ := hz.form.cells
  obtain ⟨⟨-, -, x2, xz⟩, -, -⟩ := HF W (Below.refl _ _)
  have hol := hor.len
  have p0' := blk_cell 0 hz.p rfl
  have pz := lt_of_block hz.p
  obtain ⟨fn, tmps, assign, body, hyr, hR⟩ := hY pre a W hj hpre
  have HR := Lib.hid hR
  have v0 := blk_cell 0 hO.y rfl
  have vz := lt_of_block hO.y
  have c0 := many_cell hO.m
  have d0 := c0 0 (by decide)
  have d1 := c0 1 (by decide)
  have d2 := c0 2 (by decide)
  have d3 := c0 3 (by decide)
  have d4 := c0 4 (by decide)
  have cz := lt_of_block hO.m
  simp only [List.getElem_toArray, List.getElem_cons_zero] at v0 p0'
  have HO := Lib.hid hO
  clear hR hO hz hY hJ hJZ hpre hj HF c0
  subst hri
  generalize hn : (roomsF f.parts).length = n at *
  subst hqn
  dsimp only [encM, manyV] at hyr
  go_enter Tryz.func133, Tryz.ntmps133
  go_upto_region 2 with (fail)
  refine (wpIn_wide (n := 0)).1 ?_
  gi_wp2
  refine ⟨rfl, HR.out.mono ?_⟩
  rintro e W2 ⟨rfl, hj2, hab⟩
  gi_wp2
  go_wp2
  (try rw [Exit.noGoto_ret])
  go_ret
  exact ⟨rfl, hj2, Nat.le_trans hyb hab.size, a, hal, List.take_of_length_le (by omega), HO.out.above hab hB⟩
set_option maxRecDepth 100000 in
set_option maxHeartbeats 4000000 in
theorem LNext_step (hB : B ≤ yb) (h5 : (roomsF f.parts).length ≤ 5) (hrk : ∀ r ∈ roomsF f.parts, 0 ≤ r.1 ∧ r.1 ≤ r.2 ∧ r.2 ≤ 3) (hJ : ∀ s A A', J s A → Below yb A A' → J s A') (hJZ : ∀ s A, J s A → CntZ A p1 p0 f)
    (left : Nat) (IH : CntC (roomsF f.parts) p1 yb l xs J left) : CntC (roomsF f.parts) p1 yb l xs J (left + 1) := by
  intro ri q a pre W hri hql hal hyb hO hj hpre
  have hqn : q < (roomsF f.parts).length := by omega
  have hro := hrk _ (List.getElem_mem hqn)
  have hdr := List.drop_eq_getElem_cons hqn
  rw [hdr, cnt_all] at hpre ⊢
  have HPP := Lib.hid hpre
  have HI := Lib.hid IH
  have HJ := Lib.hid hJ
  have KC := Lib.hid (fun (A : World) (h : J pre A ∨ ∃ s, J s A) => (show CntZ A p1 p0 f from h.elim (hJZ _ _) (fun ⟨s, hs⟩ => hJZ s A hs)))
  have KF := Lib.hid (fun (A : World) (s : List (List Int)) (h : J s A) => (by
    have hz := hJZ s A h
    obtain ⟨ap, kp, ar, kr, HF, hop, hor⟩ := hz.form.cells
    obtain ⟨⟨-, -, x2, xz⟩, -, hS⟩ := HF A (Below.refl _ _)
    obtain ⟨b, off, e, hb, h1, h2⟩ := hS q hqn
    exact ⟨blk_cell 0 hz.p rfl, lt_of_block hz.p, b, off, kr, e ▸ x2, xz, hb, h1, h2, e ▸ hor⟩ : A.cell? ⟨p1, 0, none⟩ = some (.pointer (some ⟨p0, 0, none⟩)) ∧ p1 < A.heap.size ∧ ∃ b off kr, A.cell? ⟨p0, 2, none⟩ = some (.slice (some ⟨b, off, none⟩) (roomsF f.parts).length kr) ∧ p0 < A.heap.size ∧ b < A.heap.size ∧ A.cell? ⟨b, off + q * 2, none⟩ = some (.int .i64 (roomsF f.parts)[q].1) ∧ A.cell? ⟨b, off + q * 2 + 1, none⟩ = some (.int .i64 (roomsF f.parts)[q].2) ∧ SlOk (some ⟨b, off, none⟩) (roomsF f.parts).length kr))
  obtain ⟨p0', pz, b, off, kr, x2, xz, hb, h1, h2, hor⟩ := KF.out W pre hj
  have hol := hor.len
  have HO := Lib.hid hO
  have HJ0 := Lib.hid hj
  have hqI : (q : Int) < ((roomsF f.parts).length : Int) := by omega
  have hqe : ((q : Int) == ((roomsF f.parts).length : Int)) = false := eqi_f (by omega)
  have HQN := Lib.hid hqn
  clear hO hpre IH hJ hJZ hrk hj KC
  have HD := Lib.hid hdr
  clear hdr
  have HAL := Lib.hid hal
  have HQL := Lib.hid hql
  clear hal hql
  obtain ⟨rest, hre⟩ : ∃ rest, (roomsF f.parts).drop (q + 1) = rest := ⟨_, rfl⟩
  have HR1 := Lib.hid hre
  rw [hre] at HPP HD ⊢
  clear hre
  generalize (roomsF f.parts)[q].1 = lo at *
  generalize (roomsF f.parts)[q].2 = hi at *
  subst hri
  go_enter Tryz.func133, Tryz.ntmps133
  go_upto_region 4 with (fail)
  go_loopw [7] (fun v V => ∃ c : Nat, (c : Int) ≤ hi - lo + 1 ∧ v = .int .i64 (lo + (c : Int)) ∧ J (pre ++ cntTo (a.take q) lo rest c) V ∧ yb + 3 ≤ V.heap.size ∧ ∃ a', a'.length = (roomsF f.parts).length ∧ a'.take q = a.take q ∧ CntO V p1 yb l a') (fun v _ => (hi - intOf v + 1).toNat)
  case atStart => exact ⟨0, by omega, by simp, by simpa [cntTo] using HJ0.out, hyb, a, HAL.out, rfl, HO.out⟩
  case round =>
    clear p0' pz x2 xz hb h1 h2 hor hol hqe
    rename World => V
    obtain ⟨c, hc, rfl, hj, hyV, a', ha', hta, hOV⟩ := hrel
    obtain ⟨p0', pz, b, off, kr, x2, xz, hb, h1, h2, hor⟩ := KF.out V _ hj
    have hol := hor.len
    by_cases hlt : (c : Int) ≤ hi - lo
    · have hle : lo + (c : Int) ≤ hi := by omega
      have m1 := many_cell hOV.m q (by omega)
      have f1 := blk_free q hOV.m
      have mz := lt_of_block hOV.m
      have hq5 : (q : Int) < 5 := by omega
      go_upto_region 7 with (fail)
      obtain ⟨Y, hY⟩ : ∃ Y : World, Y = V.setCell ⟨yb + 1, q, none⟩ (.int .i64 (lo + (c : Int))) := ⟨_, rfl⟩
      rw [← hY]
      have hbY : Below yb V Y := by rw [hY]; exact (Below.refl _ _).setCell (by simp) _
      have hOY : CntO Y p1 yb l (a'.set q (lo + (c : Int))) := by rw [hY]; exact hOV.set q _ (by omega) (by omega)
      have hyY : yb + 3 ≤ Y.heap.size := by have := hbY.size; omega
      clear hY m1 f1 mz p0' pz x2 xz hb h1 h2 hor hol
      have hjY := HJ.out _ _ _ hj hbY
      have hts : (a'.set q (lo + (c : Int))).take (q + 1) = a.take q ++ [lo + (c : Int)] := by rw [take_set_next a' q _ (by omega), hta]
      have NX := HI.out ((q : Int) + 1) (q + 1) (a'.set q (lo + (c : Int))) _ Y (by omega) (by have := HQL.out; omega) (by rw [List.length_set]; exact ha') hyY hOY hjY (by
        rw [hts, HR1.out, List.append_assoc, ← cntTo_succ]
        exact (List.prefix_append_right_inj pre).2 (cntTo_pre (by omega)) |>.trans HPP.out)
      rw [hts, HR1.out, List.append_assoc, ← cntTo_succ] at NX
      have NX := Lib.hid NX
      have n0 := blk_cell 0 hOY.n rfl
      have nz := lt_of_block hOY.n
      simp only [List.getElem_toArray, List.getElem_cons_zero] at n0
      clear hOY hjY hbY hOV hj
      go_wp2_with (go_at_call 133; go_must ((with_reducible refine NX.out.mono ?_); rintro e w4 ⟨rfl, hj4, hy4, a4, ha4, ht4, hO4⟩; dsimp only))
      go_roundw
      case rel => exact ⟨c + 1, by omega, by go_num, hj4, hy4, a4, ha4, by
        have h9 := congrArg (List.take q) ht4
        rw [List.take_take, Nat.min_eq_left (by omega), List.take_append_of_le_length (by rw [List.length_take]; have := HAL.out; have := HQN.out; omega), List.take_take, Nat.min_self] at h9
        exact h9, hO4⟩
      case measure => simp [intOf]; omega
    · have hce : c = (hi - lo + 1).toNat := by omega
      subst hce
      have hle : ¬ lo + (((hi - lo + 1).toNat : Nat) : Int) ≤ hi := by omega
      go_wp2
      (try rw [Exit.noGoto_ret])
      go_ret
      exact ⟨rfl, hj, hyV, a', ha', hta, hOV⟩
theorem LNext_all (hB : B ≤ yb) (h5 : (roomsF f.parts).length ≤ 5) (hrk : ∀ r ∈ roomsF f.parts, 0 ≤ r.1 ∧ r.1 ≤ r.2 ∧ r.2 ≤ 3) (hJ : ∀ s A A', J s A → Below yb A A' → J s A') (hJZ : ∀ s A, J s A → CntZ A p1 p0 f)
    (hY : ∀ pre x W1, J pre W1 → pre ++ [x] <+: xs → YieldAt Fence.wide 0 Tryz.prog l (encM x) W1 fun e W' => e = .returned (.bool true) ∧ J (pre ++ [x]) W' ∧ Above B W1 W') :
    ∀ left, CntC (roomsF f.parts) p1 yb l xs J left
  | 0 => LNext_zero p1 p0 f yb l B xs J hB h5 hJ hJZ hY
  | left + 1 => LNext_step p1 p0 f yb l B xs J hB h5 hrk hJ hJZ left (LNext_all hB h5 hrk hJ hJZ hY left)
end
attribute [local go_sem] store_fnL
set_option maxRecDepth 100000 in
set_option maxHeartbeats 2000000 in
theorem LCounts1_any (p1 p0 : Nat) (f : LeF) (l B : Nat) (J : List (List Int) → World → Prop) (W : World) (hok : LeFOk f) (hB : B ≤ W.heap.size) (hJ : ∀ s A A', J s A → Below W.heap.size A A' → J s A') (hJZ : ∀ s A, J s A → CntZ A p1 p0 f)
    (hY : ∀ pre x W1, J pre W1 → pre ++ [x] <+: countsF (roomsF f.parts) → YieldAt Fence.wide 0 Tryz.prog l (encM x) W1 fun e W' => e = .returned (.bool true) ∧ J (pre ++ [x]) W' ∧ Above B W1 W') (hj : J [] W) :
    Calls Tryz.prog 132 #[.func (.yield l) #[] #[], .pointer (some ⟨p1, 0, none⟩)] W fun e W' => (∃ v, e = .returned v) ∧ J (countsF (roomsF f.parts)) W' := by
  have hpok : ∀ p ∈ f.parts, LePOk p := fun p hp => by obtain ⟨i, hi, rfl⟩ := List.getElem_of_mem hp; exact hok.part i hi
  have h5 : (roomsF f.parts).length ≤ 5 := Nat.le_trans (rooms_len _) hok.many
  have CN := LNext_all p1 p0 f W.heap.size l B (countsF (roomsF f.parts)) J hB h5 (rooms_ok _ hpok) hJ hJZ hY (roomsF f.parts).length 0 0 (List.replicate (roomsF f.parts).length 0) []
  simp only [List.drop_zero, List.take_zero, List.nil_append, List.map_id'] at CN
  replace CN := Lib.hid (fun V h1 h2 h3 => CN V rfl (by omega) (by simp) h1 h2 h3 (List.prefix_refl _))
  have hm0 : manyCells (List.replicate (roomsF f.parts).length 0) = #[.int .i64 0, .int .i64 0, .int .i64 0, .int .i64 0, .int .i64 0] := by
    have hq : ∀ i, mAt (List.replicate (roomsF f.parts).length 0) i = 0 := fun i => by
      unfold mAt
      rw [List.getElem?_replicate]
      split <;> rfl
    simp only [manyCells, hq]
  have HJ := Lib.hid hJ
  have HJ0 := Lib.hid hj
  have hz := hJZ _ _ hj
  have p0' := blk_cell 0 hz.p rfl
  have pz := lt_of_block hz.p
  simp only [List.getElem_toArray, List.getElem_cons_zero] at p0'
  clear hJ hJZ hY hj hz hpok hok
  have HM0 := Lib.hid hm0
  clear hm0
  go_enter Tryz.func132, Tryz.ntmps132
  go_upto_region 4 with (fail)
  obtain ⟨Y, hY⟩ : ∃ Y : World, Y = ((W.alloc (.cells #[.func (.yield l) #[] #[]] 211)).alloc (.cells #[.int .i64 0, .int .i64 0, .int .i64 0, .int .i64 0, .int .i64 0] 106)).alloc (.cells #[.func (.func 133) #[] #[.pointer (some ⟨p1, 0, none⟩), .pointer (some ⟨W.heap.size, 0, none⟩), .pointer (some ⟨W.heap.size + 1, 0, none⟩), .pointer (some ⟨W.heap.size + 1 + 1, 0, none⟩)]] 163) := ⟨_, rfl⟩
  rw [← hY]
  have hbY : Below W.heap.size W Y := by rw [hY]; exact (((Below.refl _ _).alloc (Nat.le_refl _) _).alloc (by simp) _).alloc (by simp; omega) _
  have hYs : W.heap.size + 3 ≤ Y.heap.size := by rw [hY]; simp
  have hOY : CntO Y p1 W.heap.size l (List.replicate (roomsF f.parts).length 0) := by
    refine ⟨?_, ?_, ?_⟩
    · rw [hY]
      exact (heap_alloc_old _ _ (by simp; omega)).trans ((heap_alloc_old _ _ (by simp)).trans (alloc_at _ _ rfl))
    · rw [HM0.out, hY]
      exact (heap_alloc_old _ _ (by simp)).trans (alloc_at _ _ (by simp))
    · rw [hY]
      exact alloc_at _ _ (by simp)
  have hjY := HJ.out _ _ _ HJ0.out hbY
  clear hY
  have CC := Lib.hid (show Calls Tryz.prog 133 #[.int .i64 0, .pointer (some ⟨p1, 0, none⟩), .pointer (some ⟨W.heap.size, 0, none⟩), .pointer (some ⟨W.heap.size + 1, 0, none⟩), .pointer (some ⟨W.heap.size + 1 + 1, 0, none⟩)] Y _ from CN.out Y hYs hOY hjY)
  have n0 : Y.cell? ⟨W.heap.size + 1 + 1, 0, none⟩ = some (.func (.func 133) #[] #[.pointer (some ⟨p1, 0, none⟩), .pointer (some ⟨W.heap.size, 0, none⟩), .pointer (some ⟨W.heap.size + 1, 0, none⟩), .pointer (some ⟨W.heap.size + 1 + 1, 0, none⟩)]) := blk_cell 0 hOY.n rfl
  have nz : W.heap.size + 1 + 1 < Y.heap.size := lt_of_block hOY.n
  clear hOY hjY hbY p0' pz CN hYs
  go_wp2_with (go_at_call 133; go_must ((with_reducible refine CC.out.mono ?_); rintro e w2 ⟨rfl, hj2, -⟩; dsimp only))
  go_end0
  exact ⟨⟨_, rfl⟩, hj2⟩
set_option maxHeartbeats 1000000 in
theorem LCounts_any (p0 : Nat) (w : World) :
    Calls Tryz.prog 96 #[.pointer (some ⟨p0, 0, none⟩)] w fun e w' => e = .returned (.func (.func 132) #[] #[.pointer (some ⟨w.heap.size, 0, none⟩)]) ∧ w' = w.alloc (.cells #[.pointer (some ⟨p0, 0, none⟩)] 95) := by
  go_enter Tryz.func96, Tryz.ntmps96
  go_wp2
  go_ret
  exact ⟨by simp, rfl⟩
theorem LCnt_seq (p1 p0 : Nat) (f : LeF) (w0 : World) (hok : LeFOk f) :
    SeqT Tryz.prog 132 #[.pointer (some ⟨p1, 0, none⟩)] encM w0.heap.size (fun A => CntZ A p1 p0 f) (countsF (roomsF f.parts)) w0 :=
  fun l J W _ hz hJ hJZ hY hj => callsIn_wide.2 (LCounts1_any p1 p0 f l w0.heap.size J W hok hz hJ hJZ hY hj)
end Go.Proofs.YtelmponkmmfffaaGreat
