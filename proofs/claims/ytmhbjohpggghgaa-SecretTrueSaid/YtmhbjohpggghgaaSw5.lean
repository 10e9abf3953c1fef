/- What is proved here: the contract of the laws' Heard of layer 12. Conditions: the room lies in memory and is valid. -/
import Derived.Test.YtmhbjohpggghgaaSwA
import Derived.Test.YtmhbjohpggghgaaEndG
set_option linter.unusedVariables false
set_option linter.unusedSimpArgs false
namespace Go.Proofs.Ytmhbjohpggghgaa
open Go Go.RowKit Go.Shelf

theorem heards_set (l : List SeHeard) (i : Nat) (h : i < l.length) (x : SeHeard) :
    ((((flatC heardCells l).set (i * 4) (.int .i64 x.writer)).set (i * 4 + 1) (.int .i64 x.secret)).set (i * 4 + 2) (.int .i64 x.day)).set (i * 4 + 3) (.bool x.knew) = flatC heardCells (l.set i x) := by
  induction l generalizing i with
  | nil => simp at h
  | cons y l ih =>
    show (((((.int .i64 y.writer :: .int .i64 y.secret :: .int .i64 y.day :: .bool y.knew :: flatC heardCells l : List Value).set (i * 4) _).set (i * 4 + 1) _).set (i * 4 + 2) _).set (i * 4 + 3) _) = _
    cases i with
    | zero => rfl
    | succ i =>
      have := ih i (by simpa using h)
      rw [show (i + 1) * 4 = i * 4 + 4 from by omega, show i * 4 + 4 + 1 = i * 4 + 1 + 4 from by omega, show i * 4 + 4 + 2 = i * 4 + 2 + 4 from by omega, show i * 4 + 4 + 3 = i * 4 + 3 + 4 from by omega]
      simp only [List.set_cons_succ, this]
      rfl
def hearTo (r : SeRoom) (l : List Int) (k : Nat) : List SeHeard := r.heard.mapIdx fun i h => if i < k then hearOne r l h else h
theorem hearTo_len (r : SeRoom) (l : List Int) (k : Nat) : (hearTo r l k).length = r.heard.length := by simp [hearTo]
theorem hearTo_zero (r : SeRoom) (l : List Int) : hearTo r l 0 = r.heard := by
  apply List.ext_getElem
  · simp [hearTo]
  · intro i h1 h2; simp [hearTo]
theorem hearTo_all (r : SeRoom) (l : List Int) : hearTo r l r.heard.length = r.heard.map (hearOne r l) := by
  apply List.ext_getElem
  · simp [hearTo]
  · intro i h1 h2
    have : i < r.heard.length := by simpa using h2
    simp [hearTo, this]
theorem hearTo_at (r : SeRoom) (l : List Int) (k : Nat) (h : k < r.heard.length) : (hearTo r l k)[k]'(by rw [hearTo_len]; exact h) = r.heard[k] := by simp [hearTo]
theorem hearTo_succ (r : SeRoom) (l : List Int) (k : Nat) (h : k < r.heard.length) : hearTo r l (k + 1) = (hearTo r l k).set k (hearOne r l r.heard[k]) := by
  apply List.ext_getElem
  · simp [hearTo]
  · intro i h1 h2
    have hi : i < r.heard.length := by simpa [hearTo] using h1
    rw [List.getElem_set]
    by_cases e : k = i
    · subst e; simp [hearTo]
    · rw [if_neg e]
      by_cases hk : i < k
      · simp [hearTo, hk, show i < k + 1 by omega]
      · simp [hearTo, hk, show ¬ i < k + 1 by omega]
theorem hearTo_err {r : SeRoom} (h : seErr r = 0) (l : List Int) (k : Nat) : seErr (withHeard r (hearTo r l k)) = 0 := by
  have hp := seParts.1 h
  refine withHeard_err h (by rw [hearTo_len]; exact hp.nh) fun x hx => ?_
  obtain ⟨i, hi, rfl⟩ := List.getElem_of_mem hx
  have hi2 : i < r.heard.length := by rw [hearTo_len] at hi; exact hi
  have := heard_all.1 hp.h _ (List.getElem_mem hi2)
  have e : (hearTo r l k)[i]'(by rw [hearTo_len]; exact hi2) = if i < k then hearOne r l r.heard[i] else r.heard[i] := by simp [hearTo]
  show heardErrOf r ((hearTo r l k)[i]'(by rw [hearTo_len]; exact hi2)) = 0
  rw [e]
  split
  · exact this
  · exact this
theorem IntsC.lowB {B : Nat} {Z V : World} {a : Option Addr} {l : List Int} (h : IntsC Z a l) (hlt : ∀ i, i < l.length → ∀ b off, a = some ⟨b, off, none⟩ → b < B) (hz : B ≤ V.heap.size) (hb : Below B Z V) : IntsC V a l := fun i hi => by
  obtain ⟨b, off, e, h1, h2⟩ := h i hi
  exact ⟨b, off, e, Nat.lt_of_lt_of_le (hlt i hi b off e) hz, (hb.cell (p := ⟨b, off + i, none⟩) (hlt i hi b off e)).trans h2⟩
theorem IntsC.lt {Z : World} {a : Option Addr} {l : List Int} (h : IntsC Z a l) : ∀ i, i < l.length → ∀ b off, a = some ⟨b, off, none⟩ → b < Z.heap.size := fun i hi b off e => by
  obtain ⟨b2, off2, e2, h1, _⟩ := h i hi
  rw [e2] at e; cases e; exact h1

theorem far1 {X : World} {g b o a : Nat} {u : Value} (h : b ≠ g) : (X.setCell ⟨g, a, none⟩ u).cell? ⟨b, o, none⟩ = X.cell? ⟨b, o, none⟩ :=
  World.cell?_of_block (a := ⟨b, o, none⟩) (Below.heap_setCell X ⟨g, a, none⟩ u b h)
theorem ints_apart {W : World} {a : Option Addr} {l : List Int} {b : Nat} {cs : Array Value} {t : TypeId} (h : IntsC W a l) (hb : W.heap[b]? = some (.cells cs t (0, 0))) (hno : ∀ (o : Nat) (x : Int), cs[o]? ≠ some (.int .i64 x)) : ∀ i, i < l.length → ∀ b2 off, a = some ⟨b2, off, none⟩ → b2 ≠ b := fun i hi b2 off e he => by
  obtain ⟨b3, off3, e3, _, h2⟩ := h i hi
  rw [e3] at e
  cases e
  subst he
  simp only [World.cell?, hb] at h2
  exact hno _ _ h2
theorem ints_set {W : World} {a : Option Addr} {l : List Int} {b o : Nat} {v : Value} (h : IntsC W a l) (hne : ∀ i, i < l.length → ∀ b2 off, a = some ⟨b2, off, none⟩ → b2 ≠ b) : IntsC (W.setCell ⟨b, o, none⟩ v) a l := fun i hi => by
  obtain ⟨b3, off3, e3, h1, h2⟩ := h i hi
  exact ⟨b3, off3, e3, by simpa using h1, (World.cell?_of_block (a := ⟨b3, off3 + i, none⟩) (Below.heap_setCell W ⟨b, o, none⟩ v b3 (hne i hi b3 off3 e3))).trans h2⟩
theorem no_int5 {v1 v2 v3 v4 v5 : Option Addr} {n1 n2 n3 n4 n5 m1 m2 m3 m4 m5 : Nat} : ∀ (o : Nat) (x : Int), (#[Value.slice v1 n1 m1, .slice v2 n2 m2, .slice v3 n3 m3, .slice v4 n4 m4, .slice v5 n5 m5] : Array Value)[o]? ≠ some (.int .i64 x) := fun o x h => by
  match o, h with
  | 0, h => simp at h
  | 1, h => simp at h
  | 2, h => simp at h
  | 3, h => simp at h
  | 4, h => simp at h
  | o + 5, h => simp at h
set_option maxRecDepth 100000 in
set_option maxHeartbeats 4000000 in
theorem Heard_any (a1 a2 a3 a4 a5 : Option Addr) (k1 k2 k3 k4 k5 : Nat) (r : SeRoom) (x : Nat) (hx : x ≤ 255) (l : List Int) (hl0 : (seSets r)[x % (seSets r).length]? = some l) (w : World) (hm : RoomC w a1 a2 a3 a4 a5 k1 k2 k3 k4 k5 r) (he : seErr r = 0) :
    Calls Try.prog 38 #[(.agg #[.slice a1 r.writers.length k1, .slice a2 r.kept.length k2, .slice a3 r.leaks.length k3, .slice a4 r.letters.length k4, .slice a5 r.heard.length k5]), .int .u8 (x : Int)] w fun e w' => ∃ b5 d5 al cl, e = .returned (.tuple #[.agg #[.slice a1 r.writers.length k1, .slice a2 r.kept.length k2, .slice a3 r.leaks.length k3, .slice a4 r.letters.length k4, .slice b5 (hearAs r l).heard.length d5], .slice al l.length cl]) ∧
      RoomC w' a1 a2 a3 a4 b5 k1 k2 k3 k4 d5 (hearAs r l) ∧ SlOk al l.length cl ∧ IntsC w' al l ∧ Below w.heap.size w w' := by
  have hv := seValid_of he
  have l5 := hm.ok5.len
  have vh := hv.nh
  obtain ⟨Y, hY⟩ : ∃ Y : World, Y = (w.alloc (.cells #[.slice a1 r.writers.length k1, .slice a2 r.kept.length k2, .slice a3 r.leaks.length k3, .slice a4 r.letters.length k4, .slice a5 r.heard.length k5] 28)).alloc (.cells #[.slice none 0 0, .slice none 0 0, .slice none 0 0, .slice none 0 0, .slice none 0 0] 28) := ⟨_, rfl⟩
  have hYs : Y.heap.size = w.heap.size + 2 := by rw [hY]; simp
  have hB0 : Below (w.heap.size + 1) (w.alloc (.cells #[.slice a1 r.writers.length k1, .slice a2 r.kept.length k2, .slice a3 r.leaks.length k3, .slice a4 r.letters.length k4, .slice a5 r.heard.length k5] 28)) Y := by rw [hY]; exact (Below.refl _ _).alloc (by simp) _
  have hX0 : Y.heap[w.heap.size]? = some (.cells #[.slice a1 r.writers.length k1, .slice a2 r.kept.length k2, .slice a3 r.leaks.length k3, .slice a4 r.letters.length k4, .slice a5 r.heard.length k5] 28 (0, 0)) := by rw [hY]; exact (heap_alloc_old _ _ (by simp)).trans (alloc_at _ _ rfl)
  have hX1 : Y.heap[w.heap.size + 1]? = some (.cells #[.slice none 0 0, .slice none 0 0, .slice none 0 0, .slice none 0 0, .slice none 0 0] 28 (0, 0)) := by rw [hY]; exact alloc_at _ _ (by simp)
  have hbY := box_old hB0
  have hbd : ∀ t ∈ seSets r, ∀ x ∈ t, 0 ≤ x ∧ x < (r.leaks.length : Int) := setsTo_bd r r.leaks.length
  have hpos : 0 < (seSets r).length := sets_pos r r.leaks.length
  have SE := RSets_any a1 a2 a3 a4 a5 k1 k2 k3 k4 k5 r Y (hm.mono hbY) hv
  obtain ⟨x0, x1, x2, x3, x4, z0⟩ := box_room hB0
  generalize seSets r = S at SE hl0 hbd hpos
  have hxn := Nat.mod_lt x hpos
  have hll : S[x % S.length] = l := by rw [List.getElem?_eq_getElem hxn] at hl0; exact Option.some.inj hl0
  have hlb := hbd l (by rw [← hll]; exact List.getElem_mem hxn)
  clear hl0 hbd
  have HLL := Lib.hid hll
  clear hll
  replace SE := Lib.hid SE
  go_enter Try.func38, Try.ntmps38
  go_upto_region 1 with (fail)
  rw [← hY]
  clear hY
  go_upto_region 2 with (go_at_call 103; go_must ((with_reducible refine SE.out.mono ?_); rintro e w2 ⟨v, rfl, ⟨aS, cS, rfl, hsS, hrS⟩, hb2⟩; dsimp only))
  obtain ⟨bS, oS, a', c', rfl, hbS, hcS, hsl, hints⟩ := hrS (x % S.length) hxn
  rw [HLL.out] at hcS hsl hints
  have hSl := hsS.len
  have hS0 : (S.length : Int) ≠ 0 := by omega
  have hY2 := hb2.size
  have hbw2 := hbY.trans (hb2.mono hbY.size)
  have hR2 := (hb2.block _ (lt_of_block hX0)).trans hX0
  have hR1 := (hb2.block _ (lt_of_block hX1)).trans hX1
  have x4' : w2.cell? ⟨w.heap.size, 4, none⟩ = some (.slice a5 r.heard.length k5) := blk_cell 4 hR2 rfl
  have f4 := blk_free 4 hR2
  have z2 := lt_of_block hR2
  clear x0 x1 x2 x3 x4 z0
  go_upto_region 4 with (at_builtin; go_must (refine wpList_app (.tmp 20) (.tmp 22) E_heard rfl rfl rfl rfl w2.heap.size 0 r.heard.length [] (flatC heardCells r.heard) (made_row w2 _ 4) ?g1 (by omega) (by decide) (by simp) ?_; (case g1 => exact SrcAt.heard hm.ok5.2.2 ((hm.heard.mono hbw2).mono (al_on _ _))); intro v1 w3 ho1 hg1 _; simp only [Nat.zero_add, List.nil_append] at ho1; (have hb3 := app_fresh (n := 0) (c := 0) hg1); clear hg1; (obtain ⟨-, a9, c9, rfl, hs9, -⟩ := heard_own ho1); (have x4' := cell_below hb3 x4'); (have hR3 := (hb3.block _ (lt_of_block hR2)).trans hR2); (have f4 := blk_free 4 hR3); (have z2 := lt_of_block hR3); simp only [Act.put, List.setIfInBounds_toArray, List.set_cons_succ, List.set_cons_zero]))
  obtain ⟨Z, hZ⟩ : ∃ Z : World, Z = w3.setCell ⟨w.heap.size, 4, none⟩ (.slice a9 r.heard.length c9) := ⟨_, rfl⟩
  rw [← hZ]
  have hwlt : w.heap.size < w2.heap.size := by omega
  have hwlt1 : w.heap.size + 1 < w2.heap.size := by omega
  have hZ0 : Z.heap[w.heap.size]? = some (.cells #[.slice a1 r.writers.length k1, .slice a2 r.kept.length k2, .slice a3 r.leaks.length k3, .slice a4 r.letters.length k4, .slice a9 r.heard.length c9] 28 (0, 0)) := by rw [hZ]; exact blk_set 4 _ hR3
  have hZ1 : Z.heap[w.heap.size + 1]? = some (.cells #[.slice none 0 0, .slice none 0 0, .slice none 0 0, .slice none 0 0, .slice none 0 0] 28 (0, 0)) := by rw [hZ]; exact (Below.heap_setCell _ _ _ _ (by simp)).trans ((hb3.block _ (lt_of_block hR1)).trans hR1)
  have hoZ : Z.ownsRow w2.heap.size 74 4 (.slice a9 r.heard.length c9) r.heard.length (flatC heardCells r.heard) := by rw [hZ]; exact ownsRow_setCell_other ho1 (fun e => by have := (ho1.lt _ e).1; simp only at this; omega) _
  have hbZ : Below w.heap.size w Z := by rw [hZ]; exact (hbw2.trans (hb3.mono hbw2.size)).setCell (by simp) _
  have hiZ : IntsC Z a' l := by rw [hZ]; exact ints_set (hints.mono hb3) (ints_apart (hints.mono hb3) hR3 no_int5)
  have hiltZ : ∀ i, i < l.length → ∀ b off, a' = some ⟨b, off, none⟩ → b < w2.heap.size := hints.lt
  have hzZ : w2.heap.size ≤ Z.heap.size := by rw [hZ]; simpa using hb3.size
  clear hZ hR3 hb3 ho1 x4' f4 z2
  go_wp2
  go_loopw [8] (fun i wr => ∃ k : Nat, k ≤ r.heard.length ∧ i = .int .i64 k ∧ wr.ownsRow w2.heap.size 74 4 (.slice a9 r.heard.length c9) r.heard.length (flatC heardCells (hearTo r l k)) ∧ Below w2.heap.size Z wr) (fun i _ => r.heard.length - (intOf i).toNat)
  case atStart => exact ⟨0, Nat.zero_le _, rfl, by rw [hearTo_zero]; exact hoZ, Below.refl _ _⟩
  case round =>
    obtain ⟨k, hk, rfl, hown, hbw⟩ := hrel
    have hzr : w2.heap.size ≤ wr.heap.size := Nat.le_trans hzZ hbw.size
    have hB0' := (hbw.block _ hwlt).trans hZ0
    have x4 : wr.cell? ⟨w.heap.size, 4, none⟩ = some (.slice a9 r.heard.length c9) := blk_cell 4 hB0' rfl
    have z0 := lt_of_block hB0'
    have hbwr : Below w.heap.size w wr := hbZ.trans (hbw.mono (by omega))
    have hints2 : IntsC wr a' l := hiZ.lowB hiltZ hzr hbw
    by_cases hlt : k < r.heard.length
    · rcases hown.2 with ⟨_, hn0⟩ | ⟨g, cap, cur, hvv, hbg, hgg, _⟩
      · omega
      obtain ⟨rfl, rfl⟩ : a9 = some ⟨g, 0, none⟩ ∧ c9 = cap := by cases hvv; exact ⟨rfl, rfl⟩
      clear hvv
      have hgl := lt_of_block hgg
      have hget := flatC_get heardCells_len (hearTo r l k) k (by rw [hearTo_len]; exact hlt)
      rw [hearTo_at r l k hlt] at hget
      have hxv := hv.heard k hlt
      have hsu := Lib.hid (hearTo_succ r l k hlt)
      have hlenk : (flatC heardCells (hearTo r l k)).length = r.heard.length * 4 := by rw [flatC_len heardCells_len, hearTo_len]
      have hset := heards_set (hearTo r l k) k (by rw [hearTo_len]; exact hlt) (hearOne r l r.heard[k])
      rw [← hsu.out] at hset
      generalize r.heard[k] = xx at hget hxv hset
      obtain ⟨xw, xs, xd, xk⟩ := xx
      simp only at hxv
      obtain ⟨u, rfl⟩ : ∃ u : Nat, xw = u := ⟨xw.toNat, by omega⟩
      obtain ⟨sc, rfl⟩ : ∃ sc : Nat, xs = sc := ⟨xs.toNat, by omega⟩
      have hul : u < r.writers.length := by omega
      have vk := hv.nk
      have hsc : sc ≤ 3 := by omega
      have hset2 := Lib.hid hset
      clear hset
      have q0 : wr.cell? ⟨g, k * 4, none⟩ = some (.int .i64 (u : Int)) := (hown.cellAt (k * 4) (by omega)).trans (hget 0 (by omega))
      have q1 : wr.cell? ⟨g, k * 4 + 1, none⟩ = some (.int .i64 (sc : Int)) := (hown.cellAt (k * 4 + 1) (by omega)).trans (hget 1 (by omega))
      have q2 : wr.cell? ⟨g, k * 4 + 2, none⟩ = some (.int .i64 xd) := (hown.cellAt (k * 4 + 2) (by omega)).trans (hget 2 (by omega))
      have q3 : wr.cell? ⟨g, k * 4 + 3, none⟩ = some (.bool xk) := (hown.cellAt (k * 4 + 3) (by omega)).trans (hget 3 (by omega))
      have hki : (k : Int) < r.heard.length := by omega
      go_upto_region 8 with (fail)
      obtain ⟨V0, hV0⟩ : ∃ V0 : World, V0 = wr.alloc (.cells #[.int .i64 (u : Int), .int .i64 (sc : Int), .int .i64 xd, .bool xk] 74) := ⟨_, rfl⟩
      rw [← hV0]
      have hH : V0.heap[wr.heap.size]? = some (.cells #[.int .i64 (u : Int), .int .i64 (sc : Int), .int .i64 xd, .bool xk] 74 (0, 0)) := by rw [hV0]; exact alloc_at _ _ rfl
      have hbV0 : Below wr.heap.size wr V0 := by rw [hV0]; exact (Below.refl _ _).alloc (Nat.le_refl _) _
      have hV0s : V0.heap.size = wr.heap.size + 1 := by rw [hV0]; simp
      clear hV0
      have hV00 := (hbV0.block _ z0).trans hB0'
      have hev := hearTo_err he l k
      have hvk := seValid_of hev
      have hlnk : (withHeard r (hearTo r l k)).heard.length = r.heard.length := hearTo_len r l k
      have D : ∀ V, Below V0.heap.size V0 V → Calls Try.prog 40 #[.agg #[.slice a1 r.writers.length k1, .slice a2 r.kept.length k2, .slice a3 r.leaks.length k3, .slice a4 r.letters.length k4, .slice (some ⟨g, 0, none⟩) r.heard.length c9], .slice a' l.length c', .int .i64 (u : Int), .int .i64 (sc : Int)] V fun e w' => e = .returned (.int .i64 (dayOf r l u sc)) ∧ Below V.heap.size V w' := fun V h => by
        have hbV : Below wr.heap.size wr V := hbV0.trans (h.mono hbV0.size)
        have hwV := hbwr.trans (hbV.mono hbwr.size)
        have hM := hm.mono hwV
        have hoV := own_below hown hbV
        have hoV2 : V.ownsRow w2.heap.size 74 4 (.slice (some ⟨g, 0, none⟩) r.heard.length c9) (hearTo r l k).length (flatC heardCells (hearTo r l k)) := by rw [hearTo_len]; exact hoV
        obtain ⟨-, b6, d6, e6, hs6, hh6⟩ := heard_own hoV2
        rw [hearTo_len] at e6
        cases e6
        have hK : RoomC V a1 a2 a3 a4 (some ⟨g, 0, none⟩) k1 k2 k3 k4 c9 (withHeard r (hearTo r l k)) := ⟨hM.ok1, hM.ok2, hM.ok3, hM.ok4, hs6, hM.writers, hM.kept, hM.leaks, hM.letters, hh6, hM.wsize⟩
        have C := RDay_any a1 a2 a3 a4 (some ⟨g, 0, none⟩) k1 k2 k3 k4 c9 (withHeard r (hearTo r l k)) a' l c' u sc V hK hvk hsl (hints2.mono hbV) hlb hul hsc
        rw [hlnk] at C
        exact C
      have hde : hearOne r l ⟨(u : Int), (sc : Int), xd, xk⟩ = ⟨(u : Int), (sc : Int), xd, decide (dayOf r l u sc ≤ xd)⟩ := rfl
      rw [hde] at hset2
      generalize dayOf r l u sc = d at D hset2
      replace D := Lib.hid D
      have SF : Hid (∀ V, Below V0.heap.size V0 V → (fun V => Below wr.heap.size wr V ∧ V.cell? ⟨w.heap.size, 0, none⟩ = some (.slice a1 r.writers.length k1) ∧ V.cell? ⟨w.heap.size, 1, none⟩ = some (.slice a2 r.kept.length k2) ∧ V.cell? ⟨w.heap.size, 2, none⟩ = some (.slice a3 r.leaks.length k3) ∧ V.cell? ⟨w.heap.size, 3, none⟩ = some (.slice a4 r.letters.length k4) ∧ V.cell? ⟨w.heap.size, 4, none⟩ = some (.slice (some ⟨g, 0, none⟩) r.heard.length c9) ∧ V.cell? ⟨wr.heap.size, 0, none⟩ = some (.int .i64 (u : Int)) ∧ V.cell? ⟨wr.heap.size, 1, none⟩ = some (.int .i64 (sc : Int)) ∧ V.cell? ⟨wr.heap.size, 2, none⟩ = some (.int .i64 xd) ∧ w.heap.size < V.heap.size ∧ wr.heap.size < V.heap.size) V) := Lib.hid (fun V h => by
        have hR := (h.block _ (lt_of_block hV00)).trans hV00
        have hHH := (h.block _ (lt_of_block hH)).trans hH
        exact ⟨hbV0.trans (h.mono hbV0.size), blk_cell 0 hR rfl, blk_cell 1 hR rfl, blk_cell 2 hR rfl, blk_cell 3 hR rfl, blk_cell 4 hR rfl, blk_cell 0 hHH rfl, blk_cell 1 hHH rfl, blk_cell 2 hHH rfl, lt_of_block hR, lt_of_block hHH⟩)
      have hd0 := below_drew' (Below.refl V0.heap.size V0)
      clear q0 q1 q2 q3 x4
      refine wp_region_held_drew (S := (fun V => Below wr.heap.size wr V ∧ V.cell? ⟨w.heap.size, 0, none⟩ = some (.slice a1 r.writers.length k1) ∧ V.cell? ⟨w.heap.size, 1, none⟩ = some (.slice a2 r.kept.length k2) ∧ V.cell? ⟨w.heap.size, 2, none⟩ = some (.slice a3 r.leaks.length k3) ∧ V.cell? ⟨w.heap.size, 3, none⟩ = some (.slice a4 r.letters.length k4) ∧ V.cell? ⟨w.heap.size, 4, none⟩ = some (.slice (some ⟨g, 0, none⟩) r.heard.length c9) ∧ V.cell? ⟨wr.heap.size, 0, none⟩ = some (.int .i64 (u : Int)) ∧ V.cell? ⟨wr.heap.size, 1, none⟩ = some (.int .i64 (sc : Int)) ∧ V.cell? ⟨wr.heap.size, 2, none⟩ = some (.int .i64 xd) ∧ w.heap.size < V.heap.size ∧ wr.heap.size < V.heap.size)) (by kernel_rfl) (SF.out _ hd0) (fun hHeld => ?_)
      (refine wpAnyH_take (i := 0) (v := ?_) rfl (by kernel_rfl) (by kernel_rfl) (by kernel_rfl) (fun _ _ _ h => h) (Or.inl ⟨by kernel_rfl, ?_⟩) (by assumption) ?_; rotate_left 1; (focus (intro w hSw; (try dsimp only at hSw); go_simp; first | done | with_reducible rfl)); simp only [Act.put, List.getElem_toArray, List.getElem_cons_succ, List.getElem_cons_zero, List.setIfInBounds_toArray, List.set_cons_succ, List.set_cons_zero])
      (refine wpAnyH_take (i := 1) (v := ?_) rfl (by kernel_rfl) (by kernel_rfl) (by kernel_rfl) (fun _ _ _ h => h) (Or.inl ⟨by kernel_rfl, ?_⟩) (by assumption) ?_; rotate_left 1; (focus (intro w hSw; (try dsimp only at hSw); go_simp; first | done | with_reducible rfl)); simp only [Act.put, List.getElem_toArray, List.getElem_cons_succ, List.getElem_cons_zero, List.setIfInBounds_toArray, List.set_cons_succ, List.set_cons_zero])
      (refine wpAnyH_take (i := 2) (v := ?_) rfl (by kernel_rfl) (by kernel_rfl) (by kernel_rfl) (fun _ _ _ h => h) (Or.inl ⟨by kernel_rfl, ?_⟩) (by assumption) ?_; rotate_left 1; (focus (intro w hSw; (try dsimp only at hSw); go_simp; first | done | with_reducible rfl)); simp only [Act.put, List.getElem_toArray, List.getElem_cons_succ, List.getElem_cons_zero, List.setIfInBounds_toArray, List.set_cons_succ, List.set_cons_zero])
      (refine wpAnyH_take (i := 3) (v := ?_) rfl (by kernel_rfl) (by kernel_rfl) (by kernel_rfl) (fun _ _ _ h => h) (Or.inl ⟨by kernel_rfl, ?_⟩) (by assumption) ?_; rotate_left 1; (focus (intro w hSw; (try dsimp only at hSw); go_simp; first | done | with_reducible rfl)); simp only [Act.put, List.getElem_toArray, List.getElem_cons_succ, List.getElem_cons_zero, List.setIfInBounds_toArray, List.set_cons_succ, List.set_cons_zero])
      (refine wpAnyH_take (i := 4) (v := ?_) rfl (by kernel_rfl) (by kernel_rfl) (by kernel_rfl) (fun _ _ _ h => h) (Or.inl ⟨by kernel_rfl, ?_⟩) (by assumption) ?_; rotate_left 1; (focus (intro w hSw; (try dsimp only at hSw); go_simp; first | done | with_reducible rfl)); simp only [Act.put, List.getElem_toArray, List.getElem_cons_succ, List.getElem_cons_zero, List.setIfInBounds_toArray, List.set_cons_succ, List.set_cons_zero])
      (refine wpAnyH_take (i := 5) (v := ?_) rfl (by kernel_rfl) (by kernel_rfl) (by kernel_rfl) (fun _ _ _ h => h) (Or.inl ⟨by kernel_rfl, ?_⟩) (by assumption) ?_; rotate_left 1; (focus (intro w hSw; (try dsimp only at hSw); go_simp; first | done | with_reducible rfl)); simp only [Act.put, List.getElem_toArray, List.getElem_cons_succ, List.getElem_cons_zero, List.setIfInBounds_toArray, List.set_cons_succ, List.set_cons_zero])
      (refine wpAnyH_take (i := 7) (v := ?_) rfl (by kernel_rfl) (by kernel_rfl) (by kernel_rfl) (fun _ _ _ h => h) (Or.inl ⟨by kernel_rfl, ?_⟩) (by assumption) ?_; rotate_left 1; (focus (intro w hSw; (try dsimp only at hSw); go_simp; first | done | with_reducible rfl)); simp only [Act.put, List.getElem_toArray, List.getElem_cons_succ, List.getElem_cons_zero, List.setIfInBounds_toArray, List.set_cons_succ, List.set_cons_zero])
      (refine wpAnyH_take (i := 8) (v := ?_) rfl (by kernel_rfl) (by kernel_rfl) (by kernel_rfl) (fun _ _ _ h => h) (Or.inl ⟨by kernel_rfl, ?_⟩) (by assumption) ?_; rotate_left 1; (focus (intro w hSw; (try dsimp only at hSw); go_simp; first | done | with_reducible rfl)); simp only [Act.put, List.getElem_toArray, List.getElem_cons_succ, List.getElem_cons_zero, List.setIfInBounds_toArray, List.set_cons_succ, List.set_cons_zero])
      (refine wpAnyH_ready (rs := [6]) (by kernel_rfl) (by simp) ?_; refine AllReadyH.cons rfl (fun K hK => ?_) AllReadyH.nil; go_simp)
      (with_reducible refine (D.out _ hd0).mono ?_)
      rintro e w4 ⟨rfl, hgs⟩
      dsimp only
      have hg1 := hd0.trans (hgs.mono hd0.size)
      refine hK.out _ _ (SF.out _ hg1) (fun hHeld => ?_)
      (try simp only [Act.put, List.getElem_toArray, List.getElem_cons_succ, List.getElem_cons_zero, List.setIfInBounds_toArray, List.set_cons_succ, List.set_cons_zero])
      clear hK
      (refine wpAnyH_take (i := 9) (v := ?_) rfl (by kernel_rfl) (by kernel_rfl) (by kernel_rfl) (fun _ _ _ h => h) (Or.inl ⟨by kernel_rfl, ?_⟩) (by assumption) ?_; rotate_left 1; (focus (intro w hSw; (try dsimp only at hSw); go_simp; first | done | with_reducible rfl)); simp only [Act.put, List.getElem_toArray, List.getElem_cons_succ, List.getElem_cons_zero, List.setIfInBounds_toArray, List.set_cons_succ, List.set_cons_zero])
      (refine wpAnyH_take (i := 10) (v := ?_) rfl (by kernel_rfl) (by kernel_rfl) (by kernel_rfl) (fun _ _ _ h => h) (Or.inl ⟨by kernel_rfl, ?_⟩) (by assumption) ?_; rotate_left 1; (focus (intro w hSw; (try dsimp only at hSw); go_simp; first | done | with_reducible rfl)); simp only [Act.put, List.getElem_toArray, List.getElem_cons_succ, List.getElem_cons_zero, List.setIfInBounds_toArray, List.set_cons_succ, List.set_cons_zero])
      have hH4 := (hg1.block _ (lt_of_block hH)).trans hH
      have y3 : w4.cell? ⟨wr.heap.size, 3, none⟩ = some (.bool xk) := blk_cell 3 hH4 rfl
      have f3 := blk_free 3 hH4
      have z3 := lt_of_block hH4
      have hb4 : Below wr.heap.size wr w4 := hbV0.trans (hg1.mono hbV0.size)
      (refine wpAnyH_ready (rs := [11]) (by kernel_rfl) (by simp) ?_; refine AllReadyH.cons rfl (fun K hK => ?_) AllReadyH.nil; go_simp)
      refine hK.out _ _ ⟨hb4.setCell (Nat.le_refl _) _, (far1 (by omega)).trans hHeld.2.1, (far1 (by omega)).trans hHeld.2.2.1, (far1 (by omega)).trans hHeld.2.2.2.1, (far1 (by omega)).trans hHeld.2.2.2.2.1, (far1 (by omega)).trans hHeld.2.2.2.2.2.1, blk_cell 0 (blk_set 3 _ hH4) rfl, blk_cell 1 (blk_set 3 _ hH4) rfl, blk_cell 2 (blk_set 3 _ hH4) rfl, by simp; omega, by simp; omega⟩ (fun hHeld => ?_)
      (try simp only [Act.put, List.getElem_toArray, List.getElem_cons_succ, List.getElem_cons_zero, List.setIfInBounds_toArray, List.set_cons_succ, List.set_cons_zero])
      clear hK
      refine wpAnyH_done (by kernel_rfl) ?_ _
      obtain ⟨V3, hV3⟩ : ∃ V3 : World, V3 = w4.setCell ⟨wr.heap.size, 3, none⟩ (.bool (decide (d ≤ xd))) := ⟨_, rfl⟩
      rw [← hV3]
      have hb3 : Below wr.heap.size wr V3 := by rw [hV3]; exact hb4.setCell (Nat.le_refl _) _
      have hH5 : V3.heap[wr.heap.size]? = some (.cells #[.int .i64 (u : Int), .int .i64 (sc : Int), .int .i64 xd, .bool (decide (d ≤ xd))] 74 (0, 0)) := by rw [hV3]; exact blk_set 3 _ hH4
      clear hV3 y3 f3 z3 hHeld
      have hR5 := (hb3.block _ z0).trans hB0'
      have h0 : V3.cell? ⟨wr.heap.size, 0, none⟩ = some (.int .i64 (u : Int)) := blk_cell 0 hH5 rfl
      have h1 : V3.cell? ⟨wr.heap.size, 1, none⟩ = some (.int .i64 (sc : Int)) := blk_cell 1 hH5 rfl
      have h2 : V3.cell? ⟨wr.heap.size, 2, none⟩ = some (.int .i64 xd) := blk_cell 2 hH5 rfl
      have h3 : V3.cell? ⟨wr.heap.size, 3, none⟩ = some (.bool (decide (d ≤ xd))) := blk_cell 3 hH5 rfl
      have x4 : V3.cell? ⟨w.heap.size, 4, none⟩ = some (.slice (some ⟨g, 0, none⟩) r.heard.length c9) := blk_cell 4 hR5 rfl
      have hz5 := lt_of_block hH5
      have hz6 := lt_of_block hR5
      have ho5 := own_below hown hb3
      have q0 : V3.cell? ⟨g, k * 4, none⟩ = some (.int .i64 (u : Int)) := (ho5.cellAt (k * 4) (by omega)).trans (hget 0 (by omega))
      have q1 : V3.cell? ⟨g, k * 4 + 1, none⟩ = some (.int .i64 (sc : Int)) := (ho5.cellAt (k * 4 + 1) (by omega)).trans (hget 1 (by omega))
      have q2 : V3.cell? ⟨g, k * 4 + 2, none⟩ = some (.int .i64 xd) := (ho5.cellAt (k * 4 + 2) (by omega)).trans (hget 2 (by omega))
      have q3 : V3.cell? ⟨g, k * 4 + 3, none⟩ = some (.bool xk) := (ho5.cellAt (k * 4 + 3) (by omega)).trans (hget 3 (by omega))
      have e0 := ho5.frozenAt (k * 4)
      have e1 := ho5.frozenAt (k * 4 + 1)
      have e2 := ho5.frozenAt (k * 4 + 2)
      have e3 := ho5.frozenAt (k * 4 + 3)
      have hg3 : g < V3.heap.size := Nat.lt_of_lt_of_le hgl hb3.size
      have hne : wr.heap.size ≠ g := by omega
      have hne2 : w.heap.size ≠ g := by omega
      clear hget
      go_wp2
      go_roundw
      case rel => exact ⟨k + 1, by omega, by go_num, by rw [← hset2.out]; exact (((ho5.stored (k * 4) _).1.stored (k * 4 + 1) _).1.stored (k * 4 + 2) _).1.stored (k * 4 + 3) _ |>.1, (((((hbw.trans (hb3.mono hzr)).setCell (by simp; omega) _).setCell (by simp; omega) _).setCell (by simp; omega) _).setCell (by simp; omega) _)⟩
      case measure => simp [intOf]; omega
    · obtain rfl : k = r.heard.length := by omega
      rw [hearTo_all] at hown
      have hHH : (hearAs r l).heard = r.heard.map (hearOne r l) := rfl
      rw [← hHH] at hown
      have hlnH : (hearAs r l).heard.length = r.heard.length := List.length_map ..
      rw [← hlnH] at hown x4
      have hB1' := (hbw.block _ hwlt1).trans hZ1
      have x0 : wr.cell? ⟨w.heap.size, 0, none⟩ = some (.slice a1 r.writers.length k1) := blk_cell 0 hB0' rfl
      have x1 : wr.cell? ⟨w.heap.size, 1, none⟩ = some (.slice a2 r.kept.length k2) := blk_cell 1 hB0' rfl
      have x2 : wr.cell? ⟨w.heap.size, 2, none⟩ = some (.slice a3 r.leaks.length k3) := blk_cell 2 hB0' rfl
      have x3 : wr.cell? ⟨w.heap.size, 3, none⟩ = some (.slice a4 r.letters.length k4) := blk_cell 3 hB0' rfl
      have y0 : wr.cell? ⟨w.heap.size + 1, 0, none⟩ = some (.slice none 0 0) := blk_cell 0 hB1' rfl
      have y1 : wr.cell? ⟨w.heap.size + 1, 1, none⟩ = some (.slice none 0 0) := blk_cell 1 hB1' rfl
      have y2 : wr.cell? ⟨w.heap.size + 1, 2, none⟩ = some (.slice none 0 0) := blk_cell 2 hB1' rfl
      have y3 : wr.cell? ⟨w.heap.size + 1, 3, none⟩ = some (.slice none 0 0) := blk_cell 3 hB1' rfl
      have y4 : wr.cell? ⟨w.heap.size + 1, 4, none⟩ = some (.slice none 0 0) := blk_cell 4 hB1' rfl
      have g0 := blk_free 0 hB1'
      have g1 := blk_free 1 hB1'
      have g2 := blk_free 2 hB1'
      have g3 := blk_free 3 hB1'
      have g4 := blk_free 4 hB1'
      have z1 := lt_of_block hB1'
      have hne1 : (Value.slice a9 (hearAs r l).heard.length c9).ownBlock ≠ some (w.heap.size + 1) := fun e => by have := (hown.lt _ e).1; omega
      have hap := ints_apart hints2 hB1' no_int5
      have hnl : decide (r.heard.length < (hearAs r l).heard.length) = false := decide_eq_false (by rw [hlnH]; omega)
      have hll5 := Lib.hid hlnH
      clear hlnH hHH
      go_wp2
      (try simp only [Exit.inBlock, Exit.then])
      refine bodyPost_ret (v := .tuple #[.agg #[.slice a1 r.writers.length k1, .slice a2 r.kept.length k2, .slice a3 r.leaks.length k3, .slice a4 r.letters.length k4, .slice a9 (hearAs r l).heard.length c9], .slice a' l.length c']) ?_ rfl ⟨a9, c9, a', c', rfl, ?_, hsl, ?_, ?_⟩
      · rw [results_cell_tmp rfl]
        go_simp
      · have hbF : Below w.heap.size w (((((wr.setCell ⟨w.heap.size + 1, 0, none⟩ (.slice a1 r.writers.length k1)).setCell ⟨w.heap.size + 1, 1, none⟩ (.slice a2 r.kept.length k2)).setCell ⟨w.heap.size + 1, 2, none⟩ (.slice a3 r.leaks.length k3)).setCell ⟨w.heap.size + 1, 3, none⟩ (.slice a4 r.letters.length k4)).setCell ⟨w.heap.size + 1, 4, none⟩ (.slice a9 (hearAs r l).heard.length c9)) := ((((hbwr.setCell (by simp) _).setCell (by simp) _).setCell (by simp) _).setCell (by simp) _).setCell (by simp) _
        have hM := hm.mono hbF
        have hF := ownsRow_setCell_other (ownsRow_setCell_other (ownsRow_setCell_other (ownsRow_setCell_other (ownsRow_setCell_other hown (a := ⟨w.heap.size + 1, 0, none⟩) hne1 (.slice a1 r.writers.length k1)) (a := ⟨w.heap.size + 1, 1, none⟩) hne1 (.slice a2 r.kept.length k2)) (a := ⟨w.heap.size + 1, 2, none⟩) hne1 (.slice a3 r.leaks.length k3)) (a := ⟨w.heap.size + 1, 3, none⟩) hne1 (.slice a4 r.letters.length k4)) (a := ⟨w.heap.size + 1, 4, none⟩) hne1 (.slice a9 (hearAs r l).heard.length c9)
        obtain ⟨-, b6, d6, e6, hs6, hh6⟩ := heard_own hF
        cases e6
        exact ⟨hM.ok1, hM.ok2, hM.ok3, hM.ok4, hs6, hM.writers, hM.kept, hM.leaks, hM.letters, hh6, hM.wsize⟩
      · exact ints_set (ints_set (ints_set (ints_set (ints_set hints2 hap) hap) hap) hap) hap
      · exact ((((hbwr.setCell (by simp) _).setCell (by simp) _).setCell (by simp) _).setCell (by simp) _).setCell (by simp) _
end Go.Proofs.Ytmhbjohpggghgaa
