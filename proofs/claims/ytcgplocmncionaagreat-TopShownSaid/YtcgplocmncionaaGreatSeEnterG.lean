/- What is proved here: the contract of enter. Conditions: the room and the numbers lie in memory. -/
/- What is proved here: the contract of ask, for a function that answers as a plain one does and keeps a word on memory. Conditions: the room is looked at and valid. -/
/- What is proved here: the contracts of what Told, Knows and Since ask. Conditions: the room is looked at and valid; the captured cells lie in memory. -/
import Derived.Test.YtcgplocmncionaaGreatSeSprG
import Derived.Test.YtcgplocmncionaaGreatSeCheck
import Derived.IntWalk
set_option linter.unusedVariables false
set_option linter.unusedSimpArgs false
namespace Go.Proofs.YtcgplocmncionaaGreat
open Go Go.RowKit Go.Shelf

/-- Each number is below the next one, by turns. -/
def numsOk : List Int → Bool
  | a :: b :: l => inB a 0 (b - 1) && numsOk l
  | _ => true
def enterErr (r : SeRoom) (other : Int) (ns : List Int) : Int := if seErr r = 0 then (if numsOk ns then (if other = 0 then (if (truthsP r 0).length = 0 then 8 else 0) else other) else 4) else seErr r
/-- What enter returns. -/
def EnterV (w w' : World) (v : Value) (er : Int) (a1 a2 a3 a4 a5 : Option Addr) (k1 k2 k3 k4 k5 : Nat) (r : SeRoom) : Prop := (er = 0 → ∃ bm bo, v = .pointer (some ⟨bm, 0, none⟩) ∧ RoomW w' bm bo a1 a2 a3 a4 a5 k1 k2 k3 k4 k5 r 0 ∧ w.heap.size ≤ bo) ∧ (er ≠ 0 → v = .pointer none)
theorem enterV_no {w w' : World} {er : Int} {a1 a2 a3 a4 a5 : Option Addr} {k1 k2 k3 k4 k5 : Nat} {r : SeRoom} (h : er ≠ 0) : EnterV w w' (.pointer none) er a1 a2 a3 a4 a5 k1 k2 k3 k4 k5 r := ⟨fun h2 => absurd h2 h, fun _ => rfl⟩
theorem enterV_yes {w w' : World} {v : Value} {er : Int} {a1 a2 a3 a4 a5 : Option Addr} {k1 k2 k3 k4 k5 : Nat} {r : SeRoom} (h : er = 0) (k : ∃ bm bo, v = .pointer (some ⟨bm, 0, none⟩) ∧ RoomW w' bm bo a1 a2 a3 a4 a5 k1 k2 k3 k4 k5 r 0 ∧ w.heap.size ≤ bo) : EnterV w w' v er a1 a2 a3 a4 a5 k1 k2 k3 k4 k5 r := ⟨fun _ => k, fun h2 => absurd h h2⟩
theorem tup2 {v : Value} {k : IntKind} {a b : Int} (h : a = b) : Ending.returned (.tuple #[v, .int k a]) = .returned (.tuple #[v, .int k b]) := by rw [h]
set_option maxRecDepth 100000 in
set_option maxHeartbeats 2000000 in
theorem SEnter_any (a1 a2 a3 a4 a5 : Option Addr) (k1 k2 k3 k4 k5 : Nat) (r : SeRoom) (other : Int) (ad : Option Addr) (ns : List Int) (c : Nat) (w : World) (hm : RoomC w a1 a2 a3 a4 a5 k1 k2 k3 k4 k5 r) (hs : SlOk ad ns.length c) (hi : IntsC w ad ns) (hev : ns.length % 2 = 0) (hl8 : ns.length ≤ 8) (hb : ∀ j (h : j < ns.length), j % 2 = 1 → 0 ≤ ns[j] ∧ ns[j] ≤ 9223372036854775807) :
    Calls Tryz.prog 23 #[(.agg #[.slice a1 r.writers.length k1, .slice a2 r.kept.length k2, .slice a3 r.leaks.length k3, .slice a4 r.letters.length k4, .slice a5 r.heard.length k5]), .int .i64 other, .slice ad ns.length c] w fun e w' => ∃ v, e = .returned (.tuple #[v, .int .i64 (enterErr r other ns)]) ∧ EnterV w w' v (enterErr r other ns) a1 a2 a3 a4 a5 k1 k2 k3 k4 k5 r ∧ Below w.heap.size w w' := by
  have HE : Hid (enterErr r other ns = if seErr r = 0 then (if numsOk ns then (if other = 0 then (if (truthsP r 0).length = 0 then 8 else 0) else other) else 4) else seErr r) := rfl
  generalize enterErr r other ns = er at HE ⊢
  have HC : Hid (seErr r = (seCheck r).2.2) := rfl
  have C := fun (W : World) (h : Below w.heap.size w W) => SCheck_any _ _ _ _ _ _ _ _ _ _ r W (hm.mono h)
  generalize seCheck r = ck at C HC
  obtain ⟨p1, p2, ce⟩ := ck
  simp only at C HC
  have C := Lib.hid C
  have hQ := Below.refl (w.heap.size + 1) (w.alloc (.cells #[.slice a1 r.writers.length k1, .slice a2 r.kept.length k2, .slice a3 r.leaks.length k3, .slice a4 r.letters.length k4, .slice a5 r.heard.length k5] 28))
  have x0 := box_cell hQ 0 _ rfl
  have x1 := box_cell hQ 1 _ rfl
  have x2 := box_cell hQ 2 _ rfl
  have x3 := box_cell hQ 3 _ rfl
  have x4 := box_cell hQ 4 _ rfl
  have xz := box_size hQ
  by_cases hce : ce = 0
  · have g1 := nei_f hce
    have hv := seValid_of (HC.out.trans hce)
    replace HE := Lib.hid (HE.out.trans (if_pos (HC.out.trans hce)))
    have hcl := hs.1
    have hcm := hs.2.1
    have HN0 : Hid (numsOk (ns.drop 0) = numsOk ns) := Lib.hid rfl
    have HEV := Lib.hid hev
    clear hce HC hev
    go_enter Tryz.func23, Tryz.ntmps23
    go_wp2_with (go_at_call 52; go_must (refine (C.out _ (box_old hQ)).mono ?_; rintro e w2 ⟨rfl, hb2⟩; have hQ2 := hQ.trans (hb2.mono (by simp)); dsimp only))
    go_loopw [11] (fun i wr => ∃ k : Nat, k ≤ ns.length ∧ i = .int .i64 k ∧ Hid (k % 2 = 0) ∧ Hid (numsOk (ns.drop k) = numsOk ns) ∧ Below (w.heap.size + 1) (w.alloc (.cells #[.slice a1 r.writers.length k1, .slice a2 r.kept.length k2, .slice a3 r.leaks.length k3, .slice a4 r.letters.length k4, .slice a5 r.heard.length k5] 28)) wr) (fun i _ => ns.length - (intOf i).toNat)
    case atStart => exact ⟨0, Nat.zero_le _, rfl, Lib.hid rfl, HN0, hQ2⟩
    case round =>
      clear x0 x1 x2 x3 x4 xz
      obtain ⟨k, hk, rfl, HK, HN, hQ3⟩ := hrel
      have x0 := box_cell hQ3 0 _ rfl
      have x1 := box_cell hQ3 1 _ rfl
      have x2 := box_cell hQ3 2 _ rfl
      have x3 := box_cell hQ3 3 _ rfl
      have x4 := box_cell hQ3 4 _ rfl
      have xz := box_size hQ3
      by_cases hlt : k < ns.length
      · have hlt1 : k + 1 < ns.length := by have := HK.out; have := HEV.out; omega
        have hdr : ns.drop k = ns[k] :: ns[k + 1] :: ns.drop (k + 2) := by
          rw [List.drop_eq_getElem_cons hlt, List.drop_eq_getElem_cons hlt1]
        have HNX : Hid (numsOk ns = (inB ns[k] 0 (ns[k + 1] - 1) && numsOk (ns.drop (k + 2)))) := Lib.hid (by rw [← HN.out, hdr]; rfl)
        obtain ⟨b, off, rfl, hbb, h1⟩ := (hi.mono (box_old hQ3)) k hlt
        obtain ⟨b', off', e', hbb', h2⟩ := (hi.mono (box_old hQ3)) (k + 1) hlt1
        cases e'
        have hbd := hb (k + 1) hlt1 (by have := HK.out; omega)
        clear hdr
        generalize ns[k] = x at h1 HNX
        generalize ns[k + 1] = y at h2 HNX hbd
        have B1 := fun (a : Nat) (W : World) (h : W.cell? ⟨a, 0, none⟩ = some (.int .i64 x)) => MBeyondOne_any x 0 (y - 1) a W h
        generalize inB x 0 (y - 1) = ok at HNX B1
        have B1 := Lib.hid B1
        have hzz := hQ3.size
        have hk8 : (k : Int) ≤ 8 := by omega
        have hk0 : (k : Int) + 1 < ns.length := by omega
        have hk1 : (k : Int) + 1 ≤ c := by omega
        go_upto_region 7 with (fail)
        have hw1 : IntKind.i64.wrap ((k : Int) + 1) = (k : Int) + 1 := IntWalk.i64_in _ (by omega)
        have hw2 : IntKind.i64.wrap (y - 1) = y - 1 := IntWalk.i64_in _ (by omega)
        have hw3 : ((k : Int) + 1).toNat = k + 1 := by omega
        have hw4 : (0 : Int) ≤ (k : Int) + 1 := by omega
        apply wp_mid _ (fun V => Below (w.heap.size + 1) (w.alloc (.cells #[.slice a1 r.writers.length k1, .slice a2 r.kept.length k2, .slice a3 r.leaks.length k3, .slice a4 r.letters.length k4, .slice a5 r.heard.length k5] 28)) V)
        · have KE : Hid (∀ V, Below wr.heap.size wr V → (Below wr.heap.size wr V ∧ V.cell? ⟨b, off + k, none⟩ = some (.int .i64 x) ∧ V.cell? ⟨b, off + (k + 1), none⟩ = some (.int .i64 y) ∧ b < V.heap.size)) := Lib.hid (fun V h => ⟨h, cell_below h h1, cell_below h h2, Nat.lt_of_lt_of_le hbb h.size⟩)
          have hB0 := below_drew' (Below.refl wr.heap.size wr)
          have hBa := below_drew' ((Below.refl _ wr).alloc (Nat.le_refl _) (.cells #[.int .i64 x] 3))
          go_region_held3 (fun V => Below wr.heap.size wr V ∧ V.cell? ⟨b, off + k, none⟩ = some (.int .i64 x) ∧ V.cell? ⟨b, off + (k + 1), none⟩ = some (.int .i64 y) ∧ b < V.heap.size) (exact KE.out _ (by assumption)) (first
            | (go_at_call 22; refine (B1.out _ _ ?_).mono ?_; (simp); rintro e w2 ⟨rfl, hb2⟩; have hB2 := hBa.trans (hb2.mono (by simp)); dsimp only))
          exact ⟨rfl, box_on hQ3 hB2⟩
        rintro V hV
        clear hw1 hw2 hw3 hw4
        cases ok
        · replace HE := Lib.hid (HE.out.trans (if_neg (by rw [HNX.out]; simp)))
          go_wp2
          go_ret2
          exact ⟨_, tup2 HE.out.symm, enterV_no (by rw [HE.out]; decide), box_old hV⟩
        · go_wp2
          go_roundw
          case rel => exact ⟨k + 2, by omega, by go_num, Lib.hid (by have := HK.out; omega), Lib.hid (by rw [HNX.out]; simp), hV⟩
          case measure => simp [intOf]; omega
      · have hk0 : ns.drop k = [] := List.drop_of_length_le (by omega)
        have hok : numsOk ns = true := by rw [← HN.out, hk0]; rfl
        replace HE := Lib.hid (HE.out.trans (if_pos hok))
        clear hok hk0
        by_cases ho : other = 0
        · have g2 := nei_f ho
          replace HE := Lib.hid (HE.out.trans (if_pos ho))
          clear ho
          have LK := Lib.hid (SLook_any _ _ _ _ _ _ _ _ _ _ r 0 wr (hm.mono (box_old hQ3)) hv)
          by_cases hp : 0 < (truthsP r 0).length
          · replace HE := Lib.hid (HE.out.trans (if_neg (by omega)))
            have HP : Hid (decide (0 < (truthsP r 0).length) = true) := Lib.hid (by simpa using hp)
            go_wp2_with (first
              | (go_at_call 54; go_must (refine (SSome_any _ _ _ _ _ _ _ _ _ _ r _ _ 0 _ hR2 hv (by omega)).mono ?_; rintro e w3 ⟨rfl, hg3, hR3⟩; rw [HP.out]; dsimp only))
              | (go_at_call 53; go_must (refine LK.out.mono ?_; rintro e w2 ⟨bm, bo, rfl, hR2, hb2, hbo⟩; dsimp only)))
            go_ret2
            exact ⟨_, tup2 HE.out.symm, enterV_yes HE.out ⟨_, _, rfl, hR3, by have := (box_old hQ3).size; omega⟩, ((box_old hQ3).trans (hb2.mono (box_old hQ3).size)).grown hg3 (Nat.le_trans (box_old hQ3).size hb2.size) (fun k e => by have := Option.some.inj e; have := (box_old hQ3).size; omega)⟩
          · replace HE := Lib.hid (HE.out.trans (if_pos (by omega)))
            have HP : Hid (decide (0 < (truthsP r 0).length) = false) := Lib.hid (by simpa using hp)
            go_wp2_with (first
              | (go_at_call 54; go_must (refine (SSome_any _ _ _ _ _ _ _ _ _ _ r _ _ 0 _ hR2 hv (by omega)).mono ?_; rintro e w3 ⟨rfl, hg3, hR3⟩; rw [HP.out]; dsimp only))
              | (go_at_call 53; go_must (refine LK.out.mono ?_; rintro e w2 ⟨bm, bo, rfl, hR2, hb2, hbo⟩; dsimp only)))
            go_ret2
            exact ⟨_, tup2 HE.out.symm, enterV_no (by rw [HE.out]; decide), ((box_old hQ3).trans (hb2.mono (box_old hQ3).size)).grown hg3 (Nat.le_trans (box_old hQ3).size hb2.size) (fun k e => by have := Option.some.inj e; have := (box_old hQ3).size; omega)⟩
        · have g2 := nei_t ho
          replace HE := Lib.hid (HE.out.trans (if_neg ho))
          go_wp2
          go_ret2
          exact ⟨_, tup2 HE.out.symm, enterV_no (by rw [HE.out]; exact ho), box_old hQ3⟩
  · have g1 := nei_t hce
    replace HE := Lib.hid (HE.out.trans (if_neg (by rw [HC.out]; exact hce)))
    go_enter Tryz.func23, Tryz.ntmps23
    go_wp2_with (go_at_call 52; go_must (refine (C.out _ (box_old hQ)).mono ?_; rintro e w2 ⟨rfl, hb2⟩; dsimp only))
    go_ret2
    exact ⟨_, tup2 (by rw [HE.out, HC.out]), enterV_no (by rw [HE.out, HC.out]; exact hce), box_old (hQ.trans (hb2.mono (by simp)))⟩
end Go.Proofs.YtcgplocmncionaaGreat
namespace Go.Proofs.YtcgplocmncionaaGreat
open Go Go.RowKit Go.Shelf
attribute [local go_sem] Oper.semAt_some

@[reducible] def qV (F : Nat) (caps : Array Value) : Value := .agg #[.func (.func F) #[] caps]
/-- ask's own cells. -/
structure AskC (W : World) (b F bm : Nat) (caps : Array Value) (yes all : Nat) : Prop where
  q : W.heap[b]? = some (.cells #[.func (.func F) #[] caps] 73 (0, 0))
  y : W.heap[b + 1]? = some (.cells #[.int .i64 (yes : Int)] 3 (0, 0))
  a : W.heap[b + 1 + 1]? = some (.cells #[.int .i64 (all : Int)] 3 (0, 0))
  c : W.heap[b + 1 + 1 + 1]? = some (.cells #[.pointer (some ⟨bm, 0, none⟩)] 62 (0, 0))
theorem AskC.same {W W' : World} {b F bm : Nat} {caps : Array Value} {yes all : Nat} (h : AskC W b F bm caps yes all) (e : ∀ i, b ≤ i → i ≤ b + 3 → W'.heap[i]? = W.heap[i]?) : AskC W' b F bm caps yes all :=
  ⟨(e _ (by omega) (by omega)).trans h.q, (e _ (by omega) (by omega)).trans h.y, (e _ (by omega) (by omega)).trans h.a, (e _ (by omega) (by omega)).trans h.c⟩
theorem AskC.lt {W : World} {b F bm : Nat} {caps : Array Value} {yes all : Nat} (h : AskC W b F bm caps yes all) : b + 3 < W.heap.size := by
  have := lt_of_block h.c
  omega
theorem AskC.cells {W : World} {b F bm : Nat} {caps : Array Value} {yes all : Nat} (h : AskC W b F bm caps yes all) :
    W.cell? ⟨b, 0, none⟩ = some (.func (.func F) #[] caps) ∧ W.cell? ⟨b + 1, 0, none⟩ = some (.int .i64 (yes : Int)) ∧ W.cell? ⟨b + 1 + 1, 0, none⟩ = some (.int .i64 (all : Int)) ∧ W.frozen? ⟨b + 1, 0, none⟩ = false ∧ W.frozen? ⟨b + 1 + 1, 0, none⟩ = false :=
  ⟨blk_cell 0 h.q rfl, blk_cell 0 h.y rfl, blk_cell 0 h.a rfl, blk_free 0 h.y, blk_free 0 h.a⟩
theorem AskC.sety {W : World} {b F bm : Nat} {caps : Array Value} {yes all : Nat} (h : AskC W b F bm caps yes all) (n : Nat) : AskC (W.setCell ⟨b + 1, 0, none⟩ (.int .i64 (n : Int))) b F bm caps n all :=
  ⟨(Below.heap_setCell _ _ _ _ (fun e => by simp only at e; omega)).trans h.q, blk_set 0 _ h.y, (Below.heap_setCell _ _ _ _ (fun e => by simp only at e; omega)).trans h.a, (Below.heap_setCell _ _ _ _ (fun e => by simp only at e; omega)).trans h.c⟩
theorem AskC.seta {W : World} {b F bm : Nat} {caps : Array Value} {yes all : Nat} (h : AskC W b F bm caps yes all) (n : Nat) : AskC (W.setCell ⟨b + 1 + 1, 0, none⟩ (.int .i64 (n : Int))) b F bm caps yes n :=
  ⟨(Below.heap_setCell _ _ _ _ (fun e => by simp only at e; omega)).trans h.q, (Below.heap_setCell _ _ _ _ (fun e => by simp only at e; omega)).trans h.y, blk_set 0 _ h.a, (Below.heap_setCell _ _ _ _ (fun e => by simp only at e; omega)).trans h.c⟩
theorem below_set (W : World) (B b j : Nat) (v : Value) (h : B ≤ b) : Below B W (W.setCell ⟨b, j, none⟩ v) := (Below.refl B W).setCell (by exact h) v

theorem below_put (W : World) (B b : Nat) (o : Obj) (h : B ≤ b) : Below B W (W.putObj b o) := ⟨rfl, rfl, rfl, by simp [World.putObj], fun i hi => World.putObj_heap_other (by omega)⟩
set_option maxRecDepth 100000 in
set_option maxHeartbeats 2000000 in
theorem SAsk_any (a1 a2 a3 a4 a5 : Option Addr) (k1 k2 k3 k4 k5 : Nat) (r : SeRoom) (bm bo F : Nat) (caps : Array Value) (f : Nat → Bool) (w : World) (hv : SeValid r) (hbo : bo < w.heap.size) (hCF : ∀ (xs : Array Value) (W : World), (callFunc F xs).run Tryz.prog W = .ok (.enter F xs) W) (J : List Nat → World → Prop)
    (hJ : ∀ s A A', J s A → Below w.heap.size A A' → J s A') (hJR : ∀ s A A', J s A → A.grownBy A' (some bo) → RoomW A' bm bo a1 a2 a3 a4 a5 k1 k2 k3 k4 k5 r 0 → J s A') (hJZ : ∀ s A, J s A → RoomW A bm bo a1 a2 a3 a4 a5 k1 k2 k3 k4 k5 r 0) (hj : J [] w)
    (hF : ∀ (pre : List Nat) (x : Nat) (W : World), J pre W → pre ++ [x] <+: truthsP r 0 → w.heap.size ≤ W.heap.size → Calls Tryz.prog F (#[.int .i64 (x : Int)] ++ caps) W fun e W' => e = .returned (.bool (f x)) ∧ J (pre ++ [x]) W' ∧ Above w.heap.size W W') :
    Calls Tryz.prog 24 #[.pointer (some ⟨bm, 0, none⟩), qV F caps] w fun e w' => e = .returned (.int .i64 (settled ((truthsP r 0).countP f) (truthsP r 0).length)) ∧ J (truthsP r 0) w' := by
  have TR := Lib.hid (fun W : World => STruths_any bm W)
  have hSE := STruths_seq a1 a2 a3 a4 a5 k1 k2 k3 k4 k5 r bm bo (w.heap.size + 1 + 1 + 1) 0 hv (by omega)
  have HJ := Lib.hid hJ
  have HJR := Lib.hid hJR
  have HJZ := Lib.hid hJZ
  have HF := Lib.hid hF
  clear hJ hJR hJZ hF
  obtain ⟨T, hT⟩ : ∃ T, T = truthsP r 0 := ⟨_, rfl⟩
  rw [← hT] at hSE HF ⊢
  have hT16 : T.length ≤ 16 := by
    rw [hT]
    have h1 : (truthsP r 0).length ≤ (List.range (2 ^ r.leaks.length)).length := List.length_filter_le _ _
    have := two_pow_le4 r.leaks.length hv.nl
    simp at h1
    omega
  clear hT
  obtain ⟨res, hres⟩ : ∃ res, res = settled (T.countP f) T.length := ⟨_, rfl⟩
  rw [← hres]
  have HRES := Lib.hid hres
  clear hres
  refine (callsIn_wide (n := 0)).1 ?_
  refine callsIn_of_wp_marks Tryz.func24 rfl trivial ?_ rfl
  simp only [Tryz.ntmps24, List.size_toArray, List.length_cons, List.length_nil, Nat.reduceAdd, Nat.reduceSub, Array.replicate_succ, Array.replicate_zero, List.push_toArray, List.append_toArray, List.nil_append, List.cons_append]
  refine (wpIn_wide (n := 0)).2 ?_
  go_wp2_with (go_at_call 55; go_must ((with_reducible refine (TR.out _).mono ?_); rintro e w3 ⟨rfl, rfl⟩; dsimp only))
  obtain ⟨X, hX⟩ : ∃ X : World, X = (((w.alloc (.cells #[.func (.func F) #[] caps] 73)).alloc (.cells #[.int .i64 0] 3)).alloc (.cells #[.int .i64 0] 3)).alloc (.cells #[.pointer (some ⟨bm, 0, none⟩)] 62) := ⟨_, rfl⟩
  have hsz : X.heap.size = w.heap.size + 1 + 1 + 1 + 1 := by rw [hX]; simp
  have hb0 : Below w.heap.size w X := by rw [hX]; exact ((((Below.refl _ w).alloc (Nat.le_refl _) _).alloc (by first | omega | (simp <;> omega)) _).alloc (by first | omega | (simp <;> omega)) _).alloc (by first | omega | (simp <;> omega)) _
  have hA0 : AskC X w.heap.size F bm caps 0 0 := by
    rw [hX]
    refine ⟨?_, ?_, ?_, ?_⟩
    · exact (heap_alloc_old _ _ (by first | omega | (simp <;> omega))).trans ((heap_alloc_old _ _ (by first | omega | (simp <;> omega))).trans ((heap_alloc_old _ _ (by simp)).trans (alloc_at _ _ rfl)))
    · exact (heap_alloc_old _ _ (by first | omega | (simp <;> omega))).trans ((heap_alloc_old _ _ (by simp)).trans (alloc_at _ _ (by simp)))
    · exact (heap_alloc_old _ _ (by simp)).trans (alloc_at _ _ (by simp))
    · exact alloc_at _ _ (by simp)
  have hrc : (((w.alloc (.cells #[.func (.func F) #[] caps] 73)).alloc (.cells #[.int .i64 0] 3)).alloc (.cells #[.int .i64 0] 3)).heap.size = w.heap.size + 1 + 1 + 1 := by simp
  rw [← hX, hrc]
  clear hX hrc
  refine (wpIn_wide (n := 0)).1 ?_
  refine wpIn_rangeFunc_M (gf := 97) (lb := #[.pointer (some ⟨w.heap.size + 1 + 1 + 1, 0, none⟩)]) rfl (enters_of Tryz.func97 (by kernel_rfl) rfl) hSE (fun _ => rfl)
    (fun A A' h => Above.of_grown h.1 (fun r e => by have := Option.some.inj e; omega))
    (fun pre W => J pre W ∧ AskC W w.heap.size F bm caps (pre.countP f) pre.length) (fun _ _ _ => False)
    (fun s A A' h hb => ⟨HJ.out s A A' h.1 (hb.mono (by omega)), h.2.same (fun i h1 h2 => hb.block i (by omega))⟩)
    (fun _ _ _ _ h _ => h.elim)
    (fun s A A' h hR => ⟨HJR.out s A A' h.1 hR.1 hR.2, h.2.same (fun i h1 h2 => hR.1.block i (by have := h.2.lt; omega) (fun e => by have := Option.some.inj e; omega))⟩)
    (fun _ _ _ _ h _ => h.elim)
    (fun s A h => ⟨HJZ.out s A h.1, h.2.c⟩) (fun _ _ _ h => h.elim)
    ⟨HJ.out _ _ _ hj hb0, hA0⟩ ?round ?done ?stop
  case round =>
    intro l pre x W hl1 hl2 hI hpre
    have hpl := hpre.length_le
    rw [List.length_append, List.length_singleton] at hpl
    have hyl := List.countP_le_length (p := f) (l := pre)
    gi_wp2
    refine ⟨Above.refl _ _, hI, ?_⟩
    intro Wb hs2 hblk hIb
    clear hI
    obtain ⟨hJ1, hA1⟩ := hIb
    have hz1 := hA1.lt
    have HC := Lib.hid (HF.out pre x (Wb.setCell ⟨w.heap.size + 1 + 1, 0, none⟩ (.int .i64 ((pre.length : Int) + 1))) (HJ.out _ _ _ hJ1 (below_set _ _ _ _ _ (by omega))) hpre (by simp; omega))
    have hA2 : AskC (Wb.setCell ⟨w.heap.size + 1 + 1, 0, none⟩ (.int .i64 ((pre.length : Int) + 1))) w.heap.size F bm caps (pre.countP f) (pre.length + 1) := hA1.seta (pre.length + 1)
    have HL : Hid ((pre ++ [x]).length = pre.length + 1) := Lib.hid (by simp)
    have HY : Hid ((pre ++ [x]).countP f = pre.countP f + if f x then 1 else 0) := Lib.hid (by rw [List.countP_append]; simp [List.countP_cons])
    obtain ⟨c0, c1, c2, f1, f2⟩ := hA1.cells
    generalize pre.countP f = yes at *
    generalize pre.length = all at *
    generalize f x = fx at *
    have hA2' := Lib.hid hA2
    clear hA2
    cases fx
    · gi_wp2
      refine ⟨trivial, rfl, ((CallsIn.inRound l (callsIn_wide.2 HC.out)).mono ?_)⟩
      rintro e w2 ⟨rfl, hJ2, hab⟩
      have hA3 : AskC w2 w.heap.size F bm caps yes (all + 1) := hA2'.out.same (fun i h1 h2 => hab.block i h1 (by simp; omega))
      gi_wp2
      exact ⟨((above_set X.heap.size Wb _ _ _ (by omega)).trans (hab.mono (by omega))), hJ2, by rw [HL.out, HY.out]; exact hA3⟩
    · gi_wp2
      refine ⟨trivial, rfl, ((CallsIn.inRound l (callsIn_wide.2 HC.out)).mono ?_)⟩
      rintro e w2 ⟨rfl, hJ2, hab⟩
      have hA3 : AskC w2 w.heap.size F bm caps yes (all + 1) := hA2'.out.same (fun i h1 h2 => hab.block i h1 (by simp; omega))
      have hA4 := Lib.hid (hA3.sety (yes + 1))
      have hJ4 := Lib.hid (HJ.out _ _ _ hJ2 (below_set _ _ (w.heap.size + 1) 0 (.int .i64 ((yes : Int) + 1)) (by omega)))
      obtain ⟨c0, c1, c2, f1, f2⟩ := hA3.cells
      have z3 := hA3.lt
      gi_wp2
      exact ⟨((above_set X.heap.size Wb _ _ _ (by omega)).trans (hab.mono (by omega))).trans (above_set _ _ _ _ _ (by omega)), hJ4.out, by rw [HL.out, HY.out]; exact hA4.out⟩
  case done =>
    intro D W hD hI hK
    obtain ⟨hJ1, hA1⟩ := hI
    have hJ2 := HJ.out _ _ (W.putObj D (.deferred none)) hJ1 (below_put _ _ _ _ (by omega))
    have hyl := List.countP_le_length (p := f) (l := T)
    have HS : Hid (res = if T.countP f = T.length then 1 else if T.countP f = 0 then 2 else 0) := Lib.hid HRES.out
    clear HRES
    obtain ⟨c0, c1, c2, f1, f2⟩ := hA1.cells
    have z1 := hA1.lt
    generalize T.countP f = yes at *
    generalize T.length = all at *
    by_cases h1 : yes = all
    · have g1 := eqn_t h1
      replace HS := Lib.hid (HS.out.trans (if_pos h1))
      clear h1
      go_wp2
      refine ⟨by simp, .inl ⟨_, _, rfl, run_takeDeferred hK, ?_⟩⟩
      refine ⟨_, results_tmp rfl _ _ _, ?_, hJ2⟩; exact ret_int HS.out.symm
    · have g1 := eqn_f h1
      replace HS := Lib.hid (HS.out.trans (if_neg h1))
      clear h1
      by_cases h2 : yes = 0
      · have g2 : ((yes : Int) == 0) = true := by simp [h2]
        replace HS := Lib.hid (HS.out.trans (if_pos h2))
        clear h2
        go_wp2
        refine ⟨by simp, .inl ⟨_, _, rfl, run_takeDeferred hK, ?_⟩⟩
        refine ⟨_, results_tmp rfl _ _ _, ?_, hJ2⟩; exact ret_int HS.out.symm
      · have g2 : ((yes : Int) == 0) = false := by simp; omega
        replace HS := Lib.hid (HS.out.trans (if_neg h2))
        clear h2
        go_wp2
        refine ⟨by simp, .inl ⟨_, _, rfl, run_takeDeferred hK, ?_⟩⟩
        refine ⟨_, results_tmp rfl _ _ _, ?_, hJ2⟩; exact ret_int HS.out.symm
  case stop =>
    intro D c pre W hD hI hK
    exact hI.elim
end Go.Proofs.YtcgplocmncionaaGreat
namespace Go.Proofs.YtcgplocmncionaaGreat
open Go Go.RowKit Go.Shelf

set_option maxHeartbeats 1000000 in
theorem STold1_any (x n p : Nat) (w : World) (hx : x < 64) (hn : n < 7) (c0 : w.cell? ⟨p, 0, none⟩ = some (.int .i64 (n : Int))) :
    Calls Tryz.prog 66 #[.int .i64 (x : Int), .pointer (some ⟨p, 0, none⟩)] w fun e w' => e = .returned (.bool (x.testBit n)) ∧ w = w' := by
  have hb := bit_and x hx n hn
  have hx64 : (x : Int) < 64 := by omega
  have hn7 : (n : Int) < 64 := by omega
  have hp := lt_of_cell c0
  generalize x.testBit n = b at hb ⊢
  go_enter Tryz.func66, Tryz.ntmps66
  go_wp2
  go_ret
  exact ⟨rfl, rfl⟩

/-- What a closure that asks since when reads. -/
def AskS (W V : World) (bo p1 p2 p3 bm s u : Nat) : Prop := W.grownBy V (some bo) ∧ V.cell? ⟨p1, 0, none⟩ = some (.pointer (some ⟨bm, 0, none⟩)) ∧ V.cell? ⟨p2, 0, none⟩ = some (.int .i64 (s : Int)) ∧ V.cell? ⟨p3, 0, none⟩ = some (.int .i64 (u : Int)) ∧ p1 < V.heap.size ∧ p2 < V.heap.size ∧ p3 < V.heap.size
set_option maxRecDepth 100000 in
set_option maxHeartbeats 1000000 in
theorem SKnows1_any (a1 a2 a3 a4 a5 : Option Addr) (k1 k2 k3 k4 k5 : Nat) (r : SeRoom) (bm bo but x s u p1 p2 p3 p4 : Nat) (day : Int) (w : World) (hm : RoomW w bm bo a1 a2 a3 a4 a5 k1 k2 k3 k4 k5 r but) (hv : SeValid r) (hx : x < 16) (hs : s < r.kept.length) (hu : u < 4)
    (c1 : w.cell? ⟨p1, 0, none⟩ = some (.pointer (some ⟨bm, 0, none⟩))) (c2 : w.cell? ⟨p2, 0, none⟩ = some (.int .i64 (s : Int))) (c3 : w.cell? ⟨p3, 0, none⟩ = some (.int .i64 (u : Int))) (c4 : w.cell? ⟨p4, 0, none⟩ = some (.int .i64 day)) :
    Calls Tryz.prog 25 #[.int .i64 (x : Int), .pointer (some ⟨p1, 0, none⟩), .pointer (some ⟨p2, 0, none⟩), .pointer (some ⟨p3, 0, none⟩), .pointer (some ⟨p4, 0, none⟩)] w fun e w' => e = .returned (.bool (leI (sinceP r x s u) day)) ∧ w.grownBy w' (some bo) ∧ RoomW w' bm bo a1 a2 a3 a4 a5 k1 k2 k3 k4 k5 r but := by
  obtain ⟨d, hd⟩ : ∃ d, d = sinceP r x s := ⟨_, rfl⟩
  have hix := day_index (sinceP r x s) u hu
  have SI := fun (V : World) (hV : RoomW V bm bo a1 a2 a3 a4 a5 k1 k2 k3 k4 k5 r but) => SSince_any _ _ _ _ _ _ _ _ _ _ r bm bo but x s V hV hv hx hs
  rw [← hd] at hix SI ⊢
  clear hd
  unfold askV at SI
  have SI := Lib.hid SI
  have KE : Hid (∀ V, w.grownBy V (some bo) → (w.grownBy V (some bo) ∧ V.cell? ⟨p1, 0, none⟩ = some (.pointer (some ⟨bm, 0, none⟩)) ∧ V.cell? ⟨p2, 0, none⟩ = some (.int .i64 (s : Int)) ∧ V.cell? ⟨p3, 0, none⟩ = some (.int .i64 (u : Int)) ∧ V.cell? ⟨p4, 0, none⟩ = some (.int .i64 day) ∧ p1 < V.heap.size ∧ p2 < V.heap.size ∧ p3 < V.heap.size ∧ p4 < V.heap.size)) := Lib.hid (fun V hg => by
    have hk := hm.keeps hg
    exact ⟨hg, hk.2 _ _ c1, hk.2 _ _ c2, hk.2 _ _ c3, hk.2 _ _ c4, Nat.lt_of_lt_of_le (lt_of_cell c1) hk.1, Nat.lt_of_lt_of_le (lt_of_cell c2) hk.1, Nat.lt_of_lt_of_le (lt_of_cell c3) hk.1, Nat.lt_of_lt_of_le (lt_of_cell c4) hk.1⟩)
  have HM := Lib.hid hm
  go_enter Tryz.func25, Tryz.ntmps25
  go_upto_region 1 with (fail)
  apply wp_mid _ (fun V => w.grownBy V (some bo) ∧ RoomW V bm bo a1 a2 a3 a4 a5 k1 k2 k3 k4 k5 r but)
  · have hg0 : w.grownBy w.drew (some bo) := grown_below (below_drew' (Below.refl _ _))
    have hR0 := HM.out.below (below_drew' (Below.refl _ _))
    go_region_held3 (fun V => w.grownBy V (some bo) ∧ V.cell? ⟨p1, 0, none⟩ = some (.pointer (some ⟨bm, 0, none⟩)) ∧ V.cell? ⟨p2, 0, none⟩ = some (.int .i64 (s : Int)) ∧ V.cell? ⟨p3, 0, none⟩ = some (.int .i64 (u : Int)) ∧ V.cell? ⟨p4, 0, none⟩ = some (.int .i64 day) ∧ p1 < V.heap.size ∧ p2 < V.heap.size ∧ p3 < V.heap.size ∧ p4 < V.heap.size) (first | exact KE.out _ hg0 | exact KE.out _ hg1) (first
      | (go_at_call 26; refine (SI.out _ (by assumption)).mono ?_; rintro e w2 ⟨rfl, hgs, hR1⟩; have hg1 := grown_trans hg0 hgs; dsimp only))
    exact ⟨rfl, hg1, hR1⟩
  rintro V ⟨hgV, hRV⟩
  go_wp2
  go_ret
  exact ⟨ret_bool (by unfold leI; rfl), hgV, hRV⟩

/-- Since's own cells: whether it is the first, the days. -/
structure DayC (W : World) (pf pd n : Nat) (lo hi : Int) : Prop where
  f : W.heap[pf]? = some (.cells #[.bool (decide (n = 0))] 4 (0, 0))
  d : W.heap[pd]? = some (.cells #[.int .i64 lo, .int .i64 hi] 81 (0, 0))
theorem DayC.same {W W' : World} {pf pd n : Nat} {lo hi : Int} (h : DayC W pf pd n lo hi) (e1 : W'.heap[pf]? = W.heap[pf]?) (e2 : W'.heap[pd]? = W.heap[pd]?) : DayC W' pf pd n lo hi := ⟨e1.trans h.f, e2.trans h.d⟩
theorem DayC.ne {W : World} {pf pd n : Nat} {lo hi : Int} (h : DayC W pf pd n lo hi) : pf ≠ pd := by
  intro e
  have h1 := h.f
  rw [e, h.d] at h1
  cases h1
/-- The turn of its own cells. -/
structure DayW (W V : World) (pf pd : Nat) : Prop where
  os : V.os = W.os
  tape : V.tape = W.tape
  output : V.output = W.output
  size : V.heap.size = W.heap.size
  other : ∀ b, b ≠ pf → b ≠ pd → V.heap[b]? = W.heap[b]?
theorem DayW.refl (W : World) (pf pd : Nat) : DayW W W pf pd := ⟨rfl, rfl, rfl, rfl, fun _ _ _ => rfl⟩
theorem DayW.setf {W V : World} {pf pd : Nat} (h : DayW W V pf pd) (j : Nat) (v : Value) : DayW W (V.setCell ⟨pf, j, none⟩ v) pf pd :=
  ⟨h.os, h.tape, h.output, by simpa using h.size, fun b h1 h2 => (Below.heap_setCell _ _ _ _ (fun e => h1 e)).trans (h.other b h1 h2)⟩
theorem DayW.setd {W V : World} {pf pd : Nat} (h : DayW W V pf pd) (j : Nat) (v : Value) : DayW W (V.setCell ⟨pd, j, none⟩ v) pf pd :=
  ⟨h.os, h.tape, h.output, by simpa using h.size, fun b h1 h2 => (Below.heap_setCell _ _ _ _ (fun e => h2 e)).trans (h.other b h1 h2)⟩
/-- Its own cells, behind one truth more. -/
def DayN (W : World) (pf pd n : Nat) (lo hi du : Int) : Prop := if 9 < du then DayC W pf pd n lo hi else if n = 0 then DayC W pf pd 1 du du else DayC W pf pd (n + 1) (min lo du) (max hi du)
theorem dayN_skip {W : World} {pf pd n : Nat} {lo hi du : Int} (h : 9 < du) (k : DayC W pf pd n lo hi) : DayN W pf pd n lo hi du := by unfold DayN; rw [if_pos h]; exact k
theorem dayN_first {W : World} {pf pd : Nat} {lo hi du : Int} (h : ¬ 9 < du) (k : DayC W pf pd 0 lo hi) (hne : pf ≠ pd) : DayN (((((W.setCell ⟨pd, 0, none⟩ (.int .i64 du)).setCell ⟨pd, 1, none⟩ (.int .i64 du)).setCell ⟨pf, 0, none⟩ (.bool false)).setCell ⟨pd, 0, none⟩ (.int .i64 du)).setCell ⟨pd, 1, none⟩ (.int .i64 du)) pf pd 0 lo hi du := by
  unfold DayN
  rw [if_neg h, if_pos rfl]
  refine ⟨?_, ?_⟩
  · refine (Below.heap_setCell _ _ _ _ (fun e => hne e)).trans ((Below.heap_setCell _ _ _ _ (fun e => hne e)).trans ?_)
    exact blk_set 0 _ ((Below.heap_setCell _ _ _ _ (fun e => hne e)).trans ((Below.heap_setCell _ _ _ _ (fun e => hne e)).trans k.f))
  · exact blk_set 1 _ (blk_set 0 _ ((Below.heap_setCell _ _ _ _ (fun e => hne e.symm)).trans (blk_set 1 (.int .i64 du) (blk_set 0 (.int .i64 du) k.d))))
theorem dayN_more {W : World} {pf pd n : Nat} {lo hi du a b : Int} (h : ¬ 9 < du) (hn : n ≠ 0) (k : DayC W pf pd n lo hi) (hne : pf ≠ pd) (ha : a = min lo du) (hb : b = max hi du) : DayN ((W.setCell ⟨pd, 0, none⟩ (.int .i64 a)).setCell ⟨pd, 1, none⟩ (.int .i64 b)) pf pd n lo hi du := by
  unfold DayN
  rw [if_neg h, if_neg hn, ← ha, ← hb]
  refine ⟨?_, ?_⟩
  · have e : decide (n = 0) = decide (n + 1 = 0) := by simp [hn]
    rw [← e]
    exact (Below.heap_setCell _ _ _ _ (fun e => hne e)).trans ((Below.heap_setCell _ _ _ _ (fun e => hne e)).trans k.f)
  · exact blk_set 1 _ (blk_set 0 _ k.d)

set_option maxRecDepth 100000 in
set_option maxHeartbeats 1000000 in
theorem SSince1_any (a1 a2 a3 a4 a5 : Option Addr) (k1 k2 k3 k4 k5 : Nat) (r : SeRoom) (bm bo but x s u p1 p2 p3 pf pd n : Nat) (lo hi : Int) (w : World) (hm : RoomW w bm bo a1 a2 a3 a4 a5 k1 k2 k3 k4 k5 r but) (hv : SeValid r) (hx : x < 16) (hs : s < r.kept.length) (hu : u < 4)
    (c1 : w.cell? ⟨p1, 0, none⟩ = some (.pointer (some ⟨bm, 0, none⟩))) (c2 : w.cell? ⟨p2, 0, none⟩ = some (.int .i64 (s : Int))) (c3 : w.cell? ⟨p3, 0, none⟩ = some (.int .i64 (u : Int))) (hD : DayC w pf pd n lo hi) :
    Calls Tryz.prog 65 #[.int .i64 (x : Int), .pointer (some ⟨p1, 0, none⟩), .pointer (some ⟨p2, 0, none⟩), .pointer (some ⟨p3, 0, none⟩), .pointer (some ⟨pf, 0, none⟩), .pointer (some ⟨pd, 0, none⟩)] w fun e w' => e = .returned (.bool (leI (sinceP r x s u) 9)) ∧ ∃ V, w.grownBy V (some bo) ∧ RoomW V bm bo a1 a2 a3 a4 a5 k1 k2 k3 k4 k5 r but ∧ DayW V w' pf pd ∧ DayN w' pf pd n lo hi (sinceP r x s u) := by
  obtain ⟨d, hd⟩ : ∃ d, d = sinceP r x s := ⟨_, rfl⟩
  have hix := day_index (sinceP r x s) u hu
  have hdb := sinceP_days hv x s u
  have SI := fun (V : World) (hV : RoomW V bm bo a1 a2 a3 a4 a5 k1 k2 k3 k4 k5 r but) => SSince_any _ _ _ _ _ _ _ _ _ _ r bm bo but x s V hV hv hx hs
  rw [← hd] at hix SI hdb ⊢
  clear hd
  obtain ⟨du, hdu⟩ : ∃ x, x = d u := ⟨_, rfl⟩
  rw [← hdu] at hix hdb ⊢
  clear hdu
  unfold askV at SI
  have SI := Lib.hid SI
  have hbf : pf ≠ bo := hm.other hD.f
  have hbd : pd ≠ bo := hm.other hD.d
  have HPP := Lib.hid hD.ne
  have KD : Hid (∀ V, w.grownBy V (some bo) → DayC V pf pd n lo hi) := Lib.hid (fun V hg => ⟨grown_keep hg hD.f hbf, grown_keep hg hD.d hbd⟩)
  have KE : Hid (∀ V, w.grownBy V (some bo) → AskS w V bo p1 p2 p3 bm s u) := Lib.hid (fun V hg => by
    have hk := hm.keeps hg
    exact ⟨hg, hk.2 _ _ c1, hk.2 _ _ c2, hk.2 _ _ c3, Nat.lt_of_lt_of_le (lt_of_cell c1) hk.1, Nat.lt_of_lt_of_le (lt_of_cell c2) hk.1, Nat.lt_of_lt_of_le (lt_of_cell c3) hk.1⟩)
  have HM := Lib.hid hm
  clear hbf hbd hD
  go_enter Tryz.func65, Tryz.ntmps65
  go_upto_region 1 with (fail)
  apply wp_mid _ (fun V => w.grownBy V (some bo) ∧ RoomW V bm bo a1 a2 a3 a4 a5 k1 k2 k3 k4 k5 r but)
  · have hg0 : w.grownBy w.drew (some bo) := grown_below (below_drew' (Below.refl _ _))
    have hR0 := HM.out.below (below_drew' (Below.refl _ _))
    go_region_held3 (fun V => w.grownBy V (some bo) ∧ V.cell? ⟨p1, 0, none⟩ = some (.pointer (some ⟨bm, 0, none⟩)) ∧ V.cell? ⟨p2, 0, none⟩ = some (.int .i64 (s : Int)) ∧ V.cell? ⟨p3, 0, none⟩ = some (.int .i64 (u : Int)) ∧ p1 < V.heap.size ∧ p2 < V.heap.size ∧ p3 < V.heap.size) (first | exact KE.out _ hg0 | exact KE.out _ hg1) (first
      | (go_at_call 26; refine (SI.out _ (by assumption)).mono ?_; rintro e w2 ⟨rfl, hgs, hR1⟩; have hg1 := grown_trans hg0 hgs; dsimp only))
    exact ⟨rfl, hg1, hR1⟩
  rintro V ⟨hgV, hRV⟩
  have hDV := KD.out V hgV
  by_cases h9 : 9 < du
  · have HR := Lib.hid (dayN_skip h9 hDV)
    go_wp2
    go_ret
    exact ⟨ret_bool (by unfold leI; simp; omega), V, hgV, hRV, DayW.refl _ _ _, HR.out⟩
  · have d0 := blk_cell 0 hDV.d rfl
    have d1 := blk_cell 1 hDV.d rfl
    have f0 := blk_cell 0 hDV.f rfl
    simp only [List.getElem_toArray, List.getElem_cons_zero, List.getElem_cons_succ] at d0 d1 f0
    have e0 := blk_free 0 hDV.d
    have e1 := blk_free 1 hDV.d
    have e2 := blk_free 0 hDV.f
    have z0 := lt_of_block hDV.d
    have z1 := lt_of_block hDV.f
    have hne := HPP.out
    have hne2 := Ne.symm hne
    by_cases hn : n = 0
    · subst hn
      have f0 : V.cell? ⟨pf, 0, none⟩ = some (.bool true) := f0
      have HN := Lib.hid (dayN_first h9 hDV hne)
      go_wp2
      go_ret
      exact ⟨ret_bool (by unfold leI; simp; omega), V, hgV, hRV, (((((DayW.refl _ _ _).setd _ _).setd _ _).setf _ _).setd _ _).setd _ _, HN.out⟩
    · have hb : decide (n = 0) = false := by simpa using hn
      rw [hb] at f0
      have HN := Lib.hid (fun (a b : Int) ha hb => dayN_more (a := a) (b := b) h9 hn hDV hne ha hb)
      clear hb hn
      go_wp2
      all_goals
        go_ret
        exact ⟨ret_bool (by unfold leI; simp; omega), V, hgV, hRV, ((DayW.refl _ _ _).setd _ _).setd _ _, HN.out _ _ (by omega) (by omega)⟩
end Go.Proofs.YtcgplocmncionaaGreat
