/- What is proved here: the contract of Spell of layer 1, at a valid book and letters of which none is silent and can be a sound of what is heard. Conditions: the book lies in memory. -/
import Derived.Test.YtklconegomgjaaaGreatEaOddG
import Derived.Laws.Concat
import Derived.Laws.Runes
set_option linter.unusedVariables false
set_option linter.unusedSimpArgs false
namespace Go.Proofs.YtklconegomgjaaaGreat
open Go Go.RowKit Go.Shelf

def strB (t : List Int) : ByteArray := ⟨(t.map fun c => UInt8.ofNat c.toNat).toArray⟩
def oStr (o : Option (List Int)) : ByteArray := match o with | some t => strB t | none => ⟨#[]⟩
theorem enc_one {c : Int} (h0 : 0 ≤ c) (h1 : c < 128) : Utf8.encode c = ⟨#[UInt8.ofNat c.toNat]⟩ := by
  unfold Utf8.encode
  have hv : Utf8.valid c = true := by
    rw [validRune_eq]; unfold validRune; exact decide_eq_true (.inl ⟨h0, by omega⟩)
  have h2 : c.toNat < 128 := by omega
  simp [hv, h2]
theorem strB_cons {c : Int} (h0 : 0 ≤ c) (h1 : c < 128) (t : List Int) : Utf8.encode c ++ strB t = strB (c :: t) := by
  rw [enc_one h0 h1]
  unfold strB
  rw [ByteArray.mk_append_mk]
  simp
theorem strB_size (t : List Int) : (strB t).size = t.length := by simp [strB, ByteArray.size]
theorem enc_size {c : Int} (h0 : 97 ≤ c) (h1 : c ≤ 122) : (Utf8.encode c).size = 1 := by rw [enc_one (by omega) (by omega)]; rfl
/-- What follows if a letter is taken. -/
def nextF (ls : List EaL) (h : List Int) (m done : Nat) (x : EaL) : Option (List Int) :=
  if x.silent = true then writeF ls h m done else match h[done]? with | some n => if bitB x.sounds n.toNat = true then writeF ls h m (done + 1) else none | none => none
/-- No letter is silent and can be a sound of what is heard. -/
def NoBoth (ls : List EaL) (h : List Int) : Prop := ∀ x ∈ ls, x.silent = true → ∀ n ∈ h, bitB x.sounds n.toNat = false
theorem write_next {ls : List EaL} {h : List Int} (hn : NoBoth ls h) (m done : Nat) : writeF ls h (m + 1) done = ls.findSome? fun x => (nextF ls h m done x).map fun s => x.letter :: s := by
  rw [writeF]
  have e : ∀ l : List EaL, (∀ x ∈ l, x ∈ ls) → l.findSome? (fun x => (bestT ls (if x.silent = true then writeF ls h m done else none) (match h[done]? with | some n => if bitB x.sounds n.toNat = true then writeF ls h m (done + 1) else none | none => none)).map fun s => x.letter :: s) = l.findSome? fun x => (nextF ls h m done x).map fun s => x.letter :: s := by
    intro l
    induction l with
    | nil => intro _; rfl
    | cons x l ih =>
      intro hl
      rw [List.findSome?_cons, List.findSome?_cons, ih (fun y hy => hl y (by simp [hy]))]
      congr 2
      unfold nextF
      by_cases hs : x.silent = true
      · rw [if_pos hs, if_pos hs]
        cases hd : h[done]? with
        | none =>
          cases writeF ls h m done <;> rfl
        | some n =>
          have := hn x (hl x (by simp)) hs n (List.mem_of_getElem? hd)
          simp only [this]
          cases writeF ls h m done <;> rfl
      · rw [if_neg hs, if_neg hs]
        rfl
  exact e ls (fun _ h => h)
theorem write_len {ls : List EaL} {h : List Int} (hn : NoBoth ls h) : ∀ (m done : Nat) (t : List Int), writeF ls h m done = some t → t.length = m
  | 0, done, t, e => by
    rw [writeF] at e
    split at e
    · cases e; rfl
    · cases e
  | m + 1, done, t, e => by
    rw [write_next hn] at e
    obtain ⟨x, _, hx⟩ := List.exists_of_findSome?_eq_some e
    obtain ⟨s, hs, rfl⟩ := Option.map_eq_some_iff.1 hx
    unfold nextF at hs
    have : s.length = m := by
      split at hs
      · exact write_len hn m _ _ hs
      · split at hs
        · split at hs
          · exact write_len hn m _ _ hs
          · cases hs
        · cases hs
    simp [this]
/-- What is behind some letters. -/
def fromF (ls : List EaL) (h : List Int) (m done k : Nat) : Option (List Int) := (ls.drop k).findSome? fun x => (nextF ls h m done x).map fun s => x.letter :: s
theorem fromF_end {ls : List EaL} {h : List Int} {m done k : Nat} (hk : ls.length ≤ k) : fromF ls h m done k = none := by unfold fromF; rw [List.drop_eq_nil_of_le hk]; rfl
theorem fromF_next {ls : List EaL} {h : List Int} {m done k : Nat} (hk : k < ls.length) : fromF ls h m done k = match nextF ls h m done ls[k] with | some s => some (ls[k].letter :: s) | none => fromF ls h m done (k + 1) := by
  unfold fromF
  rw [List.drop_eq_getElem_cons hk, List.findSome?_cons]
  cases nextF ls h m done ls[k] <;> rfl
/-- What Spell's inner function finds in memory. -/
structure SpB (W : World) (ph pl pw : Nat) (al : Option Addr) (cl : Nat) (ls : List EaL) (h : List Int) : Prop where
  hb : W.heap[ph]? = some (.cells (heardCells h) 95 (0, 0))
  lb : W.heap[pl]? = some (.cells #[.slice al ls.length cl] 128 (0, 0))
  wb : W.heap[pw]? = some (.cells #[.func (.func 72) #[] #[.pointer (some ⟨ph, 0, none⟩), .pointer (some ⟨pl, 0, none⟩), .pointer (some ⟨pw, 0, none⟩)]] 146 (0, 0))
  ok : SlOk al ls.length cl
  ls : EaLettersC W al ls
theorem SpB.below {W V : World} {ph pl pw : Nat} {al : Option Addr} {cl : Nat} {ls : List EaL} {h : List Int} (s : SpB W ph pl pw al cl ls h) (hb : Below W.heap.size W V) : SpB V ph pl pw al cl ls h :=
  ⟨(hb.block _ (lt_of_block s.hb)).trans s.hb, (hb.block _ (lt_of_block s.lb)).trans s.lb, (hb.block _ (lt_of_block s.wb)).trans s.wb, s.ok, s.ls.mono hb⟩
def SpCE (ph pl pw : Nat) (al : Option Addr) (cl : Nat) (ls : List EaL) (h : List Int) (m : Nat) : Prop :=
  ∀ (d : Nat) (w : World), d ≤ h.length → SpB w ph pl pw al cl ls h → Calls Tryz.prog 72 #[.int .i64 (d : Int), .int .i64 (m : Int), .pointer (some ⟨ph, 0, none⟩), .pointer (some ⟨pl, 0, none⟩), .pointer (some ⟨pw, 0, none⟩)] w fun e w' => e = .returned (.tuple #[.string (oStr (writeF ls h m d)), .bool (writeF ls h m d).isSome]) ∧ Below w.heap.size w w'
set_option maxRecDepth 100000 in
set_option maxHeartbeats 1000000 in
theorem ESpell_zero (ph pl pw : Nat) (al : Option Addr) (cl : Nat) (ls : List EaL) (h : List Int) : SpCE ph pl pw al cl ls h 0 := by
  intro d w hd hs
  have c0 := blk_cell 0 hs.hb rfl
  have cz := lt_of_block hs.hb
  simp only [heardCells, List.getElem_toArray, List.getElem_cons_zero] at c0
  have hbd := below_drew' (Below.refl w.heap.size w)
  rw [writeF]
  by_cases e : d = h.length
  · have e1 : ((d : Int) == (h.length : Int)) = true := eqi_t (by omega)
    rw [if_pos e]
    clear e hs
    go_enter Tryz.func72, Tryz.ntmps72
    go_wp2_with (focus go_region)
    all_goals
      go_wp2
      go_ret2
      exact ⟨rfl, hbd⟩
  · have e1 : ((d : Int) == (h.length : Int)) = false := eqi_f (by omega)
    rw [if_neg e]
    clear e hs
    go_enter Tryz.func72, Tryz.ntmps72
    go_wp2_with (focus go_region)
    all_goals
      go_wp2
      go_ret2
      exact ⟨rfl, hbd⟩
set_option maxRecDepth 100000 in
set_option maxHeartbeats 2000000 in
theorem ESpell_step (ph pl pw : Nat) (al : Option Addr) (cl : Nat) (ls : List EaL) (h : List Int) (m S : Nat) (hm : m + 1 ≤ 5) (hS : S ≤ 4) (hh : HeardOk S h) (hL : ∀ x ∈ ls, (97 ≤ x.letter ∧ x.letter ≤ 122) ∧ 0 ≤ x.sounds ∧ x.sounds < 16) (hn : NoBoth ls h) (hI : SpCE ph pl pw al cl ls h m) : SpCE ph pl pw al cl ls h (m + 1) := by
  intro d w hd hs
  have HS := Lib.hid (fun (V : World) (hb : Below w.heap.size w V) => hs.below hb)
  have HI := Lib.hid hI
  have HW : Hid (writeF ls h (m + 1) d = fromF ls h m d 0) := Lib.hid (by rw [write_next hn]; rfl)
  have HSZ := Lib.hid (fun d t e => write_len hn m d t e)
  have HX := Lib.hid hL
  have HN := Lib.hid hn
  generalize hr : writeF ls h (m + 1) d = r at HW ⊢
  clear hr
  have b0 := blk_cell 0 hs.lb rfl
  have bz := lt_of_block hs.lb
  simp only [List.getElem_toArray, List.getElem_cons_zero] at b0
  have hlen := hs.ok.len
  have hm0 : (((m + 1 : Nat) : Int) == 0) = false := eqi_f (by omega)
  have hm1 : ((m + 1 : Nat) : Int) = (m : Int) + 1 := by omega
  rw [hm1] at hm0 ⊢
  have hmI : (m : Int) + 1 ≤ 5 := by omega
  have hdI : (d : Int) ≤ (h.length : Int) := by omega
  have h5I : (h.length : Int) ≤ 5 := by have := hh.1; omega
  clear hI hL hn hs
  go_enter Tryz.func72, Tryz.ntmps72
  go_wp2
  go_loopw [23] (fun i wr => ∃ k : Nat, k ≤ ls.length ∧ i = .int .i64 (k : Int) ∧ Hid (r = fromF ls h m d k) ∧ Below w.heap.size w wr) (fun i _ => ls.length - (intOf i).toNat)
  case atStart => exact ⟨0, Nat.zero_le _, rfl, HW, Below.refl _ _⟩
  case round =>
    clear b0 bz HW
    obtain ⟨k, hk, rfl, HF, hb⟩ := hrel
    by_cases hlt : k < ls.length
    · have s2 := HS.out _ hb
      obtain ⟨b', off, rfl, hb', l0, l1, l2⟩ := s2.ls k hlt
      have hxo := HX.out _ (List.getElem_mem hlt)
      have HF1 := Lib.hid (HF.out.trans (fromF_next hlt))
      have HNB := Lib.hid (HN.out _ (List.getElem_mem hlt))
      generalize ls[k] = x at l0 l1 l2 hxo HF1 HNB
      obtain ⟨xl, xs, xi⟩ := x
      simp only at l0 l1 l2 hxo HF1 HNB
      obtain ⟨V, hV⟩ : ∃ V : World, V = wr.alloc (.cells #[.int .u8 xl, .int .i64 xs, .bool xi] 137) := ⟨_, rfl⟩
      have hbV : Below wr.heap.size wr V := by rw [hV]; exact (Below.refl _ _).alloc (Nat.le_refl _) _
      have hcV : V.heap[wr.heap.size]? = some (.cells #[.int .u8 xl, .int .i64 xs, .bool xi] 137 (0, 0)) := by rw [hV]; exact alloc_atE _ _ rfl
      replace hV := Lib.hid hV
      have HbV := Lib.hid (hb.trans (hbV.mono hb.size))
      have hsV := s2.below hbV
      have hzwr := hb.size
      go_upto_region 6 with (fail)
      rw [show wr.alloc (.cells #[.int .u8 xl, .int .i64 xs, .bool xi] 137) = V from hV.out.symm]
      have v2 := blk_cell 2 hcV rfl
      have vz := lt_of_block hcV
      have w0 := blk_cell 0 hsV.wb rfl
      have wz := lt_of_block hsV.wb
      simp only [heardCells, List.getElem_toArray, List.getElem_cons_zero, List.getElem_cons_succ] at v2 w0
      clear s2 hbV hV hb' l0 l1 l2
      cases xi
      · skip
        have HS3 := Lib.hid hsV
        have KE := Lib.hid (fun (W : World) (hb : Below V.heap.size V W) => (show Below V.heap.size V W ∧ W.cell? ⟨ph, 0, none⟩ = some (.int .i64 (h.length : Int)) ∧ W.cell? ⟨wr.heap.size, 0, none⟩ = some (.int .u8 xl) ∧ W.cell? ⟨wr.heap.size, 1, none⟩ = some (.int .i64 xs) ∧ W.cell? ⟨wr.heap.size, 2, none⟩ = some (.bool false) ∧ ph < W.heap.size ∧ wr.heap.size < W.heap.size from by
          have e1 := (hb.block _ (lt_of_block hcV)).trans hcV
          have e2 := (HS3.out.below hb).hb
          exact ⟨hb, blk_cell 0 e2 rfl, blk_cell 0 e1 rfl, blk_cell 1 e1 rfl, blk_cell 2 e1 rfl, lt_of_block e2, lt_of_block e1⟩))
        have hg0 : Below V.heap.size V V.drew := below_drew' (Below.refl _ _)
        have hxl := hxo.1
        have GV := Lib.hid (fun n W hn => EGives_any ⟨xl, xs, false⟩ n W hxo.2 hn)
        go_upto_region 9 with (fail)
        clear hcV hsV w0 wz hxo v2 vz
        by_cases hdl : d < h.length
        · have hdI2 : (d : Int) < (h.length : Int) := by omega
          have hdI3 : (0 : Int) ≤ (d : Int) := by omega
          have hdI4 : (d : Int) < 5 := by omega
          have hy := hh.2 _ (List.getElem_mem hdl)
          have HNX : Hid (nextF ls h m d ⟨xl, xs, false⟩ = cond (bitB xs h[d].toNat) (writeF ls h m (d + 1)) none) := Lib.hid (by unfold nextF; rw [if_neg (by simp), List.getElem?_eq_getElem hdl]; simp only; cases bitB xs h[d].toNat <;> rfl)
          have KD := Lib.hid (fun (W : World) (hb : Below V.heap.size V W) => (show W.cell? ⟨ph, 1 + d, none⟩ = some (.int .i64 h[d]) from blk_cell (1 + d) (HS3.out.below hb).hb (by
            have hy2 : hrd h d = h[d] := by unfold hrd; rw [List.getElem?_eq_getElem hdl]; rfl
            have hj5 : d < 5 := by omega
            obtain rfl | rfl | rfl | rfl | rfl : d = 0 ∨ d = 1 ∨ d = 2 ∨ d = 3 ∨ d = 4 := by omega
            all_goals exact congrArg (fun z => some (Value.int .i64 z)) hy2)))
          generalize h[d] = y at KD hy HNX
          obtain ⟨n, rfl⟩ : ∃ n : Nat, y = (n : Int) := ⟨y.toNat, by omega⟩
          simp only [Int.toNat_natCast] at HNX
          have GN := Lib.hid (fun W => GV.out n W (by omega))
          simp only at GN
          obtain ⟨bb, hbb⟩ : ∃ bb, bb = bitB xs n := ⟨_, rfl⟩
          rw [← hbb] at GN HNX
          clear hbb
          clear GV hy
          (focus go_region_held3 (fun W => Below V.heap.size V W ∧ W.cell? ⟨ph, 0, none⟩ = some (.int .i64 (h.length : Int)) ∧ W.cell? ⟨wr.heap.size, 0, none⟩ = some (.int .u8 xl) ∧ W.cell? ⟨wr.heap.size, 1, none⟩ = some (.int .i64 xs) ∧ W.cell? ⟨wr.heap.size, 2, none⟩ = some (.bool false) ∧ W.cell? ⟨ph, 1 + d, none⟩ = some (.int .i64 (n : Int)) ∧ ph < W.heap.size ∧ wr.heap.size < W.heap.size) (first | (have hk := KE.out _ hg0; exact ⟨hk.1, hk.2.1, hk.2.2.1, hk.2.2.2.1, hk.2.2.2.2.1, KD.out _ hg0, hk.2.2.2.2.2⟩) | (have hk := KE.out _ hg1; exact ⟨hk.1, hk.2.1, hk.2.2.1, hk.2.2.2.1, hk.2.2.2.2.1, KD.out _ hg1, hk.2.2.2.2.2⟩)) (first
            | (go_at_call 73; refine (GN.out _).mono ?_; rintro e w4 ⟨rfl, hb4⟩; have hg1 := hg0.trans (hb4.mono hg0.size); dsimp only)))
          cases bb
          · replace HNX : Hid (nextF ls h m d ⟨xl, xs, false⟩ = none) := Lib.hid (by rw [HNX.out]; rfl)
            have HB4 := Lib.hid (HbV.out.trans (hg1.mono HbV.out.size))
            clear hb4 hg0 hg1 KE KD GN
            have HF2 : Hid (r = fromF ls h m d (k + 1)) := Lib.hid (by rw [HF1.out, HNX.out])
            go_wp2
            go_roundw
            case rel => exact ⟨k + 1, by omega, by go_num, HF2, HB4.out⟩
            case measure => simp [intOf]; omega
          · replace HNX : Hid (nextF ls h m d ⟨xl, xs, false⟩ = writeF ls h m (d + 1)) := Lib.hid (by rw [HNX.out]; rfl)
            have hs4 := HS3.out.below hg1
            have NU := HI.out (d + 1) w4 (by omega) hs4
            rw [show (((d + 1 : Nat)) : Int) = (d : Int) + 1 by omega] at NU
            have hsz := HSZ.out (d + 1)
            generalize writeF ls h m (d + 1) = o at HNX hsz NU
            replace NU := Lib.hid NU
            have w0 := blk_cell 0 hs4.wb rfl
            have wz := lt_of_block hs4.wb
            simp only [List.getElem_toArray, List.getElem_cons_zero] at w0
            have HbW4 := Lib.hid (HbV.out.trans (hg1.mono HbV.out.size))
            have HG1 := Lib.hid hg1
            clear hb4 hg0 hg1 KD GN hs4
            cases o with
            | none =>
              go_wp2_with (go_at_call 72; go_must ((with_reducible refine NU.out.mono ?_); rintro e w5 ⟨rfl, hb5⟩; have HB4 := Lib.hid (HbW4.out.trans (hb5.mono HbW4.out.size)); dsimp only))
              have HF2 : Hid (r = fromF ls h m d (k + 1)) := Lib.hid (by rw [HF1.out, HNX.out])
              go_roundw
              case rel => exact ⟨k + 1, by omega, by go_num, HF2, HB4.out⟩
              case measure => simp [intOf]; omega
            | some t =>
              go_upto_region 11 with (go_at_call 72; go_must ((with_reducible refine NU.out.mono ?_); rintro e w5 ⟨rfl, hb5⟩; have HB4 := Lib.hid (HbW4.out.trans (hb5.mono HbW4.out.size)); dsimp only))
              have hg5 := HG1.out.trans (hb5.mono HG1.out.size)
              have v0 := (KE.out _ hg5).2.2.1
              have vz := (KE.out _ hg5).2.2.2.2.2.2
              have HF2 : Hid (r = some (xl :: t)) := Lib.hid (by rw [HF1.out, HNX.out])
              have ht := hsz t rfl
              have hec := enc_size hxl.1 hxl.2
              have hss := strB_size t
              have hz1 : ¬ ((Utf8.encode xl).size + (strB t).size > 9223372036854775807) := by omega
              clear hec hss
              simp only [oStr, Option.isSome_some]
              go_wp2
              go_ret2
              exact ⟨by rw [HF2.out, strB_cons (by omega) (by omega)]; rfl, HB4.out⟩
        · have hdI2 : ¬ (d : Int) < (h.length : Int) := by omega
          have HNX : Hid (nextF ls h m d ⟨xl, xs, false⟩ = none) := Lib.hid (by unfold nextF; rw [if_neg (by simp), List.getElem?_eq_none (by omega)])
          obtain ⟨-, q0, q1, q2, q3, q4, q5⟩ := KE.out _ (Below.refl _ _)
          clear hg0
          go_quiet (fail)
          have hg0 : Below V.heap.size V (V.drewN nq) := below_drewN' (Below.refl _ _) _
          clear q0 q1 q2 q3 q4 q5
          have HB4 := Lib.hid (HbV.out.trans (hg0.mono HbV.out.size))
          clear hg0 KE
          have HF2 : Hid (r = fromF ls h m d (k + 1)) := Lib.hid (by rw [HF1.out, HNX.out])
          go_wp2
          go_roundw
          case rel => exact ⟨k + 1, by omega, by go_num, HF2, HB4.out⟩
          case measure => simp [intOf]; omega
      · have NU := Lib.hid (HI.out d V hd hsV)
        go_upto_region 9 with (go_at_call 72; go_must ((with_reducible refine NU.out.mono ?_); rintro e w3 ⟨rfl, hb3⟩; dsimp only))
        have Hbw3 := Lib.hid (HbV.out.trans (hb3.mono HbV.out.size))
        have Hs3 := Lib.hid (hsV.below hb3)
        have hc3 := (hb3.block _ vz).trans hcV
        have HNX : Hid (nextF ls h m d ⟨xl, xs, true⟩ = writeF ls h m d) := Lib.hid (by unfold nextF; rw [if_pos rfl])
        have hsz := HSZ.out d
        generalize writeF ls h m d = o at HNX hsz ⊢
        have KE := Lib.hid (fun (W : World) (hb : Below w3.heap.size w3 W) => (show Below w3.heap.size w3 W ∧ W.cell? ⟨ph, 0, none⟩ = some (.int .i64 (h.length : Int)) ∧ W.cell? ⟨wr.heap.size, 0, none⟩ = some (.int .u8 xl) ∧ W.cell? ⟨wr.heap.size, 1, none⟩ = some (.int .i64 xs) ∧ W.cell? ⟨wr.heap.size, 2, none⟩ = some (.bool true) ∧ ph < W.heap.size ∧ wr.heap.size < W.heap.size from by
          have e1 := (hb.block _ (lt_of_block hc3)).trans hc3
          have e2 := (Hs3.out.below hb).hb
          exact ⟨hb, blk_cell 0 e2 rfl, blk_cell 0 e1 rfl, blk_cell 1 e1 rfl, blk_cell 2 e1 rfl, lt_of_block e2, lt_of_block e1⟩))
        have hg0 : Below w3.heap.size w3 w3.drew := below_drew' (Below.refl _ _)
        have hxl := hxo.1
        have GV := Lib.hid (fun n W hn => EGives_any ⟨xl, xs, true⟩ n W hxo.2 hn)
        clear NU hcV hb3 hc3 hsV w0 wz hxo v2 vz
        by_cases hdl : d < h.length
        · have hdI2 : (d : Int) < (h.length : Int) := by omega
          have hdI3 : (0 : Int) ≤ (d : Int) := by omega
          have hdI4 : (d : Int) < 5 := by omega
          have hy := hh.2 _ (List.getElem_mem hdl)
          have HG := HNB.out rfl _ (List.getElem_mem hdl)
          have KD := Lib.hid (fun (W : World) (hb : Below w3.heap.size w3 W) => (show W.cell? ⟨ph, 1 + d, none⟩ = some (.int .i64 h[d]) from blk_cell (1 + d) (Hs3.out.below hb).hb (by
            have hy2 : hrd h d = h[d] := by unfold hrd; rw [List.getElem?_eq_getElem hdl]; rfl
            have hj5 : d < 5 := by omega
            obtain rfl | rfl | rfl | rfl | rfl : d = 0 ∨ d = 1 ∨ d = 2 ∨ d = 3 ∨ d = 4 := by omega
            all_goals exact congrArg (fun z => some (Value.int .i64 z)) hy2)))
          generalize h[d] = y at KD hy HG
          obtain ⟨n, rfl⟩ : ∃ n : Nat, y = (n : Int) := ⟨y.toNat, by omega⟩
          simp only [Int.toNat_natCast] at HG
          have GN := Lib.hid (fun W => GV.out n W (by omega))
          simp only at GN
          rw [HG] at GN
          clear HG GV hy
          (focus go_region_held3 (fun W => Below w3.heap.size w3 W ∧ W.cell? ⟨ph, 0, none⟩ = some (.int .i64 (h.length : Int)) ∧ W.cell? ⟨wr.heap.size, 0, none⟩ = some (.int .u8 xl) ∧ W.cell? ⟨wr.heap.size, 1, none⟩ = some (.int .i64 xs) ∧ W.cell? ⟨wr.heap.size, 2, none⟩ = some (.bool true) ∧ W.cell? ⟨ph, 1 + d, none⟩ = some (.int .i64 (n : Int)) ∧ ph < W.heap.size ∧ wr.heap.size < W.heap.size) (first | (have hk := KE.out _ hg0; exact ⟨hk.1, hk.2.1, hk.2.2.1, hk.2.2.2.1, hk.2.2.2.2.1, KD.out _ hg0, hk.2.2.2.2.2⟩) | (have hk := KE.out _ hg1; exact ⟨hk.1, hk.2.1, hk.2.2.1, hk.2.2.2.1, hk.2.2.2.2.1, KD.out _ hg1, hk.2.2.2.2.2⟩)) (first
            | (go_at_call 73; refine (GN.out _).mono ?_; rintro e w4 ⟨rfl, hb4⟩; have hg1 := hg0.trans (hb4.mono hg0.size); dsimp only)))
          have HB4 := Lib.hid (Hbw3.out.trans (hg1.mono Hbw3.out.size))
          have v0 := (KE.out _ hg1).2.2.1
          have vz := (KE.out _ hg1).2.2.2.2.2.2
          clear hb4 hg0 hg1 KE KD GN
          cases o with
          | none =>
            have HF2 : Hid (r = fromF ls h m d (k + 1)) := Lib.hid (by rw [HF1.out, HNX.out])
            go_wp2
            go_roundw
            case rel => exact ⟨k + 1, by omega, by go_num, HF2, HB4.out⟩
            case measure => simp [intOf]; omega
          | some t =>
            have HF2 : Hid (r = some (xl :: t)) := Lib.hid (by rw [HF1.out, HNX.out])
            have ht := hsz t rfl
            have hec := enc_size hxl.1 hxl.2
            have hss := strB_size t
            have hz1 : ¬ ((Utf8.encode xl).size + (strB t).size > 9223372036854775807) := by omega
            clear hec hss
            simp only [oStr, Option.isSome_some]
            go_wp2
            go_ret2
            exact ⟨by rw [HF2.out, strB_cons (by omega) (by omega)]; rfl, HB4.out⟩
        · have hdI2 : ¬ (d : Int) < (h.length : Int) := by omega
          obtain ⟨-, q0, q1, q2, q3, q4, q5⟩ := KE.out _ (Below.refl _ _)
          clear hg0
          go_quiet (fail)
          have hg0 : Below w3.heap.size w3 (w3.drewN nq) := below_drewN' (Below.refl _ _) _
          clear q0 q1 q2 q3 q4 q5
          have HB4 := Lib.hid (Hbw3.out.trans (hg0.mono Hbw3.out.size))
          have v0 := (KE.out _ hg0).2.2.1
          have vz := (KE.out _ hg0).2.2.2.2.2.2
          clear hg0 KE
          cases o with
          | none =>
            have HF2 : Hid (r = fromF ls h m d (k + 1)) := Lib.hid (by rw [HF1.out, HNX.out])
            go_wp2
            go_roundw
            case rel => exact ⟨k + 1, by omega, by go_num, HF2, HB4.out⟩
            case measure => simp [intOf]; omega
          | some t =>
            have HF2 : Hid (r = some (xl :: t)) := Lib.hid (by rw [HF1.out, HNX.out])
            have ht := hsz t rfl
            have hec := enc_size hxl.1 hxl.2
            have hss := strB_size t
            have hz1 : ¬ ((Utf8.encode xl).size + (strB t).size > 9223372036854775807) := by omega
            clear hec hss
            simp only [oStr, Option.isSome_some]
            go_wp2
            go_ret2
            exact ⟨by rw [HF2.out, strB_cons (by omega) (by omega)]; rfl, HB4.out⟩
    · obtain rfl : k = ls.length := by omega
      have HF2 : Hid (r = none) := Lib.hid (by rw [HF.out, fromF_end (Nat.le_refl _)])
      go_wp2
      go_ret2
      exact ⟨by rw [HF2.out]; rfl, hb⟩
theorem ESpell_all (ph pl pw : Nat) (al : Option Addr) (cl : Nat) (ls : List EaL) (h : List Int) (S : Nat) (hS : S ≤ 4) (hh : HeardOk S h) (hL : ∀ x ∈ ls, (97 ≤ x.letter ∧ x.letter ≤ 122) ∧ 0 ≤ x.sounds ∧ x.sounds < 16) (hn : NoBoth ls h) : ∀ m, m ≤ 5 → SpCE ph pl pw al cl ls h m
  | 0, _ => ESpell_zero ph pl pw al cl ls h
  | m + 1, hm => ESpell_step ph pl pw al cl ls h m S hm hS hh hL hn (ESpell_all ph pl pw al cl ls h S hS hh hL hn m (by omega))
def spFrom (ls : List EaL) (h : List Int) (k : Nat) : Option (List Int) := ((List.range 5).drop k).findSome? fun m => writeF ls h (m + 1) 0
theorem spFrom_next {ls : List EaL} {h : List Int} {k : Nat} (hk : k < 5) : spFrom ls h k = match writeF ls h (k + 1) 0 with | some t => some t | none => spFrom ls h (k + 1) := by
  unfold spFrom
  rw [List.drop_eq_getElem_cons (by simpa using hk), List.findSome?_cons, List.getElem_range]
  cases writeF ls h (k + 1) 0 <;> rfl
theorem spFrom_end {ls : List EaL} {h : List Int} {k : Nat} (hk : 5 ≤ k) : spFrom ls h k = none := by unfold spFrom; rw [List.drop_eq_nil_of_le (by simpa using hk)]; rfl
set_option maxRecDepth 100000 in
set_option maxHeartbeats 2000000 in
theorem ESpell_any (a1 a2 : Option Addr) (k1 k2 : Nat) (b : EaB) (A : Nat) (a : Option Addr) (l : List Int) (c : Nat) (t : List Int) (w : World) (hm : BookC w a1 a2 k1 k2 b) (hv : EaValid b) (hA : A < b.alphas.length) (ho : SlOk a l.length c) (hil : IntsC w a l) (hl : HeardOk b.sounds.toNat l) (h0 : l ≠ []) (hn : NoBoth b.alphas[A].letters l) (ht : spellN b.alphas[A].letters l = some t) :
    Calls Tryz.prog 27 #[(.agg #[.int .i64 b.sounds, .slice a1 b.alphas.length k1, .slice a2 b.spells.length k2]), .int .i64 (A : Int), .slice a l.length c] w fun e w' => e = .returned (.tuple #[.string (strB t), .int .i64 0]) ∧ Below w.heap.size w w' := by
  have hQ0 := Below.refl (w.heap.size + 1) (w.alloc (.cells #[.int .i64 b.sounds, .slice a1 b.alphas.length k1, .slice a2 b.spells.length k2] 25))
  have hQ1 := hQ0.alloc (by simp) (.cells #[.int .i64 (A : Int)] 3)
  have hna := hv.na
  have hl1 := hm.oka.len
  have KE : Hid (∀ V, Below (w.heap.size + 1) (w.alloc (.cells #[.int .i64 b.sounds, .slice a1 b.alphas.length k1, .slice a2 b.spells.length k2] 25)) V → (V.cell? ⟨w.heap.size, 0, none⟩ = some (.int .i64 b.sounds) ∧ V.cell? ⟨w.heap.size, 1, none⟩ = some (.slice a1 b.alphas.length k1) ∧ V.cell? ⟨w.heap.size, 2, none⟩ = some (.slice a2 b.spells.length k2) ∧ w.heap.size < V.heap.size)) := Lib.hid (fun V hV => ⟨box_cell hV 0 _ rfl, box_cell hV 1 _ rfl, box_cell hV 2 _ rfl, box_size hV⟩)
  have EN := Lib.hid (EEnterOne_any a1 a2 k1 k2 b b.alphas.length A (w.heap.size + 1) ((w.alloc (.cells #[.int .i64 b.sounds, .slice a1 b.alphas.length k1, .slice a2 b.spells.length k2] 25)).alloc (.cells #[.int .i64 (A : Int)] 3)) (hm.mono (box_old hQ1)) hv (by omega) hA (by simp))
  have HE := Lib.hid (fun (V : World) (bm bo : Nat) (h : BookW V bm bo a1 a2 k1 k2 b) (hb : Below w.heap.size w V) => EHear_any a1 a2 k1 k2 b bm bo a l c V h hv ho (hil.mono hb) hl h0)
  have hS4 : b.sounds.toNat ≤ 4 := by have := hv.sounds; omega
  have hLT : ∀ x ∈ b.alphas[A].letters, (97 ≤ x.letter ∧ x.letter ≤ 122) ∧ 0 ≤ x.sounds ∧ x.sounds < 16 := fun x hx => by
    obtain ⟨k, hk, rfl⟩ := List.getElem_of_mem hx
    have := hv.letter A hA k hk
    have h2 : 2 ^ b.sounds.toNat ≤ 2 ^ 4 := Nat.pow_le_pow_right (by omega) hS4
    have h3 : ((2 ^ b.sounds.toNat : Nat) : Int) ≤ 16 := by omega
    refine ⟨⟨this.1, this.2.1⟩, this.2.2.2.1, ?_⟩
    have h4 := this.2.2.2.2.1
    rw [show (2 : Int) ^ b.sounds.toNat = ((2 ^ b.sounds.toNat : Nat) : Int) by simp] at h4
    omega
  obtain ⟨b1, o1, ea1, hb1, n0, al, cl, n1, hok, hls⟩ := hm.alphas A hA
  replace ea1 := Lib.hid ea1
  have LK := Lib.hid (fun (V : World) (hb : Below w.heap.size w V) => (show V.cell? ⟨b1, o1 + A * 2 + 1, none⟩ = some (.slice al b.alphas[A].letters.length cl) ∧ EaLettersC V al b.alphas[A].letters ∧ b1 < V.heap.size from ⟨cell_below hb n1, hls.mono hb, Nat.lt_of_lt_of_le hb1 hb.size⟩))
  have HA := Lib.hid (fun ph pl pw => ESpell_all ph pl pw al cl b.alphas[A].letters l b.sounds.toNat hS4 hl hLT hn)
  have HT : Hid (spFrom b.alphas[A].letters l 0 = some t) := Lib.hid ht
  generalize b.alphas[A].letters = ls at LK HA HT hok
  have hAI : (A : Int) < (b.alphas.length : Int) := by omega
  clear hm hv hl hil n0 n1 hls hLT hn ht hb1
  go_enter Tryz.func27, Tryz.ntmps27
  go_upto_region 7 with (first
    | (go_at_call 69; go_must ((with_reducible refine (HE.out _ _ _ hB2 hbw2).mono ?_); rintro e w3 ⟨rfl, hb3⟩; dsimp only))
    | (go_at_call 37; go_must ((with_reducible refine EN.out.mono ?_); rintro e w2 ⟨bm, bo, rfl, hB2, hb2, hlo, hlo2⟩; have hbw2 := (box_old hQ1).trans (hb2.mono (box_old hQ1).size); dsimp only)))
  have hQ4 : Below (w.heap.size + 1) (w.alloc (.cells #[.int .i64 b.sounds, .slice a1 b.alphas.length k1, .slice a2 b.spells.length k2] 25)) (w3.alloc (.cells (heardCells l) 95)) := by
    have z1 := hQ1.size
    have h1 := hQ1.trans (hb2.mono (by simp))
    have z2 := h1.size
    rw [show (w.alloc (.cells #[.int .i64 b.sounds, .slice a1 b.alphas.length k1, .slice a2 b.spells.length k2] 25)).heap.size = w.heap.size + 1 by simp] at z2
    have h2 := h1.trans (hb3.mono z2)
    have z3 := h2.size
    rw [show (w.alloc (.cells #[.int .i64 b.sounds, .slice a1 b.alphas.length k1, .slice a2 b.spells.length k2] 25)).heap.size = w.heap.size + 1 by simp] at z3
    exact h2.alloc z3 _
  have hc4 : (w3.alloc (.cells (heardCells l) 95)).heap[w3.heap.size]? = some (.cells (heardCells l) 95 (0, 0)) := alloc_atE _ _ rfl
  obtain ⟨V, hV⟩ : ∃ V : World, V = w3.alloc (.cells (heardCells l) 95) := ⟨_, rfl⟩
  rw [← hV] at hQ4 hc4 ⊢
  clear hV hb3 hbw2 hb2 hB2 hQ0 hQ1 EN HE hlo hlo2
  obtain ⟨x0, x1, x2, xz⟩ := KE.out _ hQ4
  obtain ⟨l1, l2, lz⟩ := LK.out _ (box_old hQ4)
  rw [ea1.out] at x1
  go_upto_region 10 with (fail)
  obtain ⟨Y, hY⟩ : ∃ Y : World, Y = (V.alloc (.cells #[.slice al ls.length cl] 128)).alloc (.cells #[.func (.func 72) #[] #[.pointer (some ⟨w3.heap.size, 0, none⟩), .pointer (some ⟨V.heap.size, 0, none⟩), .pointer (some ⟨V.heap.size + 1, 0, none⟩)]] 146) := ⟨_, rfl⟩
  rw [← hY]
  have hbY : Below V.heap.size V Y := by rw [hY]; exact ((Below.refl _ _).alloc (Nat.le_refl _) _).alloc (by simp) _
  have hsY : SpB Y w3.heap.size V.heap.size (V.heap.size + 1) al cl ls l := by
    refine ⟨(hbY.block _ (lt_of_block hc4)).trans hc4, ?_, ?_, hok, l2.mono hbY⟩
    · rw [hY]; exact (heap_alloc_old _ _ (by simp)).trans (alloc_atE _ _ rfl)
    · rw [hY]; exact alloc_atE _ _ (by simp)
  have hbW := (box_old hQ4).trans (hbY.mono (box_old hQ4).size)
  have HS := Lib.hid (fun (U : World) (hb : Below Y.heap.size Y U) => hsY.below hb)
  have CC := Lib.hid (fun (m : Nat) (h : m ≤ 5) (U : World) (hs : SpB U w3.heap.size V.heap.size (V.heap.size + 1) al cl ls l) => (HA.out w3.heap.size V.heap.size (V.heap.size + 1) m h 0 U (Nat.zero_le _) hs))
  clear hY hbY hsY x0 x1 x2 xz l1 l2 lz hc4 hQ4 HA
  go_wp2
  go_loopw [13] (fun i wr => ∃ k : Nat, k ≤ 5 ∧ i = .int .i64 ((k : Int) + 1) ∧ Hid (spFrom ls l k = some t) ∧ Below Y.heap.size Y wr) (fun i _ => 6 - (intOf i).toNat)
  case atStart => exact ⟨0, by omega, rfl, HT, Below.refl _ _⟩
  case round =>
    clear HT
    obtain ⟨k, hk, rfl, HT, hb⟩ := hrel
    have hlt : k < 5 := by
      apply Classical.byContradiction
      intro h
      have := HT.out
      rw [spFrom_end (by omega)] at this
      cases this
    have hs1 := HS.out _ hb
    have w0 := blk_cell 0 hs1.wb rfl
    have wz := lt_of_block hs1.wb
    simp only [List.getElem_toArray, List.getElem_cons_zero] at w0
    have HT1 := Lib.hid ((spFrom_next hlt).symm.trans HT.out)
    have NU := CC.out (k + 1) (by omega) wr hs1
    rw [show (((k + 1 : Nat)) : Int) = (k : Int) + 1 by omega, show ((0 : Nat) : Int) = 0 from rfl] at NU
    generalize writeF ls l (k + 1) 0 = o at NU HT1
    replace NU := Lib.hid NU
    clear hs1
    cases o with
    | none =>
      go_wp2_with (go_at_call 72; go_must ((with_reducible refine NU.out.mono ?_); rintro e w5 ⟨rfl, hb5⟩; have HB5 := Lib.hid (hb.trans (hb5.mono hb.size)); dsimp only))
      go_roundw
      case rel => exact ⟨k + 1, by omega, by go_num, HT1, HB5.out⟩
      case measure => simp [intOf]; omega
    | some t2 =>
      have HE : Hid (t2 = t) := Lib.hid (by have := HT1.out; simpa using this)
      go_wp2_with (go_at_call 72; go_must ((with_reducible refine NU.out.mono ?_); rintro e w5 ⟨rfl, hb5⟩; have HB5 := Lib.hid (hb.trans (hb5.mono hb.size)); dsimp only))
      go_ret2
      exact ⟨by rw [HE.out]; rfl, hbW.trans (HB5.out.mono hbW.size)⟩
end Go.Proofs.YtklconegomgjaaaGreat
