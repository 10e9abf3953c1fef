/- What is proved here: the contract of each: whether something is so of any customer in a plan. Conditions: the plan lies in memory; a function that answers as a plain one does. -/
import Derived.Test.YtchnpekgmkhacaaDeCan
set_option linter.unusedVariables false
set_option linter.unusedSimpArgs false
namespace Go.Proofs.Ytchnpekgmkhacaa
open Go Go.RowKit Go.Shelf

/-- The customers of a plan, with their writers, in order. -/
def pairsFrom : Nat → List (List Int) → List (Nat × Int)
  | _, [] => []
  | w, l :: p => l.map (fun c => (w, c)) ++ pairsFrom (w + 1) p
def eachB (so : Nat → Int → List Int → Bool) : List (Nat × Int) → List Int → Bool
  | [], _ => false
  | x :: L, before => so x.1 x.2 before || eachB so L (before ++ [x.2])
/-- What is to come, and what has been. -/
def restP (p : List (List Int)) (u i : Nat) : List (Nat × Int) := ((p[u]?.getD []).drop i).map (fun c => (u, c)) ++ pairsFrom (u + 1) (p.drop (u + 1))
def befP (p : List (List Int)) (u i : Nat) : List Int := (p.take u).flatten ++ (p[u]?.getD []).take i
theorem rest_next {p : List (List Int)} {u i : Nat} (hu : u < p.length) (hi : i < p[u].length) : restP p u i = (u, p[u][i]) :: restP p u (i + 1) := by
  unfold restP
  rw [List.getElem?_eq_getElem hu, Option.getD_some, List.drop_eq_getElem_cons hi]
  rfl
theorem bef_next {p : List (List Int)} {u i : Nat} (hu : u < p.length) (hi : i < p[u].length) : befP p u (i + 1) = befP p u i ++ [p[u][i]] := by
  unfold befP
  rw [List.getElem?_eq_getElem hu, Option.getD_some, List.take_succ_eq_append_getElem hi, List.append_assoc]
theorem rest_row {p : List (List Int)} {u : Nat} (hu : u < p.length) : restP p u p[u].length = pairsFrom (u + 1) (p.drop (u + 1)) := by
  unfold restP
  rw [List.getElem?_eq_getElem hu, Option.getD_some, List.drop_length]
  rfl
theorem rest_zero {p : List (List Int)} {u : Nat} (hu : u < p.length) : restP p u 0 = pairsFrom u (p.drop u) := by
  unfold restP
  rw [List.getElem?_eq_getElem hu, Option.getD_some, List.drop_zero, List.drop_eq_getElem_cons hu]
  rfl
theorem bef_zero {p : List (List Int)} {u : Nat} : befP p u 0 = (p.take u).flatten := by
  unfold befP; rw [List.take_zero, List.append_nil]
theorem bef_row {p : List (List Int)} {u : Nat} (hu : u < p.length) : befP p u p[u].length = (p.take (u + 1)).flatten := by
  unfold befP
  rw [List.getElem?_eq_getElem hu, Option.getD_some, List.take_length, List.take_succ_eq_append_getElem hu, List.flatten_append]
  simp
theorem flat_take_le (p : List (List Int)) (u : Nat) : ((p.take u).flatten).length ≤ p.flatten.length := by
  conv => rhs; rw [← List.take_append_drop u p]
  rw [List.flatten_append, List.length_append]
  omega
theorem bef_le {p : List (List Int)} {u i : Nat} (hu : u < p.length) : (befP p u i).length ≤ p.flatten.length := by
  have h1 := flat_take_le p (u + 1)
  rw [← bef_row hu] at h1
  refine Nat.le_trans ?_ h1
  unfold befP
  rw [List.getElem?_eq_getElem hu, Option.getD_some, List.take_length]
  simp
  omega
theorem each_all (so : Nat → Int → List Int → Bool) (p : List (List Int)) : eachB so (pairsFrom p.length (p.drop p.length)) ((p.take p.length).flatten) = false := by
  rw [List.drop_length]; rfl

theorem wpList_app_big {P : Program} {w : World} {ops : Array Oper} {rest : List Oper} {o : Oper} {a : Act} {Q : Exit → Act → World → Prop} (s x : Operand) {t e : TypeId} {z : Value} {size bytes : Nat}
    (hE : ElemInfo P t e z size bytes) (hgd : o.guard = none) (ho : o.op = .call { callee := .builtin .append, args := #[s, x], argTypes := #[t, t] })
    {v y : Value} (hs : a.eval s = v) (hx : a.eval x = y)
    (base n m : Nat) (xs news : List Value) (hown : w.ownsRow base e size v n xs) (hsrc : SrcAt w y m size news)
    (hnm : n + m ≤ 9223372036854775807) (hbt : (n + m) * bytes ≤ 140737488355328) (hbase : base ≤ w.heap.size)
    (h : ∀ v' w', w'.ownsRow base e size v' (n + m) (xs ++ news) → w.grownBy w' v.ownBlock → (v'.ownBlock = v.ownBlock ∨ v'.ownBlock = some w.heap.size) → wpList P ops Q rest (a.put o.dst v') w') :
    wpList P ops Q (o :: rest) a w := by
  obtain ⟨i, hi, hz, hsz, hby⟩ := info_parts hE.info
  obtain ⟨h1, h2, h3⟩ := hsrc
  rcases h3 with ⟨rfl, rfl⟩ | ⟨ad, c, rfl, hc⟩
  · have hn : news = [] := List.eq_nil_of_length_eq_zero (by simpa using h1)
    subst hn
    refine wpList_append_own_none hgd s x t ho base e i size hE.und hi v n xs hs hown hx ?_
    exact h v w (by simpa using hown) ⟨rfl, rfl, rfl, Nat.le_refl _, fun _ _ _ => rfl⟩ (.inl rfl)
  · exact wpList_append_own_at w hgd s x t ho base e i z size bytes hE.und hi hz hsz hby hE.zsz hE.pos v n xs hs hown ad m c news hx h1 hc h2 hnm hbt hbase
      fun v' w' h2 h3 _ h5 => h v' w' h2 h3 h5

set_option maxRecDepth 100000 in
set_option maxHeartbeats 2000000 in
theorem DEach_any (ad : Option Addr) (p : List (List Int)) (cp F : Nat) (caps : Array Value) (so : Nat → Int → List Int → Bool) (w : World) (hl : p.length ≤ 3) (hc : SlOk ad p.length cp) (hsz : p.flatten.length ≤ 1048576) (hi : RowsC w ad p)
    (hCF : ∀ (xs : Array Value) (W : World), (callFunc F xs).run Try.prog W = .ok (.enter F xs) W)
    (HS : ∀ (u i : Nat) (hu : u < p.length) (hi : i < p[u].length) (ab : Option Addr) (cb : Nat) (V : World), Below w.heap.size w V → SlOk ab (befP p u i).length cb → IntsC V ab (befP p u i) →
      Calls Try.prog F (#[.int .i64 (u : Int), .int .i64 p[u][i], .slice ab (befP p u i).length cb] ++ caps) V fun e w' => e = .returned (.bool (so u p[u][i] (befP p u i))) ∧ Below V.heap.size V w') :
    Calls Try.prog 107 #[.slice ad p.length cp, .func (.func F) #[] caps] w fun e w' => e = .returned (.bool (eachB so (pairsFrom 0 p) [])) ∧ Below w.heap.size w w' := by
  obtain ⟨res, hres⟩ : ∃ r, r = eachB so (pairsFrom 0 p) [] := ⟨_, rfl⟩
  rw [← hres]
  have HR0 := Lib.hid hres
  clear hres
  have HS := Lib.hid HS
  have hcc := hc.1
  have HFL := Lib.hid (fun (u i : Nat) (hu : u < p.length) => bef_le (p := p) (i := i) hu)
  have HFT := Lib.hid (fun (u : Nat) => flat_take_le p u)
  go_enter Try.func107, Try.ntmps107
  go_wp2
  go_loopw [5, 12] (fun o i wr => ∃ u : Nat, u ≤ p.length ∧ i = .int .i64 u ∧ wr.ownsRow w.heap.size 3 1 o ((p.take u).flatten).length (((p.take u).flatten).map (Value.int .i64)) ∧ Below w.heap.size w wr ∧ Hid (res = eachB so (pairsFrom u (p.drop u)) ((p.take u).flatten))) (fun _ i _ => p.length - (intOf i).toNat)
  case atStart => exact ⟨0, Nat.zero_le _, rfl, World.ownsRow_nil _ _ _ _, Below.refl _ _, HR0⟩
  case round =>
    obtain ⟨u, hu, rfl, hown, hb, HR⟩ := hrel
    have hbz := hb.size
    by_cases hlt : u < p.length
    · obtain ⟨b, off, ar, cr, rfl, hbb0, h10, h2, h3⟩ := hi u hlt
      have h1 := cell_below hb h10
      have hbb := lt_of_cell h1
      clear h10 hbb0
      have hucp : (u : Int) < p.length := by omega
      have h2c := h2.1
      have h2l := h2.len
      have HR2 : Hid (res = eachB so (restP p u 0) (befP p u 0)) := Lib.hid (by rw [HR.out, rest_zero hlt, bef_zero])
      have hown2 : wr.ownsRow w.heap.size 3 1 u5 (befP p u 0).length ((befP p u 0).map (Value.int .i64)) := by rw [bef_zero]; exact hown
      go_wp2
      go_loopw [5, 19] (fun o i V => ∃ k : Nat, k ≤ p[u].length ∧ i = .int .i64 k ∧ V.ownsRow w.heap.size 3 1 o (befP p u k).length ((befP p u k).map (Value.int .i64)) ∧ Below w.heap.size w V ∧ Hid (res = eachB so (restP p u k) (befP p u k))) (fun _ i _ => p[u].length - (intOf i).toNat)
      case atStart => exact ⟨0, Nat.zero_le _, rfl, hown2, hb, HR2⟩
      case round =>
        rename World => V
        obtain ⟨k, hk, rfl, hown, hb, HR⟩ := hrel
        have hbz := hb.size
        by_cases hlk : k < p[u].length
        · have hS := HS.out u k hlt hlk
          have hkcr : (k : Int) < cr := by omega
          have hkl : (k : Int) < p[u].length := by omega
          have HN := Lib.hid (rest_next hlt hlk)
          have HB := Lib.hid (bef_next hlt hlk)
          have hbl := Nat.le_trans (HFL.out u k hlt) hsz
          have hc3 := (h3.mono hb) k hlk
          generalize befP p u k = bf at hown HR hS HB hbl
          generalize p[u][k] = x at hc3 hS HN HB
          obtain ⟨bx, ox, rfl, hbx, hx⟩ := hc3
          obtain ⟨a3, c3, rfl, o3, i3⟩ := ints_ownV hown
          have hS := Lib.hid (hS a3 c3 V hb o3 i3)
          have HS2 := Lib.hid (show (so u x bf = true → res = true) ∧ (so u x bf = false → res = eachB so (restP p u (k + 1)) (befP p u (k + 1))) by
            rw [HR.out, HN.out, HB.out]
            exact ⟨fun h => by show (so u x bf || _) = true; rw [h]; rfl, fun h => by show (so u x bf || _) = _; rw [h]; rfl⟩)
          generalize so u x bf = br at hS HS2
          cases br
          · go_wp2_with (first
              | (at_builtin; go_must (refine wpList_app_big (.tmp 28) (.tmp 30) E_int rfl rfl rfl rfl w.heap.size bf.length 1 (bf.map (Value.int .i64)) [.int .i64 x] (hown2.alloc _) (SrcAt.one _ _ _ rfl) (by omega) (by omega) (by simp; omega) ?_; intro v2 w3 ho2 hg2 _; (have hb3 := app_next hb2 (Nat.le_refl _) (Nat.le_refl _) hown2 hg2); clear hg2; simp only [Act.put, List.setIfInBounds_toArray, List.set_cons_succ, List.set_cons_zero]))
              | ((with_reducible refine hS.out.mono ?_); rintro e w2 ⟨rfl, hb2'⟩; have hown2 := own_below hown hb2'; have hb2 := hb.trans (hb2'.mono hbz); have hb2z := hb2.size; dsimp only))
            go_roundw
            case rel => exact ⟨k + 1, by omega, by go_num, by rw [HB.out]; simpa using ho2, hb3, Lib.hid (HS2.out.2 (by trivial))⟩
            case measure => simp [intOf]; omega
          · go_wp2_with ((with_reducible refine hS.out.mono ?_); rintro e w2 ⟨rfl, hb2'⟩; have hb2 := hb.trans (hb2'.mono hbz); dsimp only)
            go_ret
            exact ⟨ret_bool (HS2.out.1 (by trivial)).symm, hb2⟩
        · obtain rfl : k = p[u].length := by omega
          rw [bef_row hlt] at hown HR
          rw [rest_row hlt] at HR
          go_wp2
          go_roundw
          case rel => exact ⟨u + 1, by omega, by go_num, hown, hb, HR⟩
          case measure => simp [intOf]; omega
    · obtain rfl : u = p.length := by omega
      have HF := Lib.hid (HR.out.trans (each_all so p))
      go_wp2
      go_ret
      exact ⟨ret_bool HF.out.symm, hb⟩
end Go.Proofs.Ytchnpekgmkhacaa
