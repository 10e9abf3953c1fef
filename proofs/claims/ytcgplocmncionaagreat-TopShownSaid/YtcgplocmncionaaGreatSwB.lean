/- What is proved here: contracts of helpers of the laws of layer 12, at answers that are known. Conditions: the room lies in memory. -/
/- What is proved here: the functions of layer 12 at rooms whose lengths are named apart. Conditions: the room lies in memory. -/
/- What is proved here: a bit by shift and remainder; appends up to the reach of one slice. No condition. -/
import Derived.Test.YtcgplocmncionaaGreatSwAG
import Derived.Test.YtcgplocmncionaaGreatSpAll
import Derived.Deep.AppendLies
set_option linter.unusedVariables false
set_option linter.unusedSimpArgs false
namespace Go.Proofs.YtcgplocmncionaaGreat
open Go Go.RowKit
theorem Rising_yes (a : Option Addr) (l : List Int) (c : Nat) (n : Nat) (w : World) (hr : rising l n = true) (hl : l.length ≤ 9223372036854775807) (hi : IntsC w a l) :
    Calls Tryz.prog 15 #[.slice a l.length c, .int .i64 (n : Int)] w fun e w' => e = .returned (.bool true) ∧ w = w' := by
  have C := Rising_any a l c n w hl hi
  rw [hr] at C
  exact C.mono fun e w' h => ⟨h.1, h.2.symm⟩
theorem Has_is (a : Option Addr) (l : List Int) (c : Nat) (n : Int) (b : Bool) (w : World) (hr : hasB l n = b) (hl : l.length ≤ 9223372036854775807) (hi : IntsC w a l) :
    Calls Tryz.prog 13 #[.slice a l.length c, .int .i64 n] w fun e w' => e = .returned (.bool b) ∧ w = w' := by
  have C := Has_any a l c n w hl hi
  rw [hr] at C
  exact C.mono fun e w' h => ⟨h.1, h.2.symm⟩
theorem Bit_is (x k : Nat) (b : Bool) (w : World) (hr : bitB (x : Int) k = b) (hx : x ≤ 1000) (hk : k ≤ 1000) :
    Calls Tryz.prog 9 #[.int .i64 (x : Int), .int .i64 (k : Int)] w fun e w' => e = .returned (.bool b) ∧ w = w' := by
  have C := Bit_any (x : Int) (k : Int) w (by omega) (by omega) (by omega) (by omega)
  rw [Int.toNat_natCast, hr] at C
  exact C.mono fun e w' h => ⟨h.1, h.2.symm⟩
end Go.Proofs.YtcgplocmncionaaGreat
namespace Go.Proofs.YtcgplocmncionaaGreat
open Go Go.RowKit
def Lens (r : SeRoom) (n1 n2 n3 n4 n5 : Nat) : Prop := r.writers.length = n1 ∧ r.kept.length = n2 ∧ r.leaks.length = n3 ∧ r.letters.length = n4 ∧ r.heard.length = n5
theorem C_Check (a1 a2 a3 a4 a5 : Option Addr) (k1 k2 k3 k4 k5 n1 n2 n3 n4 n5 : Nat) (r : SeRoom) (hL : Lens r n1 n2 n3 n4 n5) (i j e : Int) (h : seCheck r = (i, j, e)) (w : World) (hm : RoomC w a1 a2 a3 a4 a5 k1 k2 k3 k4 k5 r) : Calls Tryz.prog 52 #[(.agg #[.slice a1 n1 k1, .slice a2 n2 k2, .slice a3 n3 k3, .slice a4 n4 k4, .slice a5 n5 k5])] w fun x w' => x = .returned (.tuple #[.int .i64 i, .int .i64 j, .int .i64 e]) ∧ Below w.heap.size w w' := by
  obtain ⟨rfl, rfl, rfl, rfl, rfl⟩ := hL
  exact A_Check a1 a2 a3 a4 a5 k1 k2 k3 k4 k5 r i j e h w hm
theorem C_Knows (a1 a2 a3 a4 a5 : Option Addr) (k1 k2 k3 k4 k5 n1 n2 n3 n4 n5 : Nat) (r : SeRoom) (hL : Lens r n1 n2 n3 n4 n5) (u s d : Int) (m e : Int) (h : knowsOf r u s d = (m, e)) (w : World) (hm : RoomC w a1 a2 a3 a4 a5 k1 k2 k3 k4 k5 r) : Calls Tryz.prog 5 #[(.agg #[.slice a1 n1 k1, .slice a2 n2 k2, .slice a3 n3 k3, .slice a4 n4 k4, .slice a5 n5 k5]), .int .i64 u, .int .i64 s, .int .i64 d] w fun x w' => x = .returned (.tuple #[.int .i64 m, .int .i64 e]) ∧ Below w.heap.size w w' := by
  obtain ⟨rfl, rfl, rfl, rfl, rfl⟩ := hL
  exact A_Knows a1 a2 a3 a4 a5 k1 k2 k3 k4 k5 r u s d m e h w hm
theorem C_May (a1 a2 a3 a4 a5 : Option Addr) (k1 k2 k3 k4 k5 n1 n2 n3 n4 n5 : Nat) (r : SeRoom) (hL : Lens r n1 n2 n3 n4 n5) (n : Int) (l : List Int) (e : Int) (h : mayOf r n = (l, e)) (w : World) (hm : RoomC w a1 a2 a3 a4 a5 k1 k2 k3 k4 k5 r) : Calls Tryz.prog 14 #[(.agg #[.slice a1 n1 k1, .slice a2 n2 k2, .slice a3 n3 k3, .slice a4 n4 k4, .slice a5 n5 k5]), .int .i64 n] w fun x w' => ∃ a c, x = .returned (.tuple #[.slice a l.length c, .int .i64 e]) ∧ SlOk a l.length c ∧ IntsC w' a l ∧ Below w.heap.size w w' := by
  obtain ⟨rfl, rfl, rfl, rfl, rfl⟩ := hL
  exact A_May a1 a2 a3 a4 a5 k1 k2 k3 k4 k5 r n l e h w hm
end Go.Proofs.YtcgplocmncionaaGreat
namespace Go.Proofs.YtcgplocmncionaaGreat
open Go Go.RowKit
theorem run_app2 {P : Program} {w : World} {t e ty : TypeId} {z : Value} {size bytes : Nat} (hE : ElemInfo P t e z size bytes) {v y : Value} (base n m : Nat) (xs news : List Value) (hown : w.ownsRow base e size v n xs) (hsrc : SrcAt w y m size news)
    (h63 : n + m ≤ 9223372036854775807) (hbb : (n + m) * bytes ≤ 140737488355328) (hbase : base ≤ w.heap.size) :
    ∃ v' w', (Builtin.append_ #[t, t] ty #[v, y]).run P w = .ok v' w' ∧ w'.ownsRow base e size v' (n + m) (xs ++ news) ∧ w.grownBy w' v.ownBlock ∧ (v'.ownBlock = v.ownBlock ∨ v'.ownBlock = some w.heap.size) := by
  obtain ⟨i, hi, hz, hsz, hby⟩ := info_parts hE.info
  obtain ⟨h1, h2, h3⟩ := hsrc
  rcases h3 with ⟨rfl, rfl⟩ | ⟨ad, c, rfl, hc⟩
  · have hn : news = [] := List.eq_nil_of_length_eq_zero (by simpa using h1)
    subst hn
    have hrun := run_append_owned_none (P := P) (w := w) base t ty e i size hE.und hi v n xs hown
    exact ⟨v, w, hrun, by simpa using hown, ⟨rfl, rfl, rfl, Nat.le_refl _, fun _ _ _ => rfl⟩, .inl rfl⟩
  · have hm : maxLen = 9223372036854775807 := rfl
    obtain ⟨v', w', hr, k2, k3, _, k5⟩ := run_append_own_at (P := P) w base t ty e i z size bytes hE.und hi hz hsz hby hE.zsz hE.pos v n xs hown ad m c news h1 hc h2 (by omega) (by omega) hbase
    exact ⟨v', w', hr, k2, k3, k5⟩
theorem step_app2 {P : Program} {w : World} {ops : Array Oper} {o : Oper} {a : Act} {K : Act → World → Prop} {Q : Exit → Act → World → Prop} {E : Prop} (s x : Operand) {t e : TypeId} {z : Value} {size bytes : Nat}
    (hE : ElemInfo P t e z size bytes) (hgd : o.guard = none) (ho : o.op = .call { callee := .builtin .append, args := #[s, x], argTypes := #[t, t] })
    {v y : Value} (hs : a.eval s = v) (hx : a.eval x = y)
    (base n m : Nat) (xs news : List Value) (hown : w.ownsRow base e size v n xs) (hsrc : SrcAt w y m size news)
    (h63 : n + m ≤ 9223372036854775807) (hbb : (n + m) * bytes ≤ 140737488355328) (hbase : base ≤ w.heap.size)
    (h : ∀ v' w', w'.ownsRow base e size v' (n + m) (xs ++ news) → w.grownBy w' v.ownBlock → (v'.ownBlock = v.ownBlock ∨ v'.ownBlock = some w.heap.size) → K (a.put o.dst v') w') :
    if Region.wanted o (yielded ops a.tmps) = true then Oper.wp P o a w K Q else E := by
  have hw : Region.wanted o (yielded ops a.tmps) = true := by simp [Region.wanted, hgd]
  rw [if_pos hw]
  obtain ⟨v', w', hr, h2, h3, h4⟩ := run_app2 (P := P) (w := w) (t := t) (ty := o.type) hE base n m xs news hown hsrc h63 hbb hbase
  unfold Oper.wp execOp
  simp only [ho, resolve, invoke, builtin, Sem.run_bind, Sem.run_pure, Result.andThen_ok, List.map_toArray, List.map_cons, List.map_nil, hs, hx, hr]
  exact h v' w' h2 h3 h4
end Go.Proofs.YtcgplocmncionaaGreat
