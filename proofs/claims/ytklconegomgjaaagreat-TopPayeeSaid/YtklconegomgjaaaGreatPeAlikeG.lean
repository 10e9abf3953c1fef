/- What is proved here: the contracts of list, of enter of layer 1 at a valid book, and of Count, First. Conditions: the book lies in memory and is valid; numbers that are in range. -/
import Derived.Test.YtklconegomgjaaaGreatEaFirstG
import Derived.Test.YtklconegomgjaaaGreatEaLookG
import Derived.Test.YtklconegomgjaaaGreatLook19G
import Derived.Deep.OwnRows
import Derived.Laws.CopyOwn
import Derived.Test.YtklconegomgjaaaGreatPeNumG
set_option linter.all false
set_option maxRecDepth 100000
set_option maxHeartbeats 16000000
namespace Go.Proofs.YtklconegomgjaaaGreat
section
open Go Go.RowKit Go.Shelf
theorem Zy9 {W:World} {b:Nat} {t:TypeId} {L:List Int} (h:W.heap[b]?=some (.cells ((L.map (Value.int .i64)).toArray) t (0,0))):Zaw W (some ⟨b,0,none⟩) L:=fun i hi=>
 ⟨b,0,rfl,lt_of_block h,by rw[Nat.zero_add];exact Zaa i h (by simp[hi])⟩
theorem Z1u {h:List Int} (hl:h.length≤5) (w:World):
  Calls Tryz.prog 68 #[Zb8 h] w fun e w'=>∃v,e=.returned v∧Zbm w.heap.size w' v h∧Below w.heap.size w w':=by
 obtain⟨i,hi,hz,hsz,hby⟩:=info_parts Zh3.info
 have hsz1:=LH (show(Tryz.prog.info? 3).map (·.size)=some 1 by rw[hi];simp[hsz])
 have hcn:=LH (show(h.map (Value.int .i64)).length=Nat.min 5 h.length by rw[List.length_map];exact(Nat.min_eq_right hl).symm)
 have hcfit:=LH (show 0+(h.map (Value.int .i64)).length≤(madeCells #[Value.int .i64 0] h.length).size by rw[List.length_map,size_madeCells];simp)
 have hcone:=LH (show ∀v∈h.map (Value.int .i64),v.oneCell'=true from fun v hv=>by obtain⟨y,_,rfl⟩:=List.mem_map.1 hv;rfl)
 go_enter Tryz.func68,Tryz.ntmps68
 go_upto_region 1 with(fail)
 obtain⟨X,hX⟩:∃X:World,X=w.alloc (.cells (Zar h) 95):=⟨_,rfl⟩
 rw[←hX]
 have hx1:X.heap[w.heap.size]?=some (.cells (Zar h) 95 (0,0)):=by rw[hX];exact Zac _ _ rfl
 have hbX:Below w.heap.size w X:=by rw[hX];exact(Below.refl _ _).alloc (Nat.le_refl _) _
 clear hX
 have c0:=Zaa 0 hx1 rfl
 simp only[Zar,List.getElem_toArray,List.getElem_cons_zero] at c0
 have xz:=lt_of_block hx1
 have hcsrc:=LH (fun(j:Nat) (v:Value) (hj:(h.map (Value.int .i64))[j]?=some v)=>show(X.alloc (.cells (madeCells #[Value.int .i64 0] h.length) 3)).cell? ((⟨w.heap.size,1,none⟩:Addr).add j)=some v from by
  rw[Addr.add_lit]
  rw[List.getElem?_map] at hj
  obtain⟨y,hy,rfl⟩:=Option.map_eq_some_iff.1 hj
  obtain⟨hlt,rfl⟩:=List.getElem?_eq_some_iff.1 hy
  refine Zaa (1+j) ((heap_alloc_old _ _ xz).trans hx1) ?_
  have hy2:hrd h j=h[j]:=by unfold hrd;rw[hy];rfl
  have hj5:j<5:=by omega
  obtain rfl|rfl|rfl|rfl|rfl:j=0∨j=1∨j=2∨j=3∨j=4:=by omega
  all_goals exact congrArg (fun z=>some (Value.int .i64 z)) hy2)
 clear hx1
 have hl5:(h.length:Int)≤5:=by omega
 go_wp2_with (first
  |(refine wpList_make_row _ rfl (.tmp 5) (.tmp 5) _ rfl 3 i (.int .i64 0) Zh3.und hi hz hsz rfl .i64 .i64 h.length rfl rfl (by rw[hby];omega) (by omega) ?_;go_frame)
  |(refine wpList_copy_own rfl (.tmp 7) (.tmp 9) _ _ rfl 3 Zh3.und hsz1.out X.heap.size 0 h.length h.length ⟨w.heap.size,1,none⟩ 5 5 rfl rfl (madeCells #[Value.int .i64 0] h.length) 3 (Ze3 _ _) (h.map (Value.int .i64)) hcn.out hcsrc.out hcfit.out hcone.out ?_;go_frame))
 have hzX:=hbX.size
 have hBf:Below w.heap.size w ((X.alloc (.cells (madeCells #[Value.int .i64 0] h.length) 3)).setRow X.heap.size (List.take 0 (madeCells #[Value.int .i64 0] h.length).toList++(List.map (Value.int .i64) h++List.drop (0+(List.map (Value.int .i64) h).length) (madeCells #[Value.int .i64 0] h.length).toList)).toArray):=below_setRow (hbX.alloc hzX _) hzX _
 have hIf:((X.alloc (.cells (madeCells #[Value.int .i64 0] h.length) 3)).setRow X.heap.size (List.take 0 (madeCells #[Value.int .i64 0] h.length).toList++(List.map (Value.int .i64) h++List.drop (0+(List.map (Value.int .i64) h).length) (madeCells #[Value.int .i64 0] h.length).toList)).toArray).heap[X.heap.size]?=some (.cells ((h.map (Value.int .i64)).toArray) 3 (0,0)):=by
  have h1:=setRow_heap (X.alloc (.cells (madeCells #[Value.int .i64 0] h.length) 3)) X.heap.size _ (List.take 0 (madeCells #[Value.int .i64 0] h.length).toList++(List.map (Value.int .i64) h++List.drop (0+(List.map (Value.int .i64) h).length) (madeCells #[Value.int .i64 0] h.length).toList)).toArray 3 _ (Ze3 _ _)
  have e:(List.take 0 (madeCells #[Value.int .i64 0] h.length).toList++(List.map (Value.int .i64) h++List.drop (0+(List.map (Value.int .i64) h).length) (madeCells #[Value.int .i64 0] h.length).toList))=h.map (Value.int .i64):=by
   rw[List.take_zero,List.nil_append,List.drop_eq_nil_of_le (by rw[Array.length_toList,size_madeCells,List.length_map];simp),List.append_nil]
  rw[e] at h1 ⊢
  exact h1
 go_ret
 exact⟨_,rfl,⟨some ⟨X.heap.size,0,none⟩,h.length,rfl,⟨Nat.le_refl _,by omega,fun h=>by cases h⟩,Zy9 hIf,fun ad e=>by cases e;exact hzX⟩,hBf⟩
theorem Z91 {l:List Int} {n:Nat} (h:∀x∈l,0≤x∧x<n):l.any (outB 0 ((n:Int)-1))=false:=by
 rw[List.any_eq_false]
 intro x hx
 have:=h x hx
 unfold outB
 simp
 omega
theorem Zyf (a1 a2:Option Addr) (k1 k2:Nat) (b:EaB) (n:Nat) (a:Option Addr) (l:List Int) (c:Nat) (w:World) (hm:BookC w a1 a2 k1 k2 b) (hv:EaValid b) (hn:n≤1000) (hl:l.length≤9223372036854775807) (hi:Zaw w a l) (hx:∀x∈l,0≤x∧x<n):
  Calls Tryz.prog 37 #[(.agg #[.int .i64 b.sounds,.slice a1 b.alphas.length k1,.slice a2 b.spells.length k2]),.int .i64 (n:Int),.slice a l.length c] w fun e w'=>∃bm bo:Nat,e=.returned (.tuple #[.pointer (some ⟨bm,0,none⟩),.int .i64 0])∧BookW w' bm bo a1 a2 k1 k2 b∧Below w.heap.size w w'∧w.heap.size≤bm∧w.heap.size≤bo:=by
 have hQ0:=Below.refl (w.heap.size+1) (w.alloc (.cells #[.int .i64 b.sounds,.slice a1 b.alphas.length k1,.slice a2 b.spells.length k2] 25))
 have KE:Hid (∀V,Below (w.heap.size+1) (w.alloc (.cells #[.int .i64 b.sounds,.slice a1 b.alphas.length k1,.slice a2 b.spells.length k2] 25)) V→(V.cell? ⟨w.heap.size,0,none⟩=some (.int .i64 b.sounds)∧V.cell? ⟨w.heap.size,1,none⟩=some (.slice a1 b.alphas.length k1)∧V.cell? ⟨w.heap.size,2,none⟩=some (.slice a2 b.spells.length k2)∧w.heap.size<V.heap.size)):=LH (fun V hV=>⟨Zaj hV 0 _ rfl,Zaj hV 1 _ rfl,Zaj hV 2 _ rfl,Zai hV⟩)
 have CK:=LH (Zo1 a1 a2 k1 k2 b (w.alloc (.cells #[.int .i64 b.sounds,.slice a1 b.alphas.length k1,.slice a2 b.spells.length k2] 25)) (hm.mono (Zaf hQ0)) hv)
 have LK:=LH (fun(V:World) (hb:Below w.heap.size w V)=>Z2t a1 a2 k1 k2 b V (hm.mono hb) hv)
 have BY:=LH (fun(V:World) (hb:Below w.heap.size w V)=>(show Calls Tryz.prog 76 #[.int .i64 0,.int .i64 ((n:Int)-1),.slice a l.length c] V fun e w'=>e=.returned (.bool false)∧Below V.heap.size V w' from by
  have:=Zi7 a l c 0 ((n:Int)-1) V hl (hi.mono hb)
  rwa [Z91 hx] at this))
 have hnI:(n:Int)≤1000:=by omega
 clear hm hv hi hx
 go_enter Tryz.func37,Tryz.ntmps37
 go_wp2_with (first
  |(go_at_call 85;go_must ((with_reducible refine(LK.out _ (Zaf hQ3)).mono ?_);rintro e w4 ⟨bm,bo,rfl,hB4,hb4,hlo,hlo2⟩;dsimp only))
  |(go_at_call 76;go_must ((with_reducible refine(BY.out _ (Zaf hQ2)).mono ?_);rintro e w3 ⟨rfl,hb3⟩;have hQ3:=hQ2.trans (hb3.mono (Zai hQ2));obtain⟨x0,x1,x2,xz⟩:=KE.out _ hQ3;dsimp only))
  |(go_at_call 84;go_must ((with_reducible refine CK.out.mono ?_);rintro e w2 ⟨rfl,hb2⟩;have hQ2:=hQ0.trans (hb2.mono (by simp));obtain⟨x0,x1,x2,xz⟩:=KE.out _ hQ2;dsimp only)))
 go_ret2
 have hz:=(Zaf hQ3).size
 exact⟨bm,bo,rfl,hB4,(Zaf hQ3).trans (hb4.mono hz),by omega,by omega⟩
theorem Zhw:∀k:Nat,k<5→IntKind.i64.wrap (2^k)=(2:Int)^k:=by decide +kernel
theorem Zuw {n k:Nat} (hk:k<n):2^k<2^n:=Nat.pow_lt_pow_right (by omega) hk
end
section
open Go Go.RowKit Go.Shelf
theorem Z7z {b:EaB} (set:Nat):Zhx b.sounds.toNat ((comN b set).headD []):=by
 cases h:comN b set with
 |nil=>exact⟨by simp,by simp⟩
 |cons x l=>
  have:x∈comN b set:=by rw[h];simp
  exact(Zmg.1 this).1
theorem Z85:∀i:Nat,i<5→∀j:Nat,j<5→bits BinOp.or IntKind.i64 ((2:Int)^i) ((2:Int)^j)=((2^i|||2^j:Nat):Int):=by decide +kernel
end
section
open Go Go.RowKit Go.Shelf
theorem Zyt (l:List Int) (x:Int):Zd0 (l++[x])=Zd0 l|||2^x.toNat:=by
 unfold Zd0
 rw[List.foldl_append]
 simp[Nat.one_shiftLeft]
theorem Zj8 {s n:Nat} (hs:s<2^n):Zd0 (Zas s n)=s:=by
 apply Nat.eq_of_testBit_eq
 intro k
 rw[Zko _ _ (fun x hx=>((Zfp s n x).1 hx).1),Bool.eq_iff_iff,decide_eq_true_eq,Zfp]
 constructor
 ·rintro⟨_,_,h⟩
  simpa using h
 ·intro h
  refine⟨by omega,?_,by simpa using h⟩
  have:k<n:=by
   apply Classical.byContradiction
   intro hn
   have:=Nat.testBit_lt_two_pow (x:=s) (i:=k) (Nat.lt_of_lt_of_le hs (Nat.pow_le_pow_right (by omega) (by omega)))
   rw[h] at this
   cases this
  omega
theorem Z4j {l:List Int} (h:l≠[]) (h0:∀x∈l,0≤x):Zd0 l≠0:=by
 intro e
 match l,h with
 |x::l,_=>
  have:=Zko (x::l) x.toNat h0
  rw[e,Nat.zero_testBit] at this
  have hx:=h0 x (by simp)
  simp only[Int.toNat_of_nonneg hx] at this
  simp at this
theorem Zvn:∀c:Nat,c<32→∀k:Nat,k<5→bits BinOp.or .i64 (c:Int) ((2:Int)^k)=((c|||2^k:Nat):Int):=by decide +kernel
def Zk5 (l:List Int) (k:Nat):Int:=if k=0 then -1 else l[k-1]?.getD 0
theorem Zzb {n:Int} {l:List Int} (h:incr n l) {k:Nat} (hk:k<l.length):Zk5 l k<l[k]:=by
 unfold Zk5
 split
 ·have:=(h.2 _ (List.getElem_mem hk)).1;omega
 ·next h0=>
  rw[List.getElem?_eq_getElem (by omega)]
  exact List.pairwise_iff_getElem.1 h.1 (k-1) k (by omega) hk (by omega)
theorem Zst {l:List Int} {k:Nat} (hk:k<l.length):Zk5 l (k+1)=l[k]:=by
 unfold Zk5
 rw[if_neg (by omega),Nat.add_sub_cancel,List.getElem?_eq_getElem hk]
 rfl
theorem Zuc (a1 a2:Option Addr) (k1 k2:Nat) (b:EaB) (a:Option Addr) (l:List Int) (c:Nat) (w:World) (hm:BookC w a1 a2 k1 k2 b) (hv:EaValid b) (ho:SlOk a l.length c) (hi:Zaw w a l) (hl:incr b.spells.length l) (h0:l≠[]):
  Calls Tryz.prog 25 #[(.agg #[.int .i64 b.sounds,.slice a1 b.alphas.length k1,.slice a2 b.spells.length k2]),.slice a l.length c] w fun e w'=>∃v,e=.returned (.tuple #[v,.int .i64 (if (comN b (Zd0 l)).isEmpty=true then 9 else 0)])∧Zbm w.heap.size w' v ((comN b (Zd0 l)).headD [])∧Below w.heap.size w w':=by
 have hQ0:=Below.refl (w.heap.size+1) (w.alloc (.cells #[.int .i64 b.sounds,.slice a1 b.alphas.length k1,.slice a2 b.spells.length k2] 25))
 have hns:=hv.ns
 have hl1:=ho.len
 have hl2:=hm.oks.len
 have hx:∀x∈l,0≤x∧x<b.spells.length:=hl.2
 have EN:=LH (Zyf a1 a2 k1 k2 b b.spells.length a l c (w.alloc (.cells #[.int .i64 b.sounds,.slice a1 b.alphas.length k1,.slice a2 b.spells.length k2] 25)) (hm.mono (Zaf hQ0)) hv (by omega) hl1 (hi.mono (Zaf hQ0)) hx)
 have hslt:Zd0 l<2^b.spells.length:=Zjw l _ hx
 have hspos:=Z4j h0 (fun x h=>(hx x h).1)
 have FB:=(fun(V:World) (bm bo:Nat) (h:BookW V bm bo a1 a2 k1 k2 b)=>Zs5 a1 a2 k1 k2 b bm bo (Zd0 l) V h hv hslt hspos)
 have hho:=Z7z (b:=b) (Zd0 l)
 have HSL:Hid (∀k,k≤l.length→Zd0 (l.take k)<32):=LH (fun k _=>Nat.lt_of_lt_of_le (Zjw _ b.spells.length (fun x h=>hx x (List.mem_of_mem_take h))) (Nat.pow_le_pow_right (n:=2) (by omega) hns))
 have HIN:=LH (fun k (hk:k<l.length)=>Zzb hl hk)
 have HXB:=LH hx
 have HI:=LH (fun(V:World) (h:Below w.heap.size w V)=>hi.mono h)
 obtain⟨em,hem⟩:∃em:Bool,em=(comN b (Zd0 l)).isEmpty:=⟨_,rfl⟩
 have hlen:((comN b (Zd0 l)).length=0↔em=true):=by rw[hem,List.isEmpty_iff,List.length_eq_zero_iff]
 have hnil:em=true→(comN b (Zd0 l)).headD []=[]:=by rw[hem,List.isEmpty_iff];intro h;rw[h];rfl
 rw[←hem]
 generalize (comN b (Zd0 l)).headD []=x at FB hho hnil ⊢
 generalize (comN b (Zd0 l)).length=m at FB hlen
 have LI:=LH (fun V=>Z1u hho.1 V)
 obtain⟨s,hs⟩:∃s,s=Zd0 l:=⟨_,rfl⟩
 rw[←hs] at FB hslt hspos
 have HS:=LH hs
 have hs0:((s:Int)==0)=false:=Zc4 (by omega)
 replace FB:=LH FB
 clear hm hv hho hx hem hl hs hspos hslt
 go_enter Tryz.func25,Tryz.ntmps25
 go_upto_region 6 with(go_at_call 37;go_must ((with_reducible refine EN.out.mono ?_);rintro e w2 ⟨bm,bo,rfl,hB2,hb2,hlo,hlo2⟩;dsimp only))
 have hbw2:=(Zaf hQ0).trans (hb2.mono (by simp))
 have hi2:=HI.out _ hbw2
 clear hQ0 hb2 hi EN HI
 go_loop [8,9,28] (fun st la i=>∃k:Nat,k≤l.length∧i=.int .i64 k∧st=.int .i64 (Zd0 (l.take k):Int)∧la=.int .i64 (Zk5 l k)) (fun _ _ i=>l.length-(intOf i).toNat)
 case atStart=>exact⟨0,Nat.zero_le _,rfl,rfl,rfl⟩
 case round=>
  obtain⟨k,hk,rfl,rfl,rfl⟩:=hrel
  by_cases hlt:k<l.length
  ·have h1:=HIN.out k hlt
   have hx:=HXB.out _ (List.getElem_mem hlt)
   have hsl:=HSL.out k hk
   have HN:=LH (Zyt (l.take k) l[k])
   rw[←List.take_succ_eq_append_getElem hlt] at HN
   have HLN:=LH (Zst hlt)
   obtain⟨b',off,rfl,hb',hc⟩:=hi2 k hlt
   generalize l[k]=y at h1 hx HN HLN hc
   obtain⟨n,rfl⟩:∃n:Nat,y=(n:Int):=⟨y.toNat,by omega⟩
   simp only[Int.toNat_natCast] at HN
   have hw:=Zhw n (by omega)
   have hor:=Zvn (Zd0 (l.take k)) hsl n (by omega)
   have hn64:(n:Int)<64:=by omega
   have hgt:¬(n:Int)≤Zk5 l k:=by omega
   rw[←HN.out] at hor
   clear h1 hx HN
   generalize Zd0 (l.take k)=sk at hor
   obtain⟨sk1,hk1⟩:∃sk1,sk1=Zd0 (l.take (k+1)):=⟨_,rfl⟩
   rw[←hk1] at hor
   replace hk1:=LH hk1
   go_wp2
   go_round
   case rel=>exact⟨k+1,by omega,by go_num,by rw[hk1.out],by rw[HLN.out]⟩
   case measure=>simp[intOf];omega
  ·obtain rfl:k=l.length:=by omega
   rw[List.take_length,←HS.out]
   clear hi2 HSL HIN HXB
   cases em
   ·have hm0:((m:Int)==0)=false:=Zc4 (fun h=>by have:=hlen.1 (by omega);cases this)
    clear hlen hnil
    go_wp2_with (first
     |(go_at_call 68;go_must ((with_reducible refine(LI.out _).mono ?_);rintro e w4 ⟨v4,rfl,hi4,hb4⟩;dsimp only))
     |(go_at_call 38;go_must ((with_reducible refine(FB.out _ _ _ hB2).mono ?_);rintro e w3 ⟨rfl,hb3⟩;dsimp only)))
    go_ret2
    have hb5:Below w.heap.size w (w3.alloc (.cells (Zar x) 95)):=(hbw2.trans (hb3.mono hbw2.size)).alloc (by have:=hbw2.size;have:=hb3.size;omega) _
    have hz5:=hb5.size
    obtain⟨ad,c,e1,e2,e3,e4⟩:=hi4
    exact⟨_,rfl,⟨ad,c,e1,e2,e3,fun x e=>Nat.le_trans hz5 (e4 x e)⟩,hb5.trans (hb4.mono hz5)⟩
   ·have hm0:((m:Int)==0)=true:=Zdv (by have:=hlen.2 rfl;omega)
    have HX0:=LH (hnil rfl)
    clear hlen hnil
    go_wp2_with (go_at_call 38;go_must ((with_reducible refine(FB.out _ _ _ hB2).mono ?_);rintro e w3 ⟨rfl,hb3⟩;dsimp only))
    go_ret2
    have hb5:Below w.heap.size w (w3.alloc (.cells (Zar x) 95)):=(hbw2.trans (hb3.mono hbw2.size)).alloc (by have:=hbw2.size;have:=hb3.size;omega) _
    have hx0:=HX0.out
    subst hx0
    exact⟨_,rfl,⟨none,0,rfl,⟨by simp,by omega,fun _=>rfl⟩,Zaw.nil _ _,fun _ h=>by cases h⟩,hb5⟩
end
section
open Go Go.RowKit Go.Shelf
theorem Zs9 (a1 a2 a3 a4:Option Addr) (k1 k2 k3 k4:Nat) (t:PeW) (but:Nat) (w:World) (hm:TownC w a1 a2 a3 a4 k1 k2 k3 k4 t):
  Calls Tryz.prog 41 #[(.agg #[.int .i64 t.ear.sounds,.slice a1 t.ear.alphas.length k1,.slice a2 t.ear.spells.length k2,.int .i64 t.vills,.slice a3 t.ments.length k3,.slice a4 t.ties.length k4]),.int .i64 (but:Int)] w fun e w'=>∃bt bc bk:Nat,e=.returned (.pointer (some ⟨bt,0,none⟩))∧TownW w' bt bc bk a1 a2 a3 a4 k1 k2 k3 k4 t but∧Below w.heap.size w w'∧w.heap.size≤bt∧w.heap.size≤bc∧w.heap.size≤bk:=by
 have hmm:=@run_makeMap Tryz.prog
 go_enter Tryz.func41,Tryz.ntmps41
 go_wp2
 obtain⟨Z,hZ⟩:∃Z:World,Z=(((w.alloc (.cells #[.int .i64 t.ear.sounds,.slice a1 t.ear.alphas.length k1,.slice a2 t.ear.spells.length k2,.int .i64 t.vills,.slice a3 t.ments.length k3,.slice a4 t.ties.length k4] 29)).alloc (.map #[] 0)).alloc (.map #[] 0)).alloc (.cells #[.int .i64 t.ear.sounds,.slice a1 t.ear.alphas.length k1,.slice a2 t.ear.spells.length k2,.int .i64 t.vills,.slice a3 t.ments.length k3,.slice a4 t.ties.length k4,.int .i64 (but:Int),.map (some (w.heap.size+1)),.map (some (w.heap.size+1+1))] 166):=⟨_,rfl⟩
 rw[←hZ]
 have hb:Below w.heap.size w Z:=by rw[hZ];exact((((Below.refl _ _).alloc (Nat.le_refl _) _).alloc (by simp) _).alloc (by simp;omega) _).alloc (by simp;omega) _
 have hT:TownW Z (w.heap.size+1+1+1) (w.heap.size+1) (w.heap.size+1+1) a1 a2 a3 a4 k1 k2 k3 k4 t but:=by
  refine⟨hm.mono hb,?_,⟨[],?_,Z7s t⟩,⟨[],?_,Z79 t⟩,by omega⟩
  ·unfold TBlk
   rw[hZ]
   exact Zac _ _ (by simp)
  ·have:=MapV.made (w.alloc (.cells #[.int .i64 t.ear.sounds,.slice a1 t.ear.alphas.length k1,.slice a2 t.ear.spells.length k2,.int .i64 t.vills,.slice a3 t.ments.length k3,.slice a4 t.ties.length k4] 29)) Tryz.prog 3
   rw[hZ]
   refine MapV.same (by simpa using this) ?_
   exact(heap_alloc_old _ _ (by simp)).trans (heap_alloc_old _ _ (by simp))
  ·have:=MapV.made ((w.alloc (.cells #[.int .i64 t.ear.sounds,.slice a1 t.ear.alphas.length k1,.slice a2 t.ear.spells.length k2,.int .i64 t.vills,.slice a3 t.ments.length k3,.slice a4 t.ties.length k4] 29)).alloc (.map #[] 0)) Tryz.prog 109
   rw[hZ]
   refine MapV.same (by simpa using this) ?_
   exact heap_alloc_old _ _ (by simp)
 clear hZ
 go_ret
 exact⟨_,_,_,rfl,hT,hb,by omega,by omega,by omega⟩
theorem Z5v (t:PeW) (s:Nat):(comV t s==1)=Zc0 t s:=by unfold comV;cases Zc0 t s<;>rfl
theorem Z46 (t:PeW) (s:Nat):(comV t s==0)=false:=by unfold comV;cases Zc0 t s<;>rfl
theorem Zxq (a1 a2 a3 a4:Option Addr) (k1 k2 k3 k4:Nat) (t:PeW) (bt bc bk but set:Nat) (w:World) (hm:TownW w bt bc bk a1 a2 a3 a4 k1 k2 k3 k4 t but) (hs:set<32) {T:List (Value × Value)} (hT:MapV w Tryz.prog 3 bc T) (hC:Zjj t T) (hin:∃p∈T,p.1=Value.int .i64 (set:Int)):
  Calls Tryz.prog 137 #[.pointer (some ⟨bt,0,none⟩),.int .i64 (set:Int)] w fun e w'=>e=.returned (.bool (Zc0 t set))∧w'=w:=by
 obtain⟨y0,y1,y2,y3,y4,y5,y6,y7,y8,yz⟩:=hm.cells
 have hl:(Instr.lookup 163 (.map (some bc)) (.int .i64 (set:Int)) false).run Tryz.prog w=.ok (.int .i64 (comV t set)) w:=by
  rcases hT.get Zie Zey (Zwh set (by omega)) (Zej w) with⟨h1,_⟩|⟨j,v,h1,h2⟩
  ·obtain⟨p,hp,e⟩:=hin
   exact absurd e (h1 p hp)
  ·rw[h2,hC.get (List.mem_of_getElem? h1)]
 have e0:=Z46 t set
 have e1:=Z5v t set
 generalize comV t set=v at hl e0 e1
 generalize Zc0 t set=r at e1 ⊢
 clear hm hT hC hin
 go_enter Tryz.func137,Tryz.ntmps137
 go_wp2
 go_ret
 exact⟨rfl,rfl⟩
theorem Zx7 (a1 a2 a3 a4:Option Addr) (k1 k2 k3 k4:Nat) (t:PeW) (bt bc bk but set:Nat) (w:World) (hm:TownW w bt bc bk a1 a2 a3 a4 k1 k2 k3 k4 t but) (hv:PeOk t) (hs:set<2^t.ear.spells.length) (h0:set≠0) {T:List (Value × Value)} (hT:MapV w Tryz.prog 3 bc T) (hC:Zjj t T) (hnew:∀p∈T,p.1≠Value.int .i64 (set:Int)):
  Calls Tryz.prog 137 #[.pointer (some ⟨bt,0,none⟩),.int .i64 (set:Int)] w fun e w'=>e=.returned (.bool (Zc0 t set))∧Lrn bc bk w w'∧TownW w' bt bc bk a1 a2 a3 a4 k1 k2 k3 k4 t but:=by
 have hns:=hv.ear.ns
 have hs32:set<32:=Nat.lt_of_lt_of_le hs (Nat.pow_le_pow_right (n:=2) (by omega) hns)
 have hk:=Zwh set (by omega)
 obtain⟨y0,y1,y2,y3,y4,y5,y6,y7,y8,yz⟩:=hm.cells
 have hl:(Instr.lookup 163 (.map (some bc)) (.int .i64 (set:Int)) false).run Tryz.prog w=.ok (.int .i64 0) w:=by
  rcases hT.get Zie Zey hk (Zej w) with⟨_,h2⟩|⟨j,v,h1,_⟩
  ·exact h2
  ·exact absurd rfl (hnew _ (List.mem_of_getElem? h1))
 obtain⟨w1,hrun,hM1,hg1,hs1⟩:=hT.update Zie Zey (by have hmx:maxLen=9223372036854775807:=rfl;have:=hC.len;omega) hk hnew (val:=.int .i64 2)
 have hL1:Lrn bc bk w w1:=.of_common hg1
 have hB1:=hL1.cellsB hm hm.blk
 have hT1:=hm.town.keep (hL1.keeps hm)
 have z0:=Zaa 0 hB1 rfl
 have z1:=Zaa 1 hB1 rfl
 have z2:=Zaa 2 hB1 rfl
 have z3:=Zaa 7 hB1 rfl
 have zz:=lt_of_block hB1
 simp only[List.getElem_toArray,List.getElem_cons_zero,List.getElem_cons_succ] at z0 z1 z2 z3
 have HB1:=LH hB1
 have HHM:=LH hm
 have HG1:=LH hg1
 have HT1:=LH hT1
 have HM1:=LH hM1
 have HC:=LH hC
 have HNW:=LH hnew
 have hle:=hm.town.book.oks.len
 clear hm hT hC hnew hB1 hT1 hM1 hg1 y0 y1 y2 y3 y4 y5 y6 y8
 go_enter Tryz.func137,Tryz.ntmps137
 go_upto_region 3 with(fail)
 have KE:=LH (fun(V:World) (hb:Below w1.heap.size w1 V)=>(show Below w1.heap.size w1 V∧V.cell? ⟨bt,0,none⟩=some (.int .i64 t.ear.sounds)∧V.cell? ⟨bt,1,none⟩=some (.slice a1 t.ear.alphas.length k1)∧V.cell? ⟨bt,2,none⟩=some (.slice a2 t.ear.spells.length k2)∧bt<V.heap.size from⟨hb,Zab hb z0,Zab hb z1,Zab hb z2,Nat.lt_of_lt_of_le zz hb.size⟩))
 have NU:=LH (fun(V:World)=>Zg1 set t.ear.spells.length (by omega) (by omega) V)
 have CO:=LH (fun(V:World) (hb:Below w1.heap.size w1 V) (a:Option Addr) (c:Nat) (ho:SlOk a (Zas set t.ear.spells.length).length c) (hi:Zaw V a (Zas set t.ear.spells.length))=>(show Calls Tryz.prog 25 #[.agg #[.int .i64 t.ear.sounds,.slice a1 t.ear.alphas.length k1,.slice a2 t.ear.spells.length k2],.slice a (Zas set t.ear.spells.length).length c] V fun e w'=>∃v,e=.returned (.tuple #[v,.int .i64 (if Zc0 t set=true then 0 else 9)])∧Below V.heap.size V w' from by
  have:=Zuc a1 a2 k1 k2 t.ear a (Zas set t.ear.spells.length) c V ((HT1.out.mono hb).book) hv.ear ho hi (Zj4 _ _) (fun e=>by
   have:=Zj8 hs
   rw[e] at this
   exact h0 this.symm)
  rw[Zj8 hs] at this
  refine this.mono ?_
  rintro e w' ⟨v,rfl,_,hb'⟩
  refine⟨v,?_,hb'⟩
  unfold Zc0
  cases (comN t.ear set).isEmpty<;>rfl))
 have hg0:Below w1.heap.size w1 w1.drew:=Zah (Below.refl _ _)
 (focus go_region_held3 (fun V=>Below w1.heap.size w1 V∧V.cell? ⟨bt,0,none⟩=some (.int .i64 t.ear.sounds)∧V.cell? ⟨bt,1,none⟩=some (.slice a1 t.ear.alphas.length k1)∧V.cell? ⟨bt,2,none⟩=some (.slice a2 t.ear.spells.length k2)∧bt<V.heap.size) (first|exact KE.out _ hg2|exact KE.out _ hg1|exact KE.out _ hg0) (first
  |(go_at_call 25;refine(CO.out _ hg1 _ _ hso hin).mono ?_;rintro e w3 ⟨v,rfl,hb3⟩;have hg2:=hg1.trans (hb3.mono hg1.size);dsimp only)
  |(go_at_call 59;refine(NU.out _).mono ?_;rintro e w2 ⟨v2,rfl,hn2,hb2⟩;obtain⟨ad,cc,rfl,hso,hin,hnl⟩:=hn2;have hg1:=hg0.trans (hb2.mono hg0.size);dsimp only)))
 have hM3:=(HM1.out).below hg2 HM1.out.lt
 have hg3:w.grownBy w3 (some bc):=Zrc HG1.out hg2 (by omega)
 have c7:=Zab hg2 z3
 have cz:=Nat.lt_of_lt_of_le zz hg2.size
 have HM3:=LH hM3
 have HG3:=LH hg3
 clear KE NU CO hg0 hg1 hg2 hb2 hb3 hM3 hg3 hL1 hl hrun z0 z1 z2 z3 zz hso hin y7 yz
 cases hr:Zc0 t set
 ·have hv2:comV t set=2:=by unfold comV;rw[hr];rfl
  have hC2:=HC.out.more hs32 HNW.out
  rw[hv2] at hC2
  have hl2:(Instr.lookup 163 (.map (some bc)) (.int .i64 (set:Int)) false).run Tryz.prog w3=.ok (.int .i64 2) w3:=by
   rcases HM3.out.get Zie Zey hk (Zej w3) with⟨h1,_⟩|⟨j,v,h1,h2⟩
   ·exact absurd rfl (h1 (Value.int .i64 (set:Int),Value.int .i64 2) (by simp))
   ·have:=hC2.get (List.mem_of_getElem? h1)
    rw[hv2] at this
    rw[h2,this]
  have HR:=LH (show Lrn bc bk w w3∧TownW w3 bt bc bk a1 a2 a3 a4 k1 k2 k3 k4 t but from⟨.of_common HG3.out,HHM.out.learn_common HG3.out ⟨_,HM3.out,hC2⟩⟩)
  clear hC2 hk
  simp only[Bool.false_eq_true,if_false]
  go_wp2
  go_ret
  exact⟨by rw[hr];rfl,HR.out⟩
 ·have hv2:comV t set=1:=by unfold comV;rw[hr];rfl
  have hC2:=HC.out.more hs32 HNW.out
  rw[hv2] at hC2
  obtain⟨j,v0,w4,hj,hrun,hM4,hg4,hs4⟩:=HM3.out.again Zie Zey hk (val:=.int .i64 1) ⟨(Value.int .i64 (set:Int),Value.int .i64 2),by simp,rfl⟩
  have hjT:j=T.length:=by
   obtain⟨hlt,he⟩:=List.getElem?_eq_some_iff.1 hj
   have h1:j<T.length+1:=by simpa using hlt
   apply Classical.byContradiction
   intro hne
   have h2:j<T.length:=by omega
   rw[List.getElem_append_left h2] at he
   exact HNW.out _ (List.getElem_mem h2) (by rw[he])
  subst hjT
  have hset:(T++[(Value.int .i64 (set:Int),Value.int .i64 2)]).set T.length (Value.int .i64 (set:Int),Value.int .i64 1)=T++[(Value.int .i64 (set:Int),Value.int .i64 1)]:=by
   rw[List.set_append_right _ _ (Nat.le_refl _),Nat.sub_self]
   rfl
  rw[hset] at hM4
  have hl2:(Instr.lookup 163 (.map (some bc)) (.int .i64 (set:Int)) false).run Tryz.prog w4=.ok (.int .i64 1) w4:=by
   rcases hM4.get Zie Zey hk (Zej w4) with⟨h1,_⟩|⟨j,v,h1,h2⟩
   ·exact absurd rfl (h1 (Value.int .i64 (set:Int),Value.int .i64 1) (by simp))
   ·have:=hC2.get (List.mem_of_getElem? h1)
    rw[hv2] at this
    rw[h2,this]
  have hg5:=Zte HG3.out hg4
  have HR:=LH (show Lrn bc bk w w4∧TownW w4 bt bc bk a1 a2 a3 a4 k1 k2 k3 k4 t but from⟨.of_common hg5,HHM.out.learn_common hg5 ⟨_,hM4,hC2⟩⟩)
  have d7:w4.cell? ⟨bt,7,none⟩=some (.map (some bc)):=(HR.out.2.cells).2.2.2.2.2.2.2.1
  have dz:=HR.out.2.bt_lt
  clear hC2 hM4 hg4 hg5 hk hj
  simp only[if_true]
  go_wp2
  go_ret
  exact⟨by rw[hr];rfl,HR.out⟩
theorem Zpb (a1 a2 a3 a4:Option Addr) (k1 k2 k3 k4:Nat) (t:PeW) (bt bc bk but set:Nat) (w:World) (hm:TownW w bt bc bk a1 a2 a3 a4 k1 k2 k3 k4 t but) (hv:PeOk t) (hs:set<2^t.ear.spells.length) (h0:set≠0):
  Calls Tryz.prog 137 #[.pointer (some ⟨bt,0,none⟩),.int .i64 (set:Int)] w fun e w'=>e=.returned (.bool (Zc0 t set))∧Lrn bc bk w w'∧TownW w' bt bc bk a1 a2 a3 a4 k1 k2 k3 k4 t but:=by
 obtain⟨T,hT,hC⟩:=hm.common
 by_cases hin:∃p∈T,p.1=Value.int .i64 (set:Int)
 ·refine(Zxq a1 a2 a3 a4 k1 k2 k3 k4 t bt bc bk but set w hm (Nat.lt_of_lt_of_le hs (Nat.pow_le_pow_right (n:=2) (by omega) hv.ear.ns)) hT hC hin).mono ?_
  rintro e w' ⟨rfl,rfl⟩
  exact⟨rfl,Lrn.refl _ _ _,hm⟩
 ·exact Zx7 a1 a2 a3 a4 k1 k2 k3 k4 t bt bc bk but set w hm hv hs h0 hT hC (fun p hp e=>hin ⟨p,hp,e⟩)
end
end Go.Proofs.YtklconegomgjaaaGreat
