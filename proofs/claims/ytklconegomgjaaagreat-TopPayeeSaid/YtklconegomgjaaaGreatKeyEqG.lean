/- What is proved here: the contract of enter; the length of a map. Conditions: the list lies in memory; lengths. -/
import Derived.Test.YtklconegomgjaaaGreatBeyondG
import Derived.Test.YtklconegomgjaaaGreatMoLook4G
import Derived.Test.YtklconegomgjaaaGreatMidG
import Derived.Test.YtklconegomgjaaaGreatKeyG
import Derived.DeepKeys
set_option linter.all false
set_option maxRecDepth 100000
set_option maxHeartbeats 16000000
namespace Go.Proofs.YtklconegomgjaaaGreat
section
open Go Go.RowKit
theorem MapV.len {P:Program} {k t e:TypeId} {w:World} {b:Nat} {T:List (Value × Value)} (h:MapV w P k b T) (ht:P.underlying t=some (.map k e)) (ty:TypeId):
  (Builtin.len_ #[t] ty #[.map (some b)]).run P w=.ok (.int .i64 (T.length:Int)) w:=by
 obtain⟨es,clock,hb,_,_,rfl⟩:=h
 simp[Builtin.len_,run_underlying ht,MapKept.run_getObj_map hb,goInt,Result.andThen]
theorem Zhz {P:Program} {w:World} {ops:Array Oper} {rest:List Oper} {o:Oper} {a:Act} {Q:Exit→Act→World→Prop} (hg:o.guard=none) (m:Operand) (t:TypeId) (hop:o.op=Op.call {callee:=Callee.builtin Builtin.len,args:=#[m],argTypes:=#[t]})
  (k e:TypeId) (ht:P.underlying t=some (.map k e)) (b:Nat) (T:List (Value × Value)) (hm:a.eval m=.map (some b)) (hown:MapV w P k b T)
  (hK:wpList P ops Q rest (a.put o.dst (.int .i64 (T.length:Int))) w):
  wpList P ops Q (o::rest) a w:=by
 refine wpList_plain hg fun K' hK'=>?_
 unfold Oper.wp
 simp[execOp,hop,resolve,invoke,builtin,hm,hown.len ht o.type,Result.andThen]
 exact hK' _ _ hK
theorem Zp3 (m:MoList) (T:List (List Int)):(ents m T).length=T.length:=by simp[ents]
theorem Zgw (ac az aw ap:Option Addr) (cc cz cw cp:Nat) (m:MoList) (many:Int) (a:Option Addr) (ns:List Int) (c:Nat) (w:World) (hm:ListC w ac az aw ap cc cz cw cp m) (h1:0≤many) (h2:many≤9223372036854775807) (hl:ns.length≤9223372036854775807) (hns:Zaw w a ns):
  Calls Tryz.prog 60 #[(.agg #[.slice ac m.claimants.length cc,.slice az m.sums.length cz,.slice aw m.words.length cw,.slice ap m.paid.length cp]),.int .i64 many,.slice a ns.length c] w fun e w'=>∃v,e=.returned (.tuple #[v,.int .i64 (Zde m many ns)])∧(Zde m many ns=0→∃bm bo:Nat,v=.pointer (some ⟨bm,0,none⟩)∧LookW w' bm bo ac az aw ap cc cz cw cp m (Zau m 0))∧Below w.heap.size w w'∧(Zde m many ns≠0→v=.pointer none):=by
 have HE:Hid (Zde m many ns=if Zf4 m=0 then (if ns.any (outB 0 (many-1)) then 4 else if (Zao m).length=0 then 8 else 0) else Zf4 m):=rfl
 have HV:=LH (fun h:Zf4 m=0=>Zmh h)
 have hQ:=Below.refl (w.heap.size+1) (w.alloc (.cells #[.slice ac m.claimants.length cc,.slice az m.sums.length cz,.slice aw m.words.length cw,.slice ap m.paid.length cp] 54))
 obtain⟨c0,c1,c2,c3⟩:=Zax hQ
 have hbz:=Zai hQ
 have C:=Z0n ac az aw ap cc cz cw cp m (w.alloc (.cells #[.slice ac m.claimants.length cc,.slice az m.sums.length cz,.slice aw m.words.length cw,.slice ap m.paid.length cp] 54)) (hm.mono (Zaf hQ))
 have hce:(check m).2.2=Zf4 m:=rfl
 rw[hce] at C
 clear hce
 generalize (check m).1=q1 at C
 generalize (check m).2.1=q2 at C
 have C:=LH C
 have B:=fun(W:World) (h:Below w.heap.size w W)=>Zm0 a ns c 0 (many-1) W hl (hns.mono h)
 have L:=fun(h:Zf4 m=0) (W:World) (hb:Below w.heap.size w W)=>Ztd ac az aw ap cc cz cw cp m 0 W (hm.mono hb) (HV.out h) (by decide)
 have L:=LH L
 generalize Zde m many ns=r at HE ⊢
 generalize Zf4 m=er at C HE HV L
 by_cases he:er=0
 ·have g1:=Zdf he
  have HE:=LH (HE.out.trans (if_pos he))
  have L:=LH (L.out he)
  have hw:many-1≤9223372036854775807:=by omega
  generalize ns.any (outB 0 (many-1))=ob at B HE
  have B:=LH B
  cases ob
  ·have HM:=LH (Zdz m)
   generalize hn:(Zao m).length=tn at HE
   have HTN:=LH hn
   clear hn he
   by_cases h0:tn=0
   all_goals
    (first|have k0:=Zse h0|have k0:=Zoa h0)
    have HX:=LH h0
    clear h0
    go_enter Tryz.func60,Tryz.ntmps60
    go_wp2_with (first
     |(at_len;go_must (refine Zhz rfl (.tmp 32) _ rfl _ _ Zq3 bo _ rfl hLW.map ?_;rw[Zp3,HM.out,HTN.out];simp only[frT]))
     |(go_at_call 107;go_must (refine(L.out _ (Zaf hQ3)).mono ?_;rintro e w4 ⟨bm,bo,rfl,hLW,hb4⟩;have hQ4:=Zaz hQ3 hb4;have c5:=hLW.blk.cells.2.2.2.2.2;have hbm:=hLW.blk.lt;dsimp only))
     |(go_at_call 113;go_must (refine(B.out _ (Zaf hQ2)).mono ?_;rintro e w3 ⟨rfl,hb3⟩;have hQ3:=Zaz hQ2 hb3;obtain⟨e0,e1,e2,e3⟩:=Zax hQ3;have hbz3:=Zai hQ3;dsimp only))
     |(go_at_call 112;go_must (refine C.out.mono ?_;rintro e w2 ⟨rfl,hb2⟩;have hQ2:=Zaz hQ hb2;obtain⟨d0,d1,d2,d3⟩:=Zax hQ2;have hbz2:=Zai hQ2;dsimp only)))
   ·go_ret2
    have hr:=HE.out
    simp only[Bool.false_eq_true,if_false,HX.out,if_true] at hr
    subst hr
    exact⟨_,rfl,(fun h=>by simp at h),Zaf hQ4,fun _=>rfl⟩
   ·go_ret2
    have hr:=HE.out
    simp only[Bool.false_eq_true,if_false,HX.out] at hr
    subst hr
    exact⟨_,rfl,(fun _=>⟨bm,bo,rfl,hLW⟩),Zaf hQ4,fun h=>absurd rfl h⟩
  ·go_enter Tryz.func60,Tryz.ntmps60
   go_wp2_with (first
    |(go_at_call 113;go_must (refine(B.out _ (Zaf hQ2)).mono ?_;rintro e w3 ⟨rfl,hb3⟩;have hQ3:=Zaz hQ2 hb3;dsimp only))
    |(go_at_call 112;go_must (refine C.out.mono ?_;rintro e w2 ⟨rfl,hb2⟩;have hQ2:=Zaz hQ hb2;obtain⟨d0,d1,d2,d3⟩:=Zax hQ2;have hbz2:=Zai hQ2;dsimp only)))
   go_ret2
   have hr:=HE.out
   simp only[if_true] at hr
   subst hr
   exact⟨_,rfl,(fun h=>by simp at h),Zaf hQ3,fun _=>rfl⟩
 ·have g1:=Zcp he
  have HE:=LH (HE.out.trans (if_neg he))
  have HX:=LH he
  clear he
  go_enter Tryz.func60,Tryz.ntmps60
  go_wp2_with (go_at_call 112;go_must (refine C.out.mono ?_;rintro e w2 ⟨rfl,hb2⟩;have hQ2:=Zaz hQ hb2;dsimp only))
  go_ret2
  have hr:=HE.out
  subst hr
  exact⟨_,rfl,(fun h=>absurd h HX.out),Zaf hQ2,fun _=>rfl⟩
theorem Zgo (ac az aw ap:Option Addr) (cc cz cw cp:Nat) (m:MoList) (many:Int) (a:Option Addr) (ns:List Int) (c:Nat) (w:World) (hm:ListC w ac az aw ap cc cz cw cp m) (h1:0≤many) (h2:many≤9223372036854775807) (hl:ns.length≤9223372036854775807) (hns:Zaw w a ns):
  Calls Tryz.prog 60 #[(.agg #[.slice ac m.claimants.length cc,.slice az m.sums.length cz,.slice aw m.words.length cw,.slice ap m.paid.length cp]),.int .i64 many,.slice a ns.length c] w fun e w'=>∃v,e=.returned (.tuple #[v,.int .i64 (Zde m many ns)])∧(Zde m many ns=0→∃bm bo:Nat,v=.pointer (some ⟨bm,0,none⟩)∧LookW w' bm bo ac az aw ap cc cz cw cp m (Zau m 0))∧Below w.heap.size w w':=
 (Zgw ac az aw ap cc cz cw cp m many a ns c w hm h1 h2 hl hns).mono fun _ _ ⟨v,h1,h2,h3,_⟩=>⟨v,h1,h2,h3⟩
end
section
def oneB (s:Nat):Bool:=s &&& (s-1)==0
theorem Z2k (T:List (List Int)) (i c:Nat) (h:∀t∈T,0≤t[i]?.getD 0):(Zcu T i).testBit c=T.any fun t=>decide (t[i]?.getD 0=(c:Int)):=by
 suffices g:∀(l:List (List Int)) (e:Nat),(∀t∈l,0≤t[i]?.getD 0)→(l.foldl (fun e t=>e|||(1 <<< (t[i]?.getD 0).toNat)) e).testBit c=(e.testBit c||l.any fun t=>decide (t[i]?.getD 0=(c:Int))) from by
  have:=g T 0 h
  simpa[Zcu] using this
 intro l
 induction l with
 |nil=>intro e _;simp
 |cons a l ih=>
  intro e hl
  rw[List.foldl_cons,ih _ (fun t ht=>hl t (by simp[ht])),Nat.testBit_or,Nat.one_shiftLeft,Nat.testBit_two_pow,List.any_cons,Bool.or_assoc]
  congr 2
  have ha:=hl a (by simp)
  rw[decide_eq_decide]
  omega
theorem Z06 (n:Nat) (T:List (List Int)) (i:Nat) (h:∀t∈T,0≤t[i]?.getD 0):whom n T i=Zas (Zcu T i) n:=by
 unfold whom Zas
 congr 1
 apply List.filter_congr
 intro c _
 rw[Z2k T i c h]
theorem Zr4 (i n:Nat):∀(pre:List (List Int)),(∀t∈pre,(t[i]?.getD 0).toNat<n)→Zcu pre i<2^n:=by
 intro pre
 suffices h:∀(l:List (List Int)) (e:Nat),e<2^n→(∀t∈l,(t[i]?.getD 0).toNat<n)→l.foldl (fun e t=>e|||(1 <<< (t[i]?.getD 0).toNat)) e<2^n from fun hp=>h pre 0 (Nat.two_pow_pos n) hp
 intro l
 induction l with
 |nil=>intro e he _;exact he
 |cons a l ih=>
  intro e he hl
  rw[List.foldl_cons]
  refine ih _ (Nat.or_lt_two_pow he ?_) (fun t ht=>hl t (by simp[ht]))
  have:=hl a (by simp)
  rw[Nat.one_shiftLeft]
  exact Nat.pow_lt_pow_right (by omega) this
theorem Z8d:∀n:Nat,n≤4→∀s:Nat,s<2^n→decide (1<(Zas s n).length)=!oneB s:=by decide
theorem Zp6 (m:MoList) (i:Nat) (hi:i<m.sums.length):∀t∈Zao m,0≤t[i]?.getD 0∧t[i]?.getD 0<m.claimants.length:=by
 intro t ht
 have hl:=Zcw m t ht
 rw[List.getElem?_eq_getElem (by omega)]
 exact Zgh m t ht _ (List.getElem_mem (by omega))
theorem Z48 (m:MoList) (hc:m.claimants.length≤4) (i:Nat) (hi:i<m.sums.length):Zcu (Zao m) i<2^m.claimants.length:=
 Zr4 i m.claimants.length (Zao m) (fun t ht=>by have:=Zp6 m i hi t ht;omega)
theorem Zf0 (m:MoList) (hc:m.claimants.length≤4) (i:Nat):Zcu (Zao m) i<16:=by
 refine Zxb i (Zao m) (fun t ht=>?_)
 have hl:=Zcw m t ht
 by_cases hi:i<m.sums.length
 ·have:=Zp6 m i hi t ht
  omega
 ·rw[List.getElem?_eq_none (by omega)]
  decide
theorem Zk8 (m:MoList) (i:Nat) (hi:i<m.sums.length):whom m.claimants.length (Zao m) i=Zas (Zcu (Zao m) i) m.claimants.length:=
 Z06 _ _ _ (fun t ht=>(Zp6 m i hi t ht).1)
theorem Zo5 (m:MoList) (hc:m.claimants.length≤4) (i:Nat) (hi:i<m.sums.length):decide (1<(whom m.claimants.length (Zao m) i).length)=!oneB (Zcu (Zao m) i):=by
 rw[Zk8 m i hi]
 exact Z8d _ hc _ (Z48 m hc i hi)
theorem Zht (m:MoList) (hc:m.claimants.length≤4):Zel m (Zao m)=((List.range m.sums.length).filter fun i=>!oneB (Zcu (Zao m) i)).map fun(i:Nat)=>(i:Int):=by
 unfold Zel
 congr 1
 apply List.filter_congr
 intro i hi
 exact Zo5 m hc i (by simpa using hi)
end
section
open Go Go.RowKit
theorem Z4u:∀s:Nat,s<16→(bits BinOp.and .i64 (s:Int) ((s:Int)-1)==0)=oneB s:=by decide +kernel
theorem Znh (ac az aw ap:Option Addr) (cc cz cw cp:Nat) (m:MoList) (bm bo c i:Nat) (E:List Int) (s:Nat) (hs:s<16) (hE:E[i]?=some (s:Int)) (hE5:E.length=5) (w:World) (hL:LBlk w bm ac az aw ap cc cz cw cp m c bo E):
  Calls Tryz.prog 61 #[.pointer (some ⟨bm,0,none⟩),.int .i64 (i:Int)] w fun e w'=>e=.returned (.bool (oneB s))∧∃q,w'=w.drewN q:=by
 have hi5:i<5:=by
  obtain⟨h,_⟩:=List.getElem?_eq_some_iff.1 hE
  omega
 have hi5i:(i:Int)<5:=by omega
 have hce:=hL.cell6 i hE
 have hb:=hL.lt
 have HO:=LH (Z4u s hs)
 go_enter Tryz.func61,Tryz.ntmps61
 go_wp2
 go_quiet (fail)
 go_wp2
 go_ret
 exact⟨Zaq HO.out,_,rfl⟩
theorem Znm {w:World} {base:Nat} {e:TypeId} {size n:Nat} {v:Value} {xs:List Value} (h:w.ownsRow base e size v n xs) (q:Nat):(w.drewN q).ownsRow base e size v n xs:=
 Zc6 h (Zd7 _ w q)
theorem Ztv (ac az aw ap:Option Addr) (cc cz cw cp:Nat) (m:MoList) (bm bo c:Nat) (T:List (List Int)) (h16:∀i,Zcu T i<16) (hz5:m.sums.length≤5) (w:World) (hL:LBlk w bm ac az aw ap cc cz cw cp m c bo (Zc9 m T)):
  Calls Tryz.prog 104 #[.pointer (some ⟨bm,0,none⟩)] w fun e w'=>∃v,e=.returned v∧Ze7 w' v (((List.range m.sums.length).filter fun i=>!oneB (Zcu T i)).map fun(i:Nat)=>(i:Int))∧Below w.heap.size w w':=by
 obtain⟨p,hp⟩:∃p:Nat→Bool,p=fun i=>!oneB (Zcu T i):=⟨_,rfl⟩
 have hW:Hid ((((List.range m.sums.length).filter fun i=>!oneB (Zcu T i)).map fun(i:Nat)=>(i:Int))=((List.range m.sums.length).filter p).map (fun(c:Nat)=>(c:Int))):=by rw[hp];exact rfl
 generalize (((List.range m.sums.length).filter fun i=>!oneB (Zcu T i)).map fun(i:Nat)=>(i:Int))=r at hW ⊢
 have HP:=LH hp
 clear hp
 have c1:=hL.cells.2.1
 have hbm:=hL.lt
 go_enter Tryz.func104,Tryz.ntmps104
 go_wp2
 go_loopw [2,10] (fun o i wr=>∃(j:Nat),j≤m.sums.length∧i=.int .i64 j∧wr.ownsRow w.heap.size 3 1 o (((List.range j).filter p).map (fun(c:Nat)=>(c:Int))).length ((((List.range j).filter p).map (fun(c:Nat)=>(c:Int))).map (Value.int .i64))∧Below w.heap.size w wr) (fun _ i _=>m.sums.length-(intOf i).toNat)
 case atStart=>exact⟨0,Nat.zero_le _,rfl,World.ownsRow_nil _ _ _ _,Below.refl _ _⟩
 case round=>
  obtain⟨j,hj,rfl,hown,hB⟩:=hrel
  have hB1:=hB.size
  by_cases hlt:j<m.sums.length
  ·have hst:=LH (Zh8 p j)
   have hkl:=Zkr p j
   generalize hLL:((List.range j).filter p).map (fun(c:Nat)=>(c:Int))=L at hown hst hkl
   clear hLL
   have S:=Znh ac az aw ap cc cz cw cp m bm bo c j (Zc9 m T) (Zcu T j) (h16 j) (by unfold Zc9;rw[List.getElem?_map,List.getElem?_range (by omega)];simp[Ze2,hlt]) (Zla m T) wr (hL.same (hB.block _ hbm))
   have hpc:oneB (Zcu T j)=!p j:=by rw[HP.out];simp
   rw[hpc] at S
   clear hpc
   generalize p j=bp at hst S
   have S:=LH S
   cases bp
   ·go_wp2_with (go_at_call 61;go_must (refine S.out.mono ?_;rintro e w2 ⟨rfl,q,rfl⟩;dsimp only))
    go_roundw
    case rel=>exact⟨j+1,by omega,by go_num,by rw[hst.out];simpa using Znm hown q,Zan hB q⟩
    case measure=>simp[intOf];omega
   ·go_wp2_with (first
     |(at_builtin;go_must (refine Zbs (.tmp 17) (.tmp 19) Zh3 rfl rfl rfl rfl w.heap.size L.length 1 (L.map (Value.int .i64)) [.int .i64 (j:Int)] ((Znm hown q).alloc _) (Za2.one _ _ _ rfl) (by omega) (by decide) (by simp;omega) ?_;intro v2 w2 ho2 hg2 _;(have hb2:=Zdw (Zan hB q) (Nat.le_refl _) (Nat.le_refl _) (Znm hown q) hg2);clear hg2;simp only[frT]))
     |(go_at_call 61;go_must (refine S.out.mono ?_;rintro e w2 ⟨rfl,q,rfl⟩;dsimp only)))
    go_roundw
    case rel=>exact⟨j+1,by omega,by go_num,by rw[hst.out];simpa using ho2,hb2⟩
    case measure=>simp[intOf];omega
  ·obtain rfl:j=m.sums.length:=by omega
   go_wp2
   go_ret
   rw[hW.out]
   exact⟨_,rfl,Zr1 hown,hB⟩
end
section
open Go Go.RowKit
theorem Z56 (m:MoList):Zft m=if Za0 m=0 then (Zel m (Zao m),0) else ([],Za0 m):=rfl
theorem Zyz (ac az aw ap:Option Addr) (cc cz cw cp:Nat) (m:MoList) (w:World) (hm:ListC w ac az aw ap cc cz cw cp m):
  Calls Tryz.prog 50 #[(.agg #[.slice ac m.claimants.length cc,.slice az m.sums.length cz,.slice aw m.words.length cw,.slice ap m.paid.length cp])] w fun e w'=>∃v,e=.returned (.tuple #[v,.int .i64 (Zft m).2])∧Ze7 w' v (Zft m).1∧Below w.heap.size w w':=by
 have HE:=LH (Z56 m)
 have HV:=LH (fun h:Za0 m=0=>Zec h)
 have hQ:=Below.refl (w.heap.size+1) (w.alloc (.cells #[.slice ac m.claimants.length cc,.slice az m.sums.length cz,.slice aw m.words.length cw,.slice ap m.paid.length cp] 54))
 obtain⟨c0,c1,c2,c3⟩:=Zax hQ
 have hbz:=Zai hQ
 have C:=Zgo ac az aw ap cc cz cw cp m 0 none [] 0 (w.alloc (.cells #[.slice ac m.claimants.length cc,.slice az m.sums.length cz,.slice aw m.words.length cw,.slice ap m.paid.length cp] 54)) (hm.mono (Zaf hQ)) (by decide) (by decide) (by decide) (Zaw.nil _ _)
 rw[Ze9] at C
 have H:=fun(h:Valid m) (bm bo c:Nat) (W:World) (hL:LBlk W bm ac az aw ap cc cz cw cp m c bo (Zc9 m (Zao m)))=>Ztv ac az aw ap cc cz cw cp m bm bo c (Zao m) (Zf0 m h.nc) h.nz W hL
 have H:=LH H
 have HU:=LH (fun h:Valid m=>Zht m h.nc)
 have HN:=LH (Zdz m)
 have C:=LH C
 generalize Zft m=r at HE ⊢
 generalize Za0 m=er at C HE HV
 by_cases he:er=0
 ·have g1:=Zdf he
  have HE:=LH (HE.out.trans (if_pos he))
  have hv:=(HV.out he).1
  have HX:=LH he
  clear he
  go_enter Tryz.func50,Tryz.ntmps50
  go_wp2_with (first
   |(go_at_call 104;go_must (refine(H.out hv bm bo _ _ hL).mono ?_;rintro e w3 ⟨v3,rfl,hv3,hb3⟩;have hQ3:=Zaz hQ2 hb3;dsimp only))
   |(go_at_call 60;go_must (refine C.out.mono ?_;rintro e w2 ⟨v2,rfl,h2,hb2⟩;obtain⟨bm,bo,rfl,hLW⟩:=h2 HX.out;have hL:=hLW.blk;rw[HN.out] at hL;have hQ2:=Zaz hQ hb2;dsimp only)))
  go_ret2
  rw[HE.out]
  refine⟨_,rfl,?_,Zaf hQ3⟩
  dsimp only
  rw[HU.out hv]
  exact hv3
 ·have g1:=Zcp he
  have HE:=LH (HE.out.trans (if_neg he))
  clear he
  go_enter Tryz.func50,Tryz.ntmps50
  go_wp2_with (go_at_call 60;go_must (refine C.out.mono ?_;rintro e w2 ⟨v2,rfl,h2,hb2⟩;have hQ2:=Zaz hQ hb2;dsimp only))
  go_ret2
  rw[HE.out]
  exact⟨_,rfl,⟨none,0,rfl,⟨by simp,by omega,fun _=>rfl⟩,Zaw.nil _ _⟩,Zaf hQ2⟩
end
section
open Go Go.RowKit
theorem Z8u (m:MoList) (sum:Int):Zek m sum=if Zd6 m sum=0 then (whom m.claimants.length (Zao m) sum.toNat,0) else ([],Zd6 m sum):=rfl
theorem Z3a (m:MoList) (sum:Int):Zde m m.sums.length [sum]=Zd6 m sum:=Zs0 m sum _
theorem Zqj (W:World) (x:Int) (t:TypeId):Zaw (W.alloc (.cells #[.int .i64 x] t)) (some ⟨W.heap.size,0,none⟩) [x]:=by
 intro i hi
 simp at hi
 subst hi
 exact⟨_,0,rfl,by simp,by simp⟩
theorem Zds (w:World):Below w.heap.size w w.drew:=Zah (Below.refl _ _)
theorem Zjg {w W W':World} {o:Obj} (h:Below (w.heap.size+1) (w.alloc o) W) (h2:Below W.heap.size W W'):Below (w.heap.size+1) (w.alloc o) W':=Zaz h h2
theorem Zqm (ac az aw ap:Option Addr) (cc cz cw cp:Nat) (m:MoList) (sum:Int) (w:World) (hm:ListC w ac az aw ap cc cz cw cp m):
  Calls Tryz.prog 16 #[(.agg #[.slice ac m.claimants.length cc,.slice az m.sums.length cz,.slice aw m.words.length cw,.slice ap m.paid.length cp]),.int .i64 sum] w fun e w'=>∃v,e=.returned (.tuple #[v,.int .i64 (Zek m sum).2])∧Ze7 w' v (Zek m sum).1∧Below w.heap.size w w':=by
 have HE:=LH (Z8u m sum)
 have HV:=LH (fun h:Zd6 m sum=0=>Zrx h)
 have hQ:=Below.refl (w.heap.size+1) (w.alloc (.cells #[.slice ac m.claimants.length cc,.slice az m.sums.length cz,.slice aw m.words.length cw,.slice ap m.paid.length cp] 54))
 obtain⟨c0,c1,c2,c3⟩:=Zax hQ
 have hbz:=Zai hQ
 have l2:=hm.okz.len
 have hQ1:=hQ.alloc (by simp) (.cells #[.int .i64 sum] 3)
 have hI:Zaw ((w.alloc (.cells #[.slice ac m.claimants.length cc,.slice az m.sums.length cz,.slice aw m.words.length cw,.slice ap m.paid.length cp] 54)).alloc (.cells #[.int .i64 sum] 3)) (some ⟨w.heap.size+1,0,none⟩) [sum]:=by
  have:=Zqj (w.alloc (.cells #[.slice ac m.claimants.length cc,.slice az m.sums.length cz,.slice aw m.words.length cw,.slice ap m.paid.length cp] 54)) sum 3
  rwa [show(w.alloc (.cells #[.slice ac m.claimants.length cc,.slice az m.sums.length cz,.slice aw m.words.length cw,.slice ap m.paid.length cp] 54)).heap.size=w.heap.size+1 by simp] at this
 have C:=Zgo ac az aw ap cc cz cw cp m m.sums.length _ [sum] 1 _ (hm.mono (Zaf hQ1)) (by omega) (by omega) (by simp) hI
 rw[Z3a] at C
 have C:=LH C
 clear hI
 have HT:=LH (fun(h:Valid m) (i:Nat) (hi:i<m.sums.length)=>Zk8 m i hi)
 have HN:=LH (Zdz m)
 have HB:=LH (fun h:Valid m=>Zf0 m h.nc)
 have NU:=LH (fun(s n:Nat) (hs:s<64) (hn:n≤6) (W:World)=>Zlz s n hs hn W)
 generalize Zek m sum=r at HE ⊢
 generalize Zd6 m sum=er at C HE HV
 by_cases he:er=0
 ·have g1:=Zdf he
  obtain⟨hv,hpos,hs0,hs1⟩:=HV.out he
  obtain⟨i,rfl⟩:∃i:Nat,sum=i:=⟨sum.toNat,by omega⟩
  have hi:i<m.sums.length:=by omega
  have h5:=hv.nz
  have hi5i:(i:Int)<5:=by omega
  have HE:=LH (HE.out.trans (if_pos he))
  have HX:=LH he
  have h4:=hv.nc
  clear he
  have hE:(Zc9 m (Zao m))[i]?=some ((Zcu (Zao m) i:Nat):Int):=by unfold Zc9;rw[List.getElem?_map,List.getElem?_range (by omega)];simp[Ze2,hi]
  have hE:=LH hE
  go_enter Tryz.func16,Tryz.ntmps16
  go_wp2_with (go_at_call 60;go_must (refine C.out.mono ?_;rintro e w2 ⟨v2,rfl,h2,hb2⟩;obtain⟨bm,bo,rfl,hLW⟩:=h2 HX.out;have hL:=hLW.blk;rw[HN.out] at hL;have hQ2:=Zjg hQ1 hb2;have hce:=hL.cell6 i hE.out;have hbm:=hL.lt;obtain⟨d0,d1,d2,d3⟩:=Zax hQ2;have hbz2:=Zai hQ2;dsimp only))
  have KE:Hid (∀V,Below w2.heap.size w2 V→(fun ev=>(fun V=>Below (w.heap.size+1) (w.alloc (.cells #[.slice ac m.claimants.length cc,.slice az m.sums.length cz,.slice aw m.words.length cw,.slice ap m.paid.length cp] 54)) V∧V.cell? ⟨w.heap.size,0,none⟩=some (.slice ac m.claimants.length cc)∧V.cell? ⟨bm,6+i,none⟩=some (.int .i64 (ev:Int))∧w.heap.size<V.heap.size∧bm<V.heap.size)) (Zcu (Zao m) i) V):=LH (fun V h=>⟨hQ2.trans (h.mono (by have:=hQ2.size;simpa using this)),Zab h d0,Zab h hce,Nat.lt_of_lt_of_le hbz2 h.size,Nat.lt_of_lt_of_le hbm h.size⟩)
  have h16:=HB.out hv i
  have hT:=LH (HT.out hv i hi)
  clear hce hL hLW
  generalize Zcu (Zao m) i=ev at KE h16 hT
  refine wp_region_held_drew (S:=(fun V=>Below (w.heap.size+1) (w.alloc (.cells #[.slice ac m.claimants.length cc,.slice az m.sums.length cz,.slice aw m.words.length cw,.slice ap m.paid.length cp] 54)) V∧V.cell? ⟨w.heap.size,0,none⟩=some (.slice ac m.claimants.length cc)∧V.cell? ⟨bm,6+i,none⟩=some (.int .i64 (ev:Int))∧w.heap.size<V.heap.size∧bm<V.heap.size)) (by kernel_rfl) (KE.out _ (Zds w2)) (fun hHeld=>?_)
  (refine tkH 0 ?_;simp only[frT])
  (refine tkH 1 ?_;simp only[frT])
  (refine tkH 2 ?_;simp only[frT])
  (refine tkH 3 ?_;simp only[frT])
  (refine tkH 4 ?_;simp only[frT])
  (refine tkH 5 ?_;simp only[frT])
  (refine tkH 6 ?_;simp only[frT])
  (refine tkH 7 ?_;simp only[frT])
  (refine tkH 8 ?_;simp only[frT])
  (refine wpAnyH_ready (rs:=[9]) (by kernel_rfl) (by simp) ?_;refine AllReadyH.cons rfl (fun K hK=>?_) AllReadyH.nil;go_simp)
  go_wp2_with (go_at_call 62;go_must (refine(NU.out ev m.claimants.length (by omega) (by omega) _).mono ?_;rintro e w3 ⟨v3,rfl,hv3,hb3⟩;dsimp only))
  have hb4:=(Zds w2).trans (hb3.mono (by simp))
  refine hK.out _ _ (KE.out _ hb4) (fun hHeld=>?_)
  (try simp only[frT])
  clear hK
  (refine tkH 10 ?_;simp only[frT])
  (refine tkH 11 ?_;simp only[frT])
  refine wpAnyH_done (by kernel_rfl) ?_ _
  go_wp2
  go_ret2
  rw[HE.out]
  refine⟨_,rfl,?_,Zaf (hQ2.trans (hb4.mono (by have:=hQ2.size;simpa using this)))⟩
  dsimp only
  rw[Int.toNat_natCast,hT.out]
  exact hv3
 ·have g1:=Zcp he
  have HE:=LH (HE.out.trans (if_neg he))
  clear he
  go_enter Tryz.func16,Tryz.ntmps16
  go_wp2_with (go_at_call 60;go_must (refine C.out.mono ?_;rintro e w2 ⟨v2,rfl,h2,hb2⟩;have hQ2:=Zjg hQ1 hb2;dsimp only))
  go_ret2
  rw[HE.out]
  exact⟨_,rfl,⟨none,0,rfl,⟨by simp,by omega,fun _=>rfl⟩,Zaw.nil _ _⟩,Zaf hQ2⟩
end
section
open Go Go.RowKit
theorem Z7g (m:MoList) (sum:Int):Ze6 m sum=if Zd6 m sum=0 then (if 1<(whom m.claimants.length (Zao m) sum.toNat).length then (0,9) else ((whom m.claimants.length (Zao m) sum.toNat).headD 0,0)) else (0,Zd6 m sum):=rfl
theorem Znc (w:World) (q:Nat):Below w.heap.size w (w.drewN q).drew:=Zah (Zan (Below.refl _ _) q)
theorem Zqn (ac az aw ap:Option Addr) (cc cz cw cp:Nat) (m:MoList) (sum:Int) (w:World) (hm:ListC w ac az aw ap cc cz cw cp m):
  Calls Tryz.prog 15 #[(.agg #[.slice ac m.claimants.length cc,.slice az m.sums.length cz,.slice aw m.words.length cw,.slice ap m.paid.length cp]),.int .i64 sum] w fun e w'=>e=.returned (.tuple #[.int .i64 (Ze6 m sum).1,.int .i64 (Ze6 m sum).2])∧Below w.heap.size w w':=by
 have HE:=LH (Z7g m sum)
 have HV:=LH (fun h:Zd6 m sum=0=>Zrx h)
 have hQ:=Below.refl (w.heap.size+1) (w.alloc (.cells #[.slice ac m.claimants.length cc,.slice az m.sums.length cz,.slice aw m.words.length cw,.slice ap m.paid.length cp] 54))
 obtain⟨c0,c1,c2,c3⟩:=Zax hQ
 have hbz:=Zai hQ
 have l2:=hm.okz.len
 have hQ1:=hQ.alloc (by simp) (.cells #[.int .i64 sum] 3)
 have hI:Zaw ((w.alloc (.cells #[.slice ac m.claimants.length cc,.slice az m.sums.length cz,.slice aw m.words.length cw,.slice ap m.paid.length cp] 54)).alloc (.cells #[.int .i64 sum] 3)) (some ⟨w.heap.size+1,0,none⟩) [sum]:=by
  have:=Zqj (w.alloc (.cells #[.slice ac m.claimants.length cc,.slice az m.sums.length cz,.slice aw m.words.length cw,.slice ap m.paid.length cp] 54)) sum 3
  rwa [show(w.alloc (.cells #[.slice ac m.claimants.length cc,.slice az m.sums.length cz,.slice aw m.words.length cw,.slice ap m.paid.length cp] 54)).heap.size=w.heap.size+1 by simp] at this
 have C:=Zgo ac az aw ap cc cz cw cp m m.sums.length _ [sum] 1 _ (hm.mono (Zaf hQ1)) (by omega) (by omega) (by simp) hI
 rw[Z3a] at C
 have C:=LH C
 clear hI
 have HT:=LH (fun(h:Valid m) (i:Nat) (hi:i<m.sums.length)=>Zk8 m i hi)
 have HN:=LH (Zdz m)
 have HB:=LH (fun h:Valid m=>Zf0 m h.nc)
 have HS:=LH (fun(h:Valid m) (i:Nat) (hi:i<m.sums.length)=>Zo5 m h.nc i hi)
 have HP:=LH (fun(h:0<(Zao m).length) (i:Nat) (hi:i<m.sums.length)=>Z6h m h i hi)
 have SU:=LH (fun(bm bo c i:Nat) (E:List Int) (s:Nat) (hs:s<16) (hE:E[i]?=some (s:Int)) (h5:E.length=5) (W:World) (hL:LBlk W bm ac az aw ap cc cz cw cp m c bo E)=>Znh ac az aw ap cc cz cw cp m bm bo c i E s hs hE h5 W hL)
 have NU:=LH (fun(s n:Nat) (hs:s<64) (hn:n≤6) (W:World)=>Zlz s n hs hn W)
 generalize Ze6 m sum=r at HE ⊢
 generalize Zd6 m sum=er at C HE HV
 by_cases he:er=0
 ·have g1:=Zdf he
  obtain⟨hv,hpos,hs0,hs1⟩:=HV.out he
  obtain⟨i,rfl⟩:∃i:Nat,sum=i:=⟨sum.toNat,by omega⟩
  have hi:i<m.sums.length:=by omega
  have h5:=hv.nz
  have hi5i:(i:Int)<5:=by omega
  have HE:=LH (HE.out.trans (if_pos he))
  have HX:=LH he
  have h4:=hv.nc
  clear he
  have hE:(Zc9 m (Zao m))[i]?=some ((Zcu (Zao m) i:Nat):Int):=by unfold Zc9;rw[List.getElem?_map,List.getElem?_range (by omega)];simp[Ze2,hi]
  have hE:=LH hE
  have h16:=HB.out hv i
  have hT:=HT.out hv i hi
  have hS:=HS.out hv i hi
  have hP:=HP.out hpos i hi
  have hE5:=LH (Zla m (Zao m))
  have HE:=HE.out
  rw[Int.toNat_natCast] at HE
  rw[hT] at hS hP HE
  clear hT
  have NU:=fun(W:World)=>NU.out (Zcu (Zao m) i) m.claimants.length (by omega) (by omega) W
  generalize hEL:Zc9 m (Zao m)=EL at hE hE5
  have HEL:=LH hEL
  clear hEL
  generalize Zcu (Zao m) i=ev at h16 hS hP HE hE NU
  generalize Zas ev m.claimants.length=L at hS hP HE NU
  have NU:=LH NU
  have HE:=LH HE
  have SU:=fun(bm bo c:Nat) (W:World) (hL:LBlk W bm ac az aw ap cc cz cw cp m c bo EL)=>SU.out bm bo c i EL ev h16 hE.out hE5.out W hL
  generalize oneB ev=ob at hS SU
  have SU:=LH SU
  have hS:=LH hS
  have hPi:(0:Int)<L.length:=by omega
  cases ob
  ·have hS:=LH (show 1<L.length by simpa using hS.out)
   go_enter Tryz.func15,Tryz.ntmps15
   go_wp2_with (first
    |(go_at_call 61;go_must (refine(SU.out bm bo _ _ hL).mono ?_;rintro e w3 ⟨rfl,q,rfl⟩;dsimp only))
    |(go_at_call 60;go_must (refine C.out.mono ?_;rintro e w2 ⟨v2,rfl,h2,hb2⟩;obtain⟨bm,bo,rfl,hLW⟩:=h2 HX.out;have hL:=hLW.blk;rw[HN.out,HEL.out] at hL;have hQ2:=Zjg hQ1 hb2;have hce:=hL.cell6 i hE.out;have hbm:=hL.lt;obtain⟨d0,d1,d2,d3⟩:=Zax hQ2;have hbz2:=Zai hQ2;dsimp only)))
   go_ret2
   rw[HE.out,if_pos hS.out]
   exact⟨rfl,Zaf (Zan hQ2 q)⟩
  ·have hS:=LH (show ¬1<L.length by simpa using hS.out)
   go_enter Tryz.func15,Tryz.ntmps15
   go_wp2_with (first
    |(go_at_call 61;go_must (refine(SU.out bm bo _ _ hL).mono ?_;rintro e w3 ⟨rfl,q,rfl⟩;dsimp only))
    |(go_at_call 60;go_must (refine C.out.mono ?_;rintro e w2 ⟨v2,rfl,h2,hb2⟩;obtain⟨bm,bo,rfl,hLW⟩:=h2 HX.out;have hL:=hLW.blk;rw[HN.out,HEL.out] at hL;have hQ2:=Zjg hQ1 hb2;have hce:=hL.cell6 i hE.out;have hbm:=hL.lt;obtain⟨d0,d1,d2,d3⟩:=Zax hQ2;have hbz2:=Zai hQ2;dsimp only)))
   have KE:Hid (∀V,Below w2.heap.size w2 V→(fun V=>Below (w.heap.size+1) (w.alloc (.cells #[.slice ac m.claimants.length cc,.slice az m.sums.length cz,.slice aw m.words.length cw,.slice ap m.paid.length cp] 54)) V∧V.cell? ⟨w.heap.size,0,none⟩=some (.slice ac m.claimants.length cc)∧V.cell? ⟨bm,6+i,none⟩=some (.int .i64 (ev:Int))∧w.heap.size<V.heap.size∧bm<V.heap.size) V):=LH (fun V h=>⟨hQ2.trans (h.mono (by have:=hQ2.size;simpa using this)),Zab h d0,Zab h hce,Nat.lt_of_lt_of_le hbz2 h.size,Nat.lt_of_lt_of_le hbm h.size⟩)
   clear hce hL hLW
   refine wp_region_held_drew (S:=(fun V=>Below (w.heap.size+1) (w.alloc (.cells #[.slice ac m.claimants.length cc,.slice az m.sums.length cz,.slice aw m.words.length cw,.slice ap m.paid.length cp] 54)) V∧V.cell? ⟨w.heap.size,0,none⟩=some (.slice ac m.claimants.length cc)∧V.cell? ⟨bm,6+i,none⟩=some (.int .i64 (ev:Int))∧w.heap.size<V.heap.size∧bm<V.heap.size)) (by kernel_rfl) (KE.out _ (Znc w2 q)) (fun hHeld=>?_)
   (refine tkH 0 ?_;simp only[frT])
   (refine tkH 1 ?_;simp only[frT])
   (refine tkH 2 ?_;simp only[frT])
   (refine tkH 3 ?_;simp only[frT])
   (refine tkH 4 ?_;simp only[frT])
   (refine tkH 5 ?_;simp only[frT])
   (refine tkH 6 ?_;simp only[frT])
   (refine tkH 7 ?_;simp only[frT])
   (refine tkH 8 ?_;simp only[frT])
   (refine wpAnyH_ready (rs:=[9]) (by kernel_rfl) (by simp) ?_;refine AllReadyH.cons rfl (fun K hK=>?_) AllReadyH.nil;go_simp)
   go_wp2_with (go_at_call 62;go_must (refine(NU.out _).mono ?_;rintro e w3 ⟨v3,rfl,⟨a3,k3,rfl,ho3,hi3⟩,hb3⟩;obtain⟨b3,o3,rfl,hlt3,hc3⟩:=hi3 0 hP;rw[Nat.add_zero] at hc3;dsimp only))
   have hb4:=(Znc w2 q).trans (hb3.mono (by simp))
   refine hK.out _ _ (KE.out _ hb4) (fun hHeld=>?_)
   (try simp only[frT])
   clear hK
   (refine tkH 10 ?_;simp only[frT])
   (refine wpAnyH_ready (rs:=[11]) (by kernel_rfl) (by simp) ?_;refine AllReadyH.cons rfl (fun K hK=>?_) AllReadyH.nil;go_simp)
   refine hK.out _ _ (KE.out _ hb4) (fun hHeld=>?_)
   (try simp only[frT])
   clear hK
   (refine tkH 12 ?_;simp only[frT])
   (refine tkH 13 ?_;simp only[frT])
   refine wpAnyH_done (by kernel_rfl) ?_ _
   go_wp2
   go_ret2
   rw[HE.out,if_neg hS.out]
   refine⟨?_,Zaf (hQ2.trans (hb4.mono (by have:=hQ2.size;simpa using this)))⟩
   rw[show L.headD 0=L[0] from by cases L with|nil=>simp at hP|cons a l=>rfl]
   rfl
 ·have g1:=Zcp he
  have HE:=LH (HE.out.trans (if_neg he))
  clear he
  go_enter Tryz.func15,Tryz.ntmps15
  go_wp2_with (go_at_call 60;go_must (refine C.out.mono ?_;rintro e w2 ⟨v2,rfl,h2,hb2⟩;have hQ2:=Zjg hQ1 hb2;dsimp only))
  go_ret2
  rw[HE.out]
  exact⟨rfl,Zaf hQ2⟩
end
section
def Zom (pre:List (List Int)) (best:List Int):Prop:=pre≠[]→best∈pre∧∀y∈pre,y=best∨less best y=true
theorem Z1h (x:List Int):Zom [x] x:=fun _=>⟨by simp,fun y hy=>.inl (by simpa using hy)⟩
theorem Z0t {pre:List (List Int)} {best x:List Int} (h0:pre≠[]) (h:Zom pre best) (hl:x.length=best.length) (hne:x≠best) (hx:less x best=false):Zom (pre++[x]) best:=fun _=>by
 obtain⟨h1,h2⟩:=h h0
 refine⟨by simp[h1],fun y hy=>?_⟩
 rcases List.mem_append.1 hy with hy|hy
 ·exact h2 y hy
 ·simp at hy
  subst hy
  cases hb:less best y with
  |true=>exact .inr rfl
  |false=>exact absurd (Zim _ _ hl hx hb) hne
theorem Z3e {pre:List (List Int)} {best x:List Int} (h0:pre≠[]) (h:Zom pre best) (hx:less x best=true):Zom (pre++[x]) x:=fun _=>by
 obtain⟨h1,h2⟩:=h h0
 refine⟨by simp,fun y hy=>?_⟩
 rcases List.mem_append.1 hy with hy|hy
 ·rcases h2 y hy with rfl|h3
  ·exact .inr hx
  ·exact .inr (Zky _ _ _ hx h3)
 ·simp at hy
  exact .inl hy
theorem Zzo {T pre:List (List Int)} {best:List Int} (hs:T.Pairwise (fun a b=>less a b=true)) (hp:pre.Perm T) (hT:0<T.length) (h:Zom pre best):best=T.headD []:=by
 cases T with
 |nil=>simp at hT
 |cons a T=>
  have h0:pre≠[]:=by intro e;subst e;have:=hp.length_eq;simp at this
  obtain⟨h1,h2⟩:=h h0
  have hb:=hp.mem_iff.1 h1
  rcases List.mem_cons.1 hb with rfl|hb
  ·rfl
  ·have h3:=(List.pairwise_cons.1 hs).1 _ hb
   rcases h2 a (hp.mem_iff.2 (by simp)) with e|h4
   ·exact e.symm
   ·have:=Zlb _ _ h3
    rw[this] at h4
    cases h4
theorem Zwq:∀(a b c:List Int),a.length=b.length→less (a++c) (b++c)=less a b
 |[],[],c,_=>by simp[Ze4]
 |_::_,[],_,h=>by simp at h
 |[],_::_,_,h=>by simp at h
 |x::a,y::b,c,h=>by
  simp only[List.cons_append,less]
  rw[Zwq a b c (by simpa using h)]
end
section
open Go Go.RowKit
theorem Zwo (a b c d e:Int) (ha:okI a) (hb:okI b) (hc:okI c) (hd:okI d) (he:okI e):Tryz.prog.keyLits 153 183 (Value.agg #[.int .i64 a,.int .i64 b,.int .i64 c,.int .i64 d,.int .i64 e]).cells.toList=some [.int .i64 a,.int .i64 b,.int .i64 c,.int .i64 d,.int .i64 e]:=by
 have h1:Tryz.prog.underlying 183=some (.array 5 3):=Zjf.hu
 have h4:Tryz.prog.underlying 3=some (.int .i64):=by kernel_rfl
 have h5:Tryz.prog.cellsOf 3=1:=Zjf.one
 have h6:Tryz.prog.cellsOf 183=5:=Zjf.size
 unfold okI at ha hb hc hd he
 have e1:∀x:Int,(Lit.int .i64 x).wf=true→Tryz.prog.keyLits 152 3 [.int .i64 x]=some [.int .i64 x]:=fun x hx=>by
  show Tryz.prog.keyLits (151+1) _ _=_
  unfold Program.keyLits
  simp only[h4,hx,and_self,if_true]
 show Tryz.prog.keyLits (152+1) _ [.int .i64 a,.int .i64 b,.int .i64 c,.int .i64 d,.int .i64 e]=_
 unfold Program.keyLits
 simp only[h1,h5,h6,List.length_cons,List.length_nil,if_true]
 rw[show List.range 5=[0,1,2,3,4] from rfl]
 simp only[List.mapM_cons,List.mapM_nil,Nat.zero_mul,Nat.one_mul,Nat.mul_one,List.drop_zero,List.drop_succ_cons,List.take_succ_cons,List.take_zero,e1 a ha,e1 b hb,e1 c hc,e1 d hd,e1 e he]
 rfl
theorem Z9r (a b c d e a' b' c' d' e':Int) (ha:okI a) (hb:okI b) (hc:okI c) (hd:okI d) (he:okI e) (ha':okI a') (hb':okI b') (hc':okI c') (hd':okI d') (he':okI e')
  (hne:[a,b,c,d,e]≠[a',b',c',d',e']) (w:World):
  (Op.equalIn 10000 183 (.agg #[.int .i64 a,.int .i64 b,.int .i64 c,.int .i64 d,.int .i64 e]) (.agg #[.int .i64 a',.int .i64 b',.int .i64 c',.int .i64 d',.int .i64 e'])).run Tryz.prog w=.ok false w:=by
 obtain⟨r,hr,hi⟩:=run_equalIn_deep (P:=Tryz.prog) 9998 2 183 (by kernel_rfl) w 153 153 (.agg #[.int .i64 a,.int .i64 b,.int .i64 c,.int .i64 d,.int .i64 e]) (.agg #[.int .i64 a',.int .i64 b',.int .i64 c',.int .i64 d',.int .i64 e']) _ _ (by kernel_rfl) (by kernel_rfl) (Zwo a b c d e ha hb hc hd he) (Zwo a' b' c' d' e' ha' hb' hc' hd' he')
 cases r with
 |true=>
  have:=hi.1 rfl
  simp only[List.cons.injEq,Lit.int.injEq,true_and,and_true] at this
  obtain⟨rfl,rfl,rfl,rfl,rfl⟩:=this
  exact absurd rfl hne
 |false=>exact hr
end
end Go.Proofs.YtklconegomgjaaaGreat
