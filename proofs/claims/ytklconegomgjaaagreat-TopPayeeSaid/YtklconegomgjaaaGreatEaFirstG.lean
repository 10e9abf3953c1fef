/- What is proved here: sound strings are compared as their sounds are; the contract of before. No condition but the sounds' size. -/
import Derived.Test.YtklconegomgjaaaGreatPeNumG
import Derived.Test.YtklconegomgjaaaGreatMoFactsG
import Derived.DeepKeys
import Derived.BigQuiet
import Derived.Deep.DeepCutAuto
import Derived.Laws.ResultCell
import Derived.IntWalk
set_option linter.all false
set_option maxRecDepth 100000
set_option maxHeartbeats 16000000
namespace Go.Proofs.YtklconegomgjaaaGreat
section
open Go Go.RowKit Go.Shelf
theorem Zwe (n:Nat) (b c d e f:Int) (hb:0≤b∧b<64000) (hc:0≤c∧c<64000) (hd:0≤d∧d<64000) (he:0≤e∧e<64000) (hf:0≤f∧f<64000):Tryz.prog.keyLits (n+1+1) 93 [.int .i64 b,.int .i64 c,.int .i64 d,.int .i64 e,.int .i64 f]=some [.int .i64 b,.int .i64 c,.int .i64 d,.int .i64 e,.int .i64 f]:=by
 have h4:Tryz.prog.underlying 3=some (.int .i64):=by kernel_rfl
 have h5:Tryz.prog.cellsOf 3=1:=by kernel_rfl
 have h8:Tryz.prog.cellsOf 93=5:=by kernel_rfl
 have h9:Tryz.prog.underlying 93=some (.array 5 3):=by kernel_rfl
 have e1:∀(m:Nat) (x:Int),0≤x∧x<64000→Tryz.prog.keyLits (m+1) 3 [.int .i64 x]=some [.int .i64 x]:=fun m x hx=>by
  unfold Program.keyLits
  simp only[h4,Zid x hx.1 hx.2,and_self,if_true]
 unfold Program.keyLits
 rw[h9]
 simp only[h8,h5,List.length_cons,List.length_nil,Nat.zero_add,Nat.reduceAdd,if_true]
 rw[show List.range 5=[0,1,2,3,4] from rfl]
 simp only[List.mapM_cons,List.mapM_nil,Nat.zero_mul,Nat.one_mul,Nat.reduceMul,List.drop_zero,List.drop_succ_cons,List.take_succ_cons,List.take_zero,e1 n b hb,e1 n c hc,e1 n d hd,e1 n e he,e1 n f hf]
 rfl
theorem Z73 (b c d e f b' c' d' e' f':Int) (hb:0≤b∧b<64000) (hc:0≤c∧c<64000) (hd:0≤d∧d<64000) (he:0≤e∧e<64000) (hf:0≤f∧f<64000) (hb':0≤b'∧b'<64000) (hc':0≤c'∧c'<64000) (hd':0≤d'∧d'<64000) (he':0≤e'∧e'<64000) (hf':0≤f'∧f'<64000) (w:World):
  (Op.equalIn 10000 93 (.agg #[.int .i64 b,.int .i64 c,.int .i64 d,.int .i64 e,.int .i64 f]) (.agg #[.int .i64 b',.int .i64 c',.int .i64 d',.int .i64 e',.int .i64 f'])).run Tryz.prog w=.ok (decide (b=b'∧c=c'∧d=d'∧e=e'∧f=f')) w:=by
 obtain⟨r,hr,hi⟩:=run_equalIn_deep (P:=Tryz.prog) 9998 2 93 (by kernel_rfl) w 2 2 (.agg #[.int .i64 b,.int .i64 c,.int .i64 d,.int .i64 e,.int .i64 f]) (.agg #[.int .i64 b',.int .i64 c',.int .i64 d',.int .i64 e',.int .i64 f']) _ _ (by kernel_rfl) (by kernel_rfl) (Zwe 0 b c d e f hb hc hd he hf) (Zwe 0 b' c' d' e' f' hb' hc' hd' he' hf')
 have e:r=decide (b=b'∧c=c'∧d=d'∧e=e'∧f=f'):=by
  rw[Bool.eq_iff_iff,hi]
  simp only[List.cons.injEq,Lit.int.injEq,true_and,and_true,decide_eq_true_eq]
 rw[e] at hr
 exact hr
@[reducible] def hArr (h:List Int):List Int:=[hrd h 0,hrd h 1,hrd h 2,hrd h 3,hrd h 4]
theorem Z1d {g h:List Int} (hg:g.length≤5) (e:g.length=h.length):less (hArr g) (hArr h)=less g h:=by
 match g,h,hg,e with
 |[],[],_,_=>rfl
 |[a],[a'],_,_=>simp[less,hrd,hArr]
 |[a,b],[a',b'],_,_=>simp[less,hrd,hArr]
 |[a,b,c],[a',b',c'],_,_=>simp[less,hrd,hArr]
 |[a,b,c,d],[a',b',c',d'],_,_=>simp[less,hrd,hArr]
 |[a,b,c,d,e],[a',b',c',d',e'],_,_=>simp[less,hrd,hArr]
theorem Z5x {g h:List Int} (hg:g.length≤5) (e:g.length=h.length) (he:hrd g 0=hrd h 0∧hrd g 1=hrd h 1∧hrd g 2=hrd h 2∧hrd g 3=hrd h 3∧hrd g 4=hrd h 4):g=h:=by
 obtain⟨e1,e2,e3,e4,e5⟩:=he
 exact Znl hg (by omega) (by simp only[Zb8,e,e1,e2,e3,e4,e5])
theorem Zrh {W:World} {p:Nat} {h:List Int} {t:TypeId} (hp:W.heap[p]?=some (.cells (Zar h) t (0,0))):Zaw W (some ⟨p,1,none⟩) (hArr h):=fun i hi=>by
 have hi5:i<5:=by simpa using hi
 have hc:(Zar h)[1+i]?=some (.int .i64 (hArr h)[i]):=by
  obtain rfl|rfl|rfl|rfl|rfl:i=0∨i=1∨i=2∨i=3∨i=4:=by omega
  all_goals rfl
 exact⟨p,1,rfl,lt_of_block hp,Zaa (1+i) hp hc⟩
theorem Zvd {g h:List Int} {S:Nat} (hS:S≤4) (hg:Zhx S g) (hh:Zhx S h) (w:World):
  Calls Tryz.prog 86 #[Zb8 g,Zb8 h] w fun e w'=>e=.returned (.bool (Zbo g h))∧Below w.heap.size w w':=by
 have AE:=LH (fun W=>Z73 _ _ _ _ _ _ _ _ _ _ (Ze8 hS hg 0) (Ze8 hS hg 1) (Ze8 hS hg 2) (Ze8 hS hg 3) (Ze8 hS hg 4) (Ze8 hS hh 0) (Ze8 hS hh 1) (Ze8 hS hh 2) (Ze8 hS hh 3) (Ze8 hS hh 4) W)
 have hg5:=hg.1
 have hh5:=hh.1
 have hF:Hid (Zbo g h=if g.length=h.length then less g h else decide (g.length<h.length)):=LH rfl
 obtain⟨r,hr⟩:∃r,r=Zbo g h:=⟨_,rfl⟩
 rw[←hr] at hF ⊢
 clear hr
 have hW:Hid (∀W:World,Below (w.heap.size+1+1) ((w.alloc (.cells (Zar g) 95)).alloc (.cells (Zar h) 95)) W→Below w.heap.size w W):=LH (fun W hb=>(((Below.refl _ w).alloc (Nat.le_refl _) _).alloc (by simp) _).trans (hb.mono (by omega)))
 by_cases hD:hrd g 0=hrd h 0∧hrd g 1=hrd h 1∧hrd g 2=hrd h 2∧hrd g 3=hrd h 3∧hrd g 4=hrd h 4
 ·have AT:=AE.out
  simp only[decide_eq_true hD] at AT
  have hr:Hid (r=decide ((g.length:Int)<(h.length:Int))):=LH (by
   rw[hF.out]
   by_cases hl:g.length=h.length
   ·have:=Z5x hg5 hl hD
    subst this
    rw[if_pos rfl,Ze4]
    simp
   ·rw[if_neg hl]
    exact decide_eq_decide.2 (by omega))
  clear hD hF AE
  go_enter Tryz.func86,Tryz.ntmps86
  go_wp2
  go_ret
  exact⟨Zaq (by rw[hr.out];first|rfl|simp|(rw[decide_eq_decide];omega)),hW.out _ (Below.refl _ _)⟩
 ·have AT:=AE.out
  simp only[decide_eq_false hD] at AT
  clear hD AE
  by_cases hl:g.length=h.length
  ·have hne:((g.length:Int) != (h.length:Int))=false:=Z98 hl
   have hr:Hid (r=less (hArr g) (hArr h)):=LH (by rw[hF.out,if_pos hl,Z1d hg5 hl])
   clear hl hF
   go_enter Tryz.func86,Tryz.ntmps86
   go_upto_region 3 with(fail)
   obtain⟨X,hX⟩:∃X:World,X=(w.alloc (.cells (Zar g) 95)).alloc (.cells (Zar h) 95):=⟨_,rfl⟩
   rw[←hX]
   have h1:X.heap[w.heap.size]?=some (.cells (Zar g) 95 (0,0)):=by rw[hX];exact(heap_alloc_old _ _ (by simp)).trans (Zac _ _ rfl)
   have h2:X.heap[w.heap.size+1]?=some (.cells (Zar h) 95 (0,0)):=by rw[hX];exact Zac _ _ (by simp)
   have hbX:Below w.heap.size w X:=by rw[hX];exact((Below.refl _ w).alloc (Nat.le_refl _) _).alloc (by simp) _
   clear hX AT
   have z1:=lt_of_block h1
   have z2:=lt_of_block h2
   have KC:=LH (fun(V:World) (hb:Below X.heap.size X V)=>Z1c (some ⟨w.heap.size,1,none⟩) (some ⟨w.heap.size+1,1,none⟩) (hArr g) (hArr h) 5 5 V rfl (by simp) (Zrh ((hb.block _ z1).trans h1)) (Zrh ((hb.block _ z2).trans h2)))
   have hg0:Below X.heap.size X X.drew:=Zah (Below.refl _ _)
   go_region_held3 (fun V=>Below X.heap.size X V) (first|exact hg0|exact hg1) (first
    |(go_at_call 71;refine(KC.out _ hg0).mono ?_;rintro e w2 ⟨q,rfl,hq,rfl⟩;have hg1:=hg0;dsimp only))
   go_wp2
   go_ret
   exact⟨Zaq (by rw[hr.out,←hq.out]),hbX.trans (hg0.mono hbX.size)⟩
  ·have hne:((g.length:Int) != (h.length:Int))=true:=Qaa hl
   have hr:Hid (r=decide ((g.length:Int)<(h.length:Int))):=LH (by
    rw[hF.out,if_neg hl]
    exact decide_eq_decide.2 (by omega))
   clear hl hF
   go_enter Tryz.func86,Tryz.ntmps86
   go_wp2
   go_ret
   exact⟨Zaq (by rw[hr.out];first|rfl|simp|(rw[decide_eq_decide];omega)),hW.out _ (Below.refl _ _)⟩
end
section
open Go Go.RowKit Go.Shelf
theorem Zj6 {P:Program} {w:World} {ops:Array Oper} {rest:List Oper} {o:Oper} {a:Act} {Q:Exit→Act→World→Prop} (hg:o.guard=none) (it:Operand) (hop:o.op=Op.entry it) (v:Value) (r:Nat)
  (hit:a.eval it=.pointer (some ⟨r,0,none⟩)) (hrun:(Instr.entry (.pointer (some ⟨r,0,none⟩))).run P w=.ok v w)
  (hK:wpList P ops Q rest (a.put o.dst v) w):wpList P ops Q (o::rest) a w:=by
 refine wpList_plain hg fun K' hK'=>?_
 unfold Oper.wp
 simp only[execOp,hop,hit,hrun,Result.andThen,Sem.run_bind,Sem.run_pure]
 exact hK' _ _ hK
def Zfq (W:World) (b:Nat) (x:List Int):World:=(((((W.setCell ⟨b,0,none⟩ (.int .i64 (x.length:Int))).setCell ⟨b,1,none⟩ (.int .i64 (hrd x 0))).setCell ⟨b,2,none⟩ (.int .i64 (hrd x 1))).setCell ⟨b,3,none⟩ (.int .i64 (hrd x 2))).setCell ⟨b,4,none⟩ (.int .i64 (hrd x 3))).setCell ⟨b,5,none⟩ (.int .i64 (hrd x 4))
theorem Zl6 {W:World} {b:Nat} {x y:List Int} {t:TypeId} (h:W.heap[b]?=some (.cells (Zar y) t (0,0))):(Zfq W b x).heap[b]?=some (.cells (Zar x) t (0,0)):=
 Zak 5 _ (Zak 4 _ (Zak 3 _ (Zak 2 _ (Zak 1 _ (Zak 0 _ h)))))
theorem Zi1 {B b:Nat} {w W:World} {x:List Int} (h:Below B w W) (hb:B≤b):Below B w (Zfq W b x):=(((((h.setCell hb _).setCell hb _).setCell hb _).setCell hb _).setCell hb _).setCell hb _
theorem Zi0 {W:World} {b k:Nat} {x:List Int} (h:k≠b):(Zfq W b x).heap[k]?=W.heap[k]?:=by
 unfold Zfq
 have e:∀(W:World) (j:Nat) (v:Value),(W.setCell ⟨b,j,none⟩ v).heap[k]?=W.heap[k]?:=fun W j v=>by
  show(W.heap.modify b _)[k]?=_
  rw[Array.getElem?_modify,if_neg (Ne.symm h)]
 rw[e,e,e,e,e,e]
theorem Z4v:∀a:Nat,a<32→∀s:Nat,s<32→(bits BinOp.and IntKind.i64 (a:Int) (s:Int) != (s:Int))=!(a &&& s==s):=by decide +kernel
def Zmx (L:List (List Int)) (best:List Int):Prop:=(L=[]∧best=[])∨(best∈L∧∀y∈L,Zbo y best=false)
theorem Z0g:Zmx [] []:=.inl ⟨rfl,rfl⟩
theorem Zur {L:List (List Int)} {best x:List Int} (h:Zmx L best):Zmx (L++[x]) (if (L.length==0||Zbo x best)=true then x else best):=by
 rcases h with⟨rfl,rfl⟩|⟨h1,h2⟩
 ·simp only[List.length_nil,beq_self_eq_true,Bool.true_or,if_true,List.nil_append]
  exact .inr ⟨by simp,fun y hy=>by rw[List.mem_singleton.1 hy];exact Zh6 x⟩
 ·have hl:(L.length==0)=false:=by
   have:=List.length_pos_of_mem h1
   exact beq_false_of_ne (by omega)
  rw[hl,Bool.false_or]
  by_cases hf:Zbo x best=true
  ·rw[if_pos hf]
   refine .inr ⟨by simp,fun y hy=>?_⟩
   rcases List.mem_append.1 hy with hy|hy
   ·cases h3:Zbo y x
    ·rfl
    ·have:=Zn0 h3 hf
     rw[h2 y hy] at this
     cases this
   ·rw[List.mem_singleton.1 hy];exact Zh6 x
  ·rw[if_neg hf]
   refine .inr ⟨by simp[h1],fun y hy=>?_⟩
   rcases List.mem_append.1 hy with hy|hy
   ·exact h2 y hy
   ·rw[List.mem_singleton.1 hy];simpa using hf
theorem Zyb {b:EaB} {set:Nat} {L:List (List Int)} {best:List Int} (hn:L.Nodup) (hL:∀h,h∈L↔h∈comN b set) (h:Zmx L best):best=(comN b set).headD []∧L.length=(comN b set).length:=by
 refine⟨?_,Z6m hn (Zt1 (Zns b set)) hL⟩
 rcases h with⟨rfl,rfl⟩|⟨h1,h2⟩
 ·cases hc:comN b set with
  |nil=>rfl
  |cons x l=>exact absurd ((hL x).2 (by rw[hc];simp)) (by simp)
 ·exact(Zwb (Zns b set) hL h1 h2).symm
theorem Zuu {p:List Int→Bool} (pre:List (List Int)) (x:List Int):(pre++[x]).filter p=pre.filter p++if p x=true then [x] else []:=by
 rw[List.filter_append]
 congr 1
 cases h:p x<;>simp[h]
theorem Zs5 (a1 a2:Option Addr) (k1 k2:Nat) (b:EaB) (bm bo set:Nat) (w:World) (hm:BookW w bm bo a1 a2 k1 k2 b) (hv:EaValid b) (hs:set<2^b.spells.length) (h0:set≠0):
  Calls Tryz.prog 38 #[.pointer (some ⟨bm,0,none⟩),.int .i64 (set:Int)] w fun e w'=>e=.returned (.tuple #[Zb8 ((comN b set).headD []),.int .i64 ((comN b set).length:Int)])∧Below w.heap.size w w':=by
 obtain⟨y0,y1,y2,y3,yz⟩:=hm.blk.cells
 obtain⟨T,hM,E,hT,hn,hE⟩:=hm.map
 have hset:set<32:=Nat.lt_of_lt_of_le hs (Nat.pow_le_pow_right (n:=2) (by omega) hv.ns)
 have HCO:=LH (fun h=>Z9x hv hE hs h0 h)
 have HEO:=LH (show ∀h∈E,Zhx b.sounds.toNat h from fun h hh=>by obtain⟨i,h1,h2⟩:=(hE h).1 hh;exact Zhs hv h1 h2)
 have HOF:=LH (fun h=>Z9e hv h)
 have hS4:b.sounds.toNat≤4:=by have:=hv.sounds;omega
 have HEN:Hid (E.length≤2000):=LH (by
  have h1:=Zdg E (Zkh b.sounds.toNat) hn (fun g hg=>by rw[Zl4];exact HEO.out g hg)
  have h2:∀S:Fin 5,(Zkh S.1).length≤2000:=by decide +kernel
  have:=h2 ⟨b.sounds.toNat,by omega⟩
  simp only at this
  omega)
 have hbo:=hM.lt
 have HND:=LH hn
 have HE1:=LH (fun L best (h1:L.Nodup) h2 h3=>Zyb (b:=b) (set:=set) (L:=L) (best:=best) h1 h2 h3)
 generalize (comN b set).headD []=rb at HE1 ⊢
 generalize (comN b set).length=rn at HE1 ⊢
 have HTT:=LH hT
 clear hm hv hE hs h0 hn hT y0 y1 y2
 go_enter Tryz.func38,Tryz.ntmps38
 go_wp2_with (at_range;refine Zei rfl (.tmp 11) _ rfl _ _ Zh9 bo _ rfl (hM.same (Below.heap_alloc _ _ _ hM.lt)) ?_;intro o' hrg;go_frame)
 obtain⟨Z,hZ⟩:∃Z:World,Z=w.alloc (.cells #[.int .i64 0,.int .i64 0,.int .i64 0,.int .i64 0,.int .i64 0,.int .i64 0] 95):=⟨_,rfl⟩
 rw[←hZ] at hrg ⊢
 have hz1:Z.heap.size=w.heap.size+1:=by rw[hZ];simp
 have hbZ:Below w.heap.size w Z:=by rw[hZ];exact(Below.refl _ _).alloc (Nat.le_refl _) _
 have hcZ:Z.heap[w.heap.size]?=some (.cells (Zar []) 95 (0,0)):=by rw[hZ];exact Zac _ _ rfl
 clear hZ
 rw[hz1] at hrg ⊢
 obtain⟨Y,hY⟩:∃Y:World,Y=Z.alloc o':=⟨_,rfl⟩
 rw[←hY] at hrg ⊢
 have hbY:Below w.heap.size w Y:=by rw[hY];exact hbZ.alloc hbZ.size _
 have hcY:Y.heap[w.heap.size]?=some (.cells (Zar []) 95 (0,0)):=by rw[hY];exact(heap_alloc_old _ _ (by omega)).trans hcZ
 have hyY:w.heap.size+1<Y.heap.size:=by rw[hY];simp;omega
 clear hY hcZ hbZ hz1 y3 yz hM
 have HTT2:=HTT.out
 go_loopw [5] (fun n wr=>∃(pre rem:List (List Int)) (best:List Int),n=.int .i64 ((pre.filter fun h=>ofN b h &&& set==set).length:Nat)∧(pre++rem).Perm E∧Zmx (pre.filter fun h=>ofN b h &&& set==set) best∧Zhx b.sounds.toNat best∧RngV wr Tryz.prog 95 bo (w.heap.size+1) T (rem.map fun h=>(Zb8 h,Value.int .i64 (ofN b h:Int)))∧wr.heap[w.heap.size]?=some (.cells (Zar best) 95 (0,0))∧Below w.heap.size w wr) (fun _ wr=>wr.rangeLeft bo (w.heap.size+1))
 case atStart=>exact⟨[],E,[],rfl,by simp,Z0g,⟨by simp,by simp⟩,by rw[HTT2] at hrg ⊢;exact hrg,hcY,hbY⟩
 case round=>
  clear hrg hbY hcY hyY HTT2
  obtain⟨pre,rem,best,rfl,hperm,hleast,hbok,hrg,hc,hb⟩:=hrel
  have hlen:=hperm.length_eq
  rw[List.length_append] at hlen
  have hfl:(pre.filter fun h=>ofN b h &&& set==set).length≤pre.length:=List.length_filter_le _ _
  have hpn:(((pre.filter fun h=>ofN b h &&& set==set).length:Nat):Int)+1≤2001:=by have:=HEN.out;omega
  have hzr:=hb.size
  have hbz:=lt_of_block hc
  go_wp2_with (at_next;refine Zex rfl (.tmp 12) rfl _ (fun h=>Zb8 h) (fun h=>Value.int .i64 (ofN b h:Int)) bo (w.heap.size+1) _ rem rfl hrg ?_ ?_)
  ·intro h0
   subst h0
   rw[List.append_nil] at hperm
   obtain⟨r1,r2⟩:=HE1.out _ best ((hperm.nodup_iff.2 HND.out).filter _) (fun h=>by
    rw[←HCO.out h,List.mem_filter,List.mem_filter,hperm.mem_iff]) hleast
   have HR1:=LH r1
   have HR2:=LH r2
   have c0:=Zaa 0 hc rfl
   have c1:=Zaa 1 hc rfl
   have c2:=Zaa 2 hc rfl
   have c3:=Zaa 3 hc rfl
   have c4:=Zaa 4 hc rfl
   have c5:=Zaa 5 hc rfl
   have f0:=Zad 0 hc
   have f1:=Zad 1 hc
   have f2:=Zad 2 hc
   have f3:=Zad 3 hc
   have f4:=Zad 4 hc
   have f5:=Zad 5 hc
   simp only[Zar,List.getElem_toArray,List.getElem_cons_zero,List.getElem_cons_succ] at c0 c1 c2 c3 c4 c5
   clear r1 r2 hperm hleast hrg hlen hfl
   go_wp2
   obtain⟨Qw,hQw⟩:∃Qw:World,Qw=Zfq wr w.heap.size best:=⟨_,rfl⟩
   have hsQ:=Zl6 (x:=best) hc
   have hbQ:=Zi1 (x:=best) hb (Nat.le_refl _)
   rw[←hQw] at hsQ hbQ
   unfold Zfq at hQw
   rw[←hQw]
   clear hQw c0 c1 c2 c3 c4 c5 f0 f1 f2 f3 f4 f5
   have c0:=Zaa 0 hsQ rfl
   have c1:=Zaa 1 hsQ rfl
   have c2:=Zaa 2 hsQ rfl
   have c3:=Zaa 3 hsQ rfl
   have c4:=Zaa 4 hsQ rfl
   have c5:=Zaa 5 hsQ rfl
   simp only[Zar,List.getElem_toArray,List.getElem_cons_zero,List.getElem_cons_succ] at c0 c1 c2 c3 c4 c5
   refine bodyPost_ret (v:=.tuple #[Zb8 best,.int .i64 ((pre.filter fun h=>ofN b h &&& set==set).length:Nat)]) ?_ rfl ⟨by rw[HR1.out,HR2.out],hbQ⟩
   rw[results_cell_tmp rfl]
   go_simp
  ·intro x rem' w3 hp hrg3 hg3 hs3 hen
   have hperm3:=(List.Perm.append_left pre hp).symm.trans hperm
   have hxE:x∈E:=hperm3.mem_iff.1 (by simp)
   have hxo:=HEO.out x hxE
   have hml:=hrg.left_eq
   rw[List.length_map] at hml
   have hlr:rem.length=rem'.length+1:=by simpa using hp.length_eq
   have hP4:((pre++[x])++rem').Perm E:=by simpa using hperm3
   have hc3:w3.heap[w.heap.size]?=some (.cells (Zar best) 95 (0,0)):=(hg3.block _ hbz (fun e=>by have:=Option.some.inj e;omega)).trans hc
   have hb3:Below w.heap.size w w3:=hb.grown hg3 hzr (fun k e=>by have:=Option.some.inj e;omega)
   have hAN:=Z4v (ofN b x) (HOF.out x) set hset
   have hfs:=Zuu (p:=fun h=>ofN b h &&& set==set) pre x
   (try simp only at hfs)
   have hlm:=Zur (x:=x) hleast
   generalize (ofN b x &&& set==set)=px at hAN hfs
   generalize ofN b x=ox at hAN hen
   generalize (pre.filter fun h=>ofN b h &&& set==set)=L at hfs hlm hpn hleast
   have HP4:=LH hP4
   have HFS:=LH hfs
   have HLM:=LH hlm
   have HLE:=LH hleast
   have HML:=LH hml
   have HLR:=LH hlr
   have HR3:=LH hrg3
   have HC3:=LH hc3
   have HB3:=LH hb3
   have HG3:=LH hg3
   have hz3:=hb3.size
   have hr3:=hrg3.lt
   have hm3:=hrg3.map.lt
   clear hp hrg3 hperm3 hxE hml hlr hP4 hc3 hb3 hfs hlm hleast hperm hrg hc hb hg3 hlen hfl
   obtain⟨W7,hW7⟩:∃W7:World,W7=w3.alloc (.cells (Zar x) 95):=⟨_,rfl⟩
   have hb7:Below w3.heap.size w3 W7:=by rw[hW7];exact(Below.refl _ _).alloc (Nat.le_refl _) _
   have hx7:W7.heap[wr.heap.size]?=some (.cells (Zar x) 95 (0,0)):=by rw[hW7];exact Zac _ _ hs3.symm
   have HW7:=LH hW7
   have hrl7:∀V:World,Below w3.heap.size w3 V∨True→V.heap[bo]?=w3.heap[bo]?→V.heap[w.heap.size+1]?=w3.heap[w.heap.size+1]?→RngV V Tryz.prog 95 bo (w.heap.size+1) T (rem'.map fun h=>(Zb8 h,Value.int .i64 (ofN b h:Int))):=fun V _ e1 e2=>HR3.out.same e1 e2
   replace hrl7:=LH hrl7
   clear hW7
   cases px
   ·simp only[Bool.not_false] at hAN
    have HF0:Hid ((pre++[x]).filter (fun h=>ofN b h &&& set==set)=L):=LH (by rw[HFS.out];simp)
    go_wp2_with (first|(refine Zj6 rfl (.tmp 12) rfl _ (w.heap.size+1) rfl hen ?_;go_frame))
    rw[show(w3.alloc (.cells #[.int .i64 (x.length:Int),.int .i64 (hrd x 0),.int .i64 (hrd x 1),.int .i64 (hrd x 2),.int .i64 (hrd x 3),.int .i64 (hrd x 4)] 95))=W7 from HW7.out.symm]
    go_roundw
    case rel=>exact⟨pre++[x],rem',best,by rw[HF0.out],HP4.out,by rw[HF0.out];exact HLE.out,hbok,hrl7.out _ (.inr trivial) (hb7.block _ hm3) (hb7.block _ hr3),(hb7.block _ (by omega)).trans HC3.out,HB3.out.trans (hb7.mono hz3)⟩
    case measure=>
     rw[(hrl7.out _ (.inr trivial) (hb7.block _ hm3) (hb7.block _ hr3)).left_eq,HML.out,HLR.out,List.length_map]
     omega
   ·have hAN2:=hAN.trans (show(!true)=false from rfl)
    clear hAN
    have HF1:Hid ((pre++[x]).filter (fun h=>ofN b h &&& set==set)=L++[x]):=LH (by rw[HFS.out];simp)
    have hw1:IntKind.i64.wrap ((L.length:Int)+1)=(L.length:Int)+1:=IntWalk.i64_in _ (by omega)
    have hx7z:=lt_of_block hx7
    have hc7:=(hb7.block _ (by omega)).trans HC3.out
    have hc7z:=lt_of_block hc7
    have c0:=Zaa 0 hc7 rfl
    have c1:=Zaa 1 hc7 rfl
    have c2:=Zaa 2 hc7 rfl
    have c3:=Zaa 3 hc7 rfl
    have c4:=Zaa 4 hc7 rfl
    have c5:=Zaa 5 hc7 rfl
    have d0:=Zaa 0 hx7 rfl
    have d1:=Zaa 1 hx7 rfl
    have d2:=Zaa 2 hx7 rfl
    have d3:=Zaa 3 hx7 rfl
    have d4:=Zaa 4 hx7 rfl
    have d5:=Zaa 5 hx7 rfl
    simp only[Zar,List.getElem_toArray,List.getElem_cons_zero,List.getElem_cons_succ] at c0 c1 c2 c3 c4 c5 d0 d1 d2 d3 d4 d5
    have BF:=LH (Zvd hS4 hxo hbok W7)
    have HX7:=LH hx7
    have HC7:=LH hc7
    have HB7:=LH hb7
    have hz7:=hb7.size
    clear hx7 hc7 hb7
    go_upto_region 6 with(first|(refine Zj6 rfl (.tmp 12) rfl _ (w.heap.size+1) rfl hen ?_;go_frame))
    rw[show(w3.alloc (.cells #[.int .i64 (x.length:Int),.int .i64 (hrd x 0),.int .i64 (hrd x 1),.int .i64 (hrd x 2),.int .i64 (hrd x 3),.int .i64 (hrd x 4)] 95))=W7 from HW7.out.symm]
    go_cut [31] from 25 to 31 (fun v U=>v=.bool (L.length==0||Zbo x best)∧Below W7.heap.size W7 U)
    case first=>
     by_cases hl0:L.length=0
     ·have g1:((L.length:Int)+1==1)=true:=Zdv (by omega)
      have e0:Hid ((L.length==0||Zbo x best)=true):=LH (by rw[hl0];rfl)
      clear hl0
      go_wp2
      go_meet
      case rel=>exact⟨by rw[e0.out],Below.refl _ _⟩
     ·have g1:((L.length:Int)+1==1)=false:=Zc4 (by omega)
      have e0:Hid ((L.length==0||Zbo x best)=Zbo x best):=LH (by rw[beq_false_of_ne hl0];rfl)
      clear hl0
      go_wp2_with (go_at_call 86;go_must ((with_reducible refine BF.out.mono ?_);rintro e w4 ⟨rfl,hb4⟩;dsimp only))
      go_meet
      case rel=>exact⟨by rw[e0.out],hb4⟩
    case rest=>
     obtain⟨rfl,hbU⟩:=hcut
     rename World=>U
     have hzU:=hbU.size
     have hcU:=(hbU.block _ hc7z).trans HC7.out
     have hxU:=(hbU.block _ hx7z).trans HX7.out
     have hwU:Below w3.heap.size w3 U:=HB7.out.trans (hbU.mono hz7)
     have HWU:=LH hwU
     have HCU:=LH hcU
     clear c0 c1 c2 c3 c4 c5 d0 d1 d2 d3 d4 d5
     generalize (L.length==0||Zbo x best)=cd at HLM
     cases cd
     ·have HL2:=LH (show Zmx (L++[x]) best from HLM.out)
      clear hxU hcU hwU
      go_wp2
      go_roundw
      case rel=>exact⟨pre++[x],rem',best,by rw[HF1.out];simp,HP4.out,by rw[HF1.out];exact HL2.out,hbok,hrl7.out _ (.inr trivial) (HWU.out.block _ hm3) (HWU.out.block _ hr3),HCU.out,HB3.out.trans (HWU.out.mono hz3)⟩
      case measure=>
       rw[(hrl7.out _ (.inr trivial) (HWU.out.block _ hm3) (HWU.out.block _ hr3)).left_eq,HML.out,HLR.out,List.length_map]
       omega
     ·have HL2:=LH (show Zmx (L++[x]) x from HLM.out)
      have d0:=Zaa 0 hxU rfl
      have d1:=Zaa 1 hxU rfl
      have d2:=Zaa 2 hxU rfl
      have d3:=Zaa 3 hxU rfl
      have d4:=Zaa 4 hxU rfl
      have d5:=Zaa 5 hxU rfl
      have c0:=Zaa 0 hcU rfl
      have c1:=Zaa 1 hcU rfl
      have c2:=Zaa 2 hcU rfl
      have c3:=Zaa 3 hcU rfl
      have c4:=Zaa 4 hcU rfl
      have c5:=Zaa 5 hcU rfl
      have f0:=Zad 0 hcU
      have f1:=Zad 1 hcU
      have f2:=Zad 2 hcU
      have f3:=Zad 3 hcU
      have f4:=Zad 4 hcU
      have f5:=Zad 5 hcU
      have dz:=lt_of_block hxU
      have cz:=lt_of_block hcU
      simp only[Zar,List.getElem_toArray,List.getElem_cons_zero,List.getElem_cons_succ] at c0 c1 c2 c3 c4 c5 d0 d1 d2 d3 d4 d5
      clear hxU hcU hwU
      go_wp2
      obtain⟨Qw,hQw⟩:∃Qw:World,Qw=Zfq U w.heap.size x:=⟨_,rfl⟩
      have hsQ:=Zl6 (x:=x) HCU.out
      have hbQ:Below w.heap.size w Qw:=by rw[hQw];exact Zi1 (HB3.out.trans (HWU.out.mono hz3)) (Nat.le_refl _)
      have ho1:Qw.heap[bo]?=w3.heap[bo]?:=by rw[hQw,Zi0 (by omega)];exact HWU.out.block _ hm3
      have ho2:Qw.heap[w.heap.size+1]?=w3.heap[w.heap.size+1]?:=by rw[hQw,Zi0 (by omega)];exact HWU.out.block _ hr3
      rw[←hQw] at hsQ
      unfold Zfq at hQw
      rw[←hQw]
      clear hQw c0 c1 c2 c3 c4 c5 d0 d1 d2 d3 d4 d5 f0 f1 f2 f3 f4 f5
      go_roundw
      case rel=>exact⟨pre++[x],rem',x,by rw[HF1.out];simp,HP4.out,by rw[HF1.out];exact HL2.out,hxo,hrl7.out _ (.inr trivial) ho1 ho2,hsQ,hbQ⟩
      case measure=>
       rw[(hrl7.out _ (.inr trivial) ho1 ho2).left_eq,HML.out,HLR.out,List.length_map]
       omega
end
end Go.Proofs.YtklconegomgjaaaGreat
