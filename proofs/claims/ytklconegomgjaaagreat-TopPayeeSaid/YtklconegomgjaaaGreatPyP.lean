/- What is proved here: the memory of TopPayee's loops: two lists of sums that grow, side by side. No condition. -/
import Derived.Test.YtklconegomgjaaaGreatErAG
import Derived.Test.YtklconegomgjaaaGreatFlatG
import Derived.Test.YtklconegomgjaaaGreatInfoG
set_option linter.all false
set_option maxRecDepth 100000
set_option maxHeartbeats 16000000
namespace Go.Proofs.YtklconegomgjaaaGreat
open Go Go.RowKit Go.Shelf
theorem Z5h {P:Program} {w:World} {t e ty:TypeId} {z:Value} {size bytes:Nat} (hE:ElemInfo P t e z size bytes) {v y:Value} (base n m:Nat) (xs news:List Value) (hown:w.ownsRow base e size v n xs) (hsrc:Za2 w y m size news)
  (h63:n+m≤9223372036854775807) (hbb:(n+m)*bytes≤140737488355328) (hbase:base≤w.heap.size):
  ∃v' w',(Builtin.append_ #[t,t] ty #[v,y]).run P w=.ok v' w'∧w'.ownsRow base e size v' (n+m) (xs++news)∧w.grownBy w' v.ownBlock∧(v'.ownBlock=v.ownBlock∨v'.ownBlock=some w.heap.size):=by
 obtain⟨i,hi,hz,hsz,hby⟩:=info_parts hE.info
 obtain⟨h1,h2,h3⟩:=hsrc
 rcases h3 with⟨rfl,rfl⟩|⟨ad,c,rfl,hc⟩
 ·have hn:news=[]:=List.eq_nil_of_length_eq_zero (by simpa using h1)
  subst hn
  have hrun:=run_append_owned_none (P:=P) (w:=w) base t ty e i size hE.und hi v n xs hown
  exact⟨v,w,hrun,by simpa using hown,⟨rfl,rfl,rfl,Nat.le_refl _,fun _ _ _=>rfl⟩,.inl rfl⟩
 ·have hm:maxLen=9223372036854775807:=rfl
  obtain⟨v',w',hr,k2,k3,_,k5⟩:=run_append_own_at (P:=P) w base t ty e i z size bytes hE.und hi hz hsz hby hE.zsz hE.pos v n xs hown ad m c news h1 hc h2 (by omega) (by omega) hbase
  exact⟨v',w',hr,k2,k3,k5⟩
theorem Zcs {P:Program} {w:World} {ops:Array Oper} {o:Oper} {a:Act} {K:Act→World→Prop} {Q:Exit→Act→World→Prop} {E:Prop} (s x:Operand) {t e:TypeId} {z:Value} {size bytes:Nat}
  (hE:ElemInfo P t e z size bytes) (hgd:o.guard=none) (ho:o.op=.call {callee:=.builtin .append,args:=#[s,x],argTypes:=#[t,t]})
  {v y:Value} (hs:a.eval s=v) (hx:a.eval x=y)
  (base n m:Nat) (xs news:List Value) (hown:w.ownsRow base e size v n xs) (hsrc:Za2 w y m size news)
  (h63:n+m≤9223372036854775807) (hbb:(n+m)*bytes≤140737488355328) (hbase:base≤w.heap.size)
  (h:∀v' w',w'.ownsRow base e size v' (n+m) (xs++news)→w.grownBy w' v.ownBlock→(v'.ownBlock=v.ownBlock∨v'.ownBlock=some w.heap.size)→K (a.put o.dst v') w'):
  if Region.wanted o (yielded ops a.tmps)=true then Oper.wp P o a w K Q else E:=by
 have hw:Region.wanted o (yielded ops a.tmps)=true:=by simp[Region.wanted,hgd]
 rw[if_pos hw]
 obtain⟨v',w',hr,h2,h3,h4⟩:=Z5h (P:=P) (w:=w) (t:=t) (ty:=o.type) hE base n m xs news hown hsrc h63 hbb hbase
 unfold Oper.wp execOp
 simp only[ho,resolve,invoke,builtin,Sem.run_bind,Sem.run_pure,Result.andThen_ok,List.map_toArray,List.map_cons,List.map_nil,hs,hx,hr]
 exact h v' w' h2 h3 h4
theorem Z30 (p:List PeT) (a b:Int) (d:Bool):Zbg Za9 p++[.int .i64 a,.int .i64 b,.bool d]=Zbg Za9 (p++[⟨a,b,d⟩]):=Zgd (f:=Za9) p ⟨a,b,d⟩
theorem Zwt {w:World} {base:Nat} {e:TypeId} {v:Value} {k:Nat} {l:List PeT} (h:w.ownsRow base e 3 v k (Zbg Za9 l)):k=l.length∧∃a c,v=.slice a l.length c∧SlOk a l.length c∧Zby w a l:=by
 obtain⟨h0,a,c,h1,h2,h3⟩:=Zjn Zh7 (by decide) h
 exact⟨h0,a,c,h1,h2,Zso h3⟩
theorem Za2.tieP (W:World) (a b:Int) (d:Bool) (t:TypeId):Za2 (W.alloc (.cells #[.int .i64 a,.int .i64 b,.bool d] t)) (.slice (some ⟨W.heap.size,0,none⟩) 1 1) 1 3 [.int .i64 a,.int .i64 b,.bool d]:=
 Za2.boxP (vs:=[.int .i64 a,.int .i64 b,.bool d]) W (fun u hu=>by simp at hu;rcases hu with rfl|rfl|rfl<;>rfl) t
theorem Za2.tiesP {w:World} {a:Option Addr} {l:List PeT} {c:Nat} (hn:a=none→c=0) (h:Zby w a l):Za2 w (.slice a l.length c) l.length 3 (Zbg Za9 l):=Za2.flat Zh7 (by decide) Zty hn (Z3c h)
theorem Zrw (p:List MoSum) (n:ByteArray) (a b:Int):Zbg Zb3 p++[.string n,.int .i64 a,.int .i64 b]=Zbg Zb3 (p++[⟨n,a,b⟩]):=Zgd (f:=Zb3) p ⟨n,a,b⟩
theorem Za2.sumP (W:World) (n:ByteArray) (a b:Int) (t:TypeId):Za2 (W.alloc (.cells #[.string n,.int .i64 a,.int .i64 b] t)) (.slice (some ⟨W.heap.size,0,none⟩) 1 1) 1 3 [.string n,.int .i64 a,.int .i64 b]:=
 Za2.boxP (vs:=[.string n,.int .i64 a,.int .i64 b]) W (fun u hu=>by simp at hu;rcases hu with rfl|rfl|rfl<;>rfl) t
theorem Zrv {W:World} {a:Option Addr} {l:List MoSum} (h:Zgy W a l) {b o:Nat} {v:Value} (hne:∀ad,a=some ad→ad.block≠b):Zgy (W.setCell ⟨b,o,none⟩ v) a l:=fun i hi=>by
 obtain⟨b',off,e,hb,h0,h1,h2⟩:=h i hi
 have hn:=hne _ e
 exact⟨b',off,e,by simpa using hb,Zdx (Zae hn) h0,Zdx (Zae hn) h1,Zdx (Zae hn) h2⟩
structure PayL (V:World) (pm pn pw p2:Nat) (c:Nat) (az:Option Addr) (cz:Nat) (L:List MoSum):Prop where
 blk:V.heap[pm]?=some (.cells #[.slice (some ⟨pn,0,none⟩) c 4,.slice az L.length cz,.slice (some ⟨pw,0,none⟩) 1 1,.slice none 0 0] 54 (0,0))
 ok:SlOk az L.length cz
 sums:Zgy V az L
 far:∀ad,az=some ad→p2<ad.block
 lt:∀ad,az=some ad→ad.block<V.heap.size
structure PayI (P V:World) (pm pq pn pw p2:Nat) (c:Nat) (same:Bool) (X Y:PeM) (az bz:Option Addr) (cz dz:Nat) (L M:List MoSum):Prop where
 b:Below P.heap.size P V
 m:PayL V pm pn pw p2 c az cz L
 now:PayL V pq pn pw p2 c bz dz M
 n:V.heap[pn]?=some (.cells #[.string ⟨#[109,46,48]⟩,.string ⟨#[109,46,49]⟩,.string ⟨#[109,46,50]⟩,.string ⟨#[109,46,51]⟩] 9 (0,0))
 w:V.heap[pw]?=some (.cells #[.int .i64 (if same=true then 2 else 3),.int .i64 0,.int .i64 1,.int .i64 (-1),.bool true] 56 (0,0))
 t:V.heap[p2]?=some (.cells #[.int .i64 X.spell,.int .i64 X.vill,.int .i64 X.lo,.int .i64 X.hi,.int .i64 X.par,.int .i64 Y.spell,.int .i64 Y.vill,.int .i64 Y.lo,.int .i64 Y.hi,.int .i64 Y.par] 38 (0,0))
 ord:P.heap.size≤pm∧pm<pn∧pn<pw∧pw<pq∧pq<p2
section
variable {P V V':World} {pm pq pn pw p2:Nat} {c:Nat} {same:Bool} {X Y:PeM} {az bz:Option Addr} {cz dz:Nat} {L M:List MoSum}
theorem PayL.mono (h:PayL V pm pn pw p2 c az cz L) (hb:Below V.heap.size V V'):PayL V' pm pn pw p2 c az cz L:=
 ⟨(hb.block _ (lt_of_block h.blk)).trans h.blk,h.ok,h.sums.mono hb,h.far,fun ad e=>Nat.lt_of_lt_of_le (h.lt ad e) hb.size⟩
theorem PayI.mono (h:PayI P V pm pq pn pw p2 c same X Y az bz cz dz L M) (hb:Below V.heap.size V V'):PayI P V' pm pq pn pw p2 c same X Y az bz cz dz L M:=
 ⟨h.b.trans (hb.mono h.b.size),h.m.mono hb,h.now.mono hb,(hb.block _ (lt_of_block h.n)).trans h.n,(hb.block _ (lt_of_block h.w)).trans h.w,(hb.block _ (lt_of_block h.t)).trans h.t,h.ord⟩
theorem PayL.other (h:PayL V pm pn pw p2 c az cz L) {b o:Nat} {v:Value} (h1:pm≠b) (h2:∀ad,az=some ad→ad.block≠b):PayL (V.setCell ⟨b,o,none⟩ v) pm pn pw p2 c az cz L:=
 ⟨(Zae h1).trans h.blk,h.ok,Zrv h.sums h2,h.far,fun ad e=>by have:=h.lt ad e;simpa using this⟩
theorem PayL.put (h:PayL V pm pn pw p2 c az cz L) {a9:Option Addr} {c9:Nat} {L2:List MoSum} (hz:SlOk a9 L2.length c9) (hs:Zgy V a9 L2) (hf:∀ad,a9=some ad→p2<ad.block) (hl:∀ad,a9=some ad→ad.block<V.heap.size) (hp:pm<p2):PayL (V.setCell ⟨pm,1,none⟩ (.slice a9 L2.length c9)) pm pn pw p2 c a9 c9 L2:=
 ⟨Zak 1 _ h.blk,hz,Zrv hs (fun ad e=>by have:=hf ad e;omega),hf,fun ad e=>by have:=hl ad e;simpa using this⟩
theorem PayI.beside (h:PayI P V pm pq pn pw p2 c same X Y az bz cz dz L M) {b o:Nat} {v:Value} (hb:p2<b) (h1:∀ad,az=some ad→ad.block≠b) (h2:∀ad,bz=some ad→ad.block≠b):PayI P (V.setCell ⟨b,o,none⟩ v) pm pq pn pw p2 c same X Y az bz cz dz L M:=by
 have ho:=h.ord
 exact⟨h.b.setCell (by show P.heap.size≤b;omega) _,h.m.other (by omega) h1,h.now.other (by omega) h2,(Zae (by omega)).trans h.n,(Zae (by omega)).trans h.w,(Zae (by omega)).trans h.t,h.ord⟩
theorem PayI.putM (h:PayI P V pm pq pn pw p2 c same X Y az bz cz dz L M) {a9:Option Addr} {c9:Nat} {L2:List MoSum} (hz:SlOk a9 L2.length c9) (hs:Zgy V a9 L2) (hf:∀ad,a9=some ad→p2<ad.block) (hl:∀ad,a9=some ad→ad.block<V.heap.size):PayI P (V.setCell ⟨pm,1,none⟩ (.slice a9 L2.length c9)) pm pq pn pw p2 c same X Y a9 bz c9 dz L2 M:=by
 have ho:=h.ord
 have h2:=h.now.far
 exact⟨h.b.setCell (by show P.heap.size≤pm;omega) _,h.m.put hz hs hf hl (by omega),h.now.other (by omega) (fun ad e=>by have:=h2 ad e;omega),(Zae (by omega)).trans h.n,(Zae (by omega)).trans h.w,(Zae (by omega)).trans h.t,h.ord⟩
theorem PayI.putN (h:PayI P V pm pq pn pw p2 c same X Y az bz cz dz L M) {a9:Option Addr} {c9:Nat} {M2:List MoSum} (hz:SlOk a9 M2.length c9) (hs:Zgy V a9 M2) (hf:∀ad,a9=some ad→p2<ad.block) (hl:∀ad,a9=some ad→ad.block<V.heap.size):PayI P (V.setCell ⟨pq,1,none⟩ (.slice a9 M2.length c9)) pm pq pn pw p2 c same X Y az a9 cz c9 L M2:=by
 have ho:=h.ord
 have h2:=h.m.far
 exact⟨h.b.setCell (by show P.heap.size≤pq;omega) _,h.m.other (by omega) (fun ad e=>by have:=h2 ad e;omega),h.now.put hz hs hf hl (by omega),(Zae (by omega)).trans h.n,(Zae (by omega)).trans h.w,(Zae (by omega)).trans h.t,h.ord⟩
theorem PayI.list {A:Nat→Nat} (h:PayL V pm pn pw p2 c az cz (Zc5 A)) (hc:c≤4) (hn:V.heap[pn]?=some (.cells #[.string ⟨#[109,46,48]⟩,.string ⟨#[109,46,49]⟩,.string ⟨#[109,46,50]⟩,.string ⟨#[109,46,51]⟩] 9 (0,0)))
  (hw:V.heap[pw]?=some (.cells #[.int .i64 (if same=true then 2 else 3),.int .i64 0,.int .i64 1,.int .i64 (-1),.bool true] 56 (0,0))):
  ListC V (some ⟨pn,0,none⟩) az (some ⟨pw,0,none⟩) none 4 cz 1 0 (payM A c same):=by
 have hl:=Zil A same hc
 have hnz:=lt_of_block hn
 have hwz:=lt_of_block hw
 refine⟨⟨by rw[hl];exact hc,by decide,fun e=>by cases e⟩,h.ok,⟨Nat.le_refl _,by decide,fun e=>by cases e⟩,⟨Nat.le_refl _,by decide,fun _=>rfl⟩,fun i hi=>?_,h.sums,fun i hi=>?_,fun i hi=>absurd hi (Nat.not_lt_zero i),fun s hs=>?_,fun s hs=>?_⟩
 ·rw[hl] at hi
  have h4:i=0∨i=1∨i=2∨i=3:=by omega
  have hg:(payM A c same).claimants[i]'(by rw[hl];exact hi)=Zg5[i]'(by show i<4;omega):=List.getElem_take ..
  refine⟨pn,0,rfl,hnz,?_⟩
  rw[hg]
  rcases h4 with rfl|rfl|rfl|rfl
  ·exact Zaa 0 hn rfl
  ·exact Zaa 1 hn rfl
  ·exact Zaa 2 hn rfl
  ·exact Zaa 3 hn rfl
 ·have hi1:i<1:=hi
  obtain rfl:i=0:=by omega
  exact⟨pw,0,rfl,hwz,Zaa 0 hw rfl,Zaa 1 hw rfl,Zaa 2 hw rfl,Zaa 3 hw rfl,Zaa 4 hw rfl⟩
 ·have h1:s∈Zg5:=List.mem_of_mem_take hs
  simp only[Zg5,List.mem_cons,List.not_mem_nil,or_false] at h1
  rcases h1 with rfl|rfl|rfl|rfl<;>decide
 ·simp only[payM,Zc5,List.mem_cons,List.not_mem_nil,or_false] at hs
  rcases hs with rfl|rfl
  ·show(3:Nat)≤9223372036854775807
   decide
  ·show(3:Nat)≤9223372036854775807
   decide
end
def Z8o (x y:PeM) (j:Nat):PeM:=if j=0 then x else y
def Z9m (j:Nat):ByteArray:=if j=0 then ⟨#[111,110,101]⟩ else ⟨#[116,119,111]⟩
theorem Zlq (A:Nat→Nat) {j:Nat} (h:j<2):(Zc5 A).take (j+1)=(Zc5 A).take j++[⟨Z9m j,10+(j:Int),(A j:Int)⟩]:=by
 obtain rfl|rfl:j=0∨j=1:=by omega
 ·rfl
 ·rfl
theorem Zni (A:Nat→Nat) {j:Nat} (h:j≤2):((Zc5 A).take j).length=j:=by
 rw[List.length_take]
 show min j 2=j
 omega
end Go.Proofs.YtklconegomgjaaaGreat
