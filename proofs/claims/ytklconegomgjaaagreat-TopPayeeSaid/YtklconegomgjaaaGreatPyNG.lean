/- What is proved here: plain facts for TopPayee: persons that keep all rules, as the reference looks at them, are among the program's truths. No program. No condition. -/
import Derived.Test.YtklconegomgjaaaGreatPeSpecG
import Derived.Test.YtklconegomgjaaaGreatPnBaseG
import Derived.Test.YtklconegomgjaaaGreatPeYearLG
import Derived.Test.YtklconegomgjaaaGreatInfoG
set_option linter.all false
set_option maxRecDepth 100000
set_option maxHeartbeats 16000000
namespace Go.Proofs.YtklconegomgjaaaGreat
section
structure FitX (t:PeW) (p:List Int):Prop where
 len:p.length=t.ments.length
 rg:rgB 0 p=true
 named:∀n:Nat,n<6→(∃h,∀i,i<t.ments.length→pAt p i=(n:Int)→h∈Zck t.ear (spOf t i))∨(∀i j,i<t.ments.length→j<t.ments.length→pAt p i=(n:Int)→pAt p j=(n:Int)→i=j)
 vill:∀n:Nat,n<6→∀i j,i<t.ments.length→j<t.ments.length→pAt p i=(n:Int)→pAt p j=(n:Int)→(Zal t i).vill≠-1→(Zal t j).vill≠-1→(Zal t i).vill=(Zal t j).vill
 tied:∀i (hi:i<t.ties.length),tieB t p t.ties[i]=true
 kin:∀i,i<t.ments.length→(Zal t i).par≠-1→pAt p (Zal t i).par.toNat≠pAt p i∧∀k,k<i→(Zal t k).par≠-1→pAt p k=pAt p i→pAt p (Zal t i).par.toNat=pAt p (Zal t k).par.toNat
 years:(Zbr t p).isSome=true
theorem Zsf:∀(l:List Int) (m:Nat),rgB m l=true→∀x∈l,0≤x∧x<m+l.length
 |[],_,_,x,hx=>by cases hx
 |y::l,m,h,x,hx=>by
  rw[rgB,Bool.and_eq_true,decide_eq_true_eq] at h
  rw[List.length_cons]
  rcases List.mem_cons.1 hx with rfl|hx
  ·omega
  ·have:=Zsf l _ h.2 x hx
   omega
theorem Z8y {p:List Int} (h:rgB 0 p=true) (hl:p.length≤6) (i:Nat):0≤pAt p i∧pAt p i<6:=by
 unfold pAt
 by_cases hi:i<p.length
 ·rw[List.getElem?_eq_getElem hi,Option.getD_some]
  have:=Zsf p 0 h _ (List.getElem_mem hi)
  omega
 ·rw[List.getElem?_eq_none (by omega)]
  simp
theorem Zpp {t:PeW} {p:List Int} {n s:Nat}:∀k,(Zco t p n k).testBit s=true↔∃i,i<k∧pAt p i=(n:Int)∧spOf t i=s
 |0=>by simp[Zco]
 |k+1=>by
  rw[Zco]
  have ih:=Zpp (t:=t) (p:=p) (n:=n) (s:=s) k
  split
  ·next h=>
   rw[Nat.testBit_or,Bool.or_eq_true,ih,Nat.testBit_two_pow]
   constructor
   ·rintro(⟨i,h1,h2⟩|h1)
    ·exact⟨i,by omega,h2⟩
    ·exact⟨k,by omega,h,by simpa using h1⟩
   ·rintro⟨i,h1,h2,h3⟩
    by_cases e:i=k
    ·subst e
     exact .inr (by simpa using h3)
    ·exact .inl ⟨i,by omega,h2,h3⟩
  ·next h=>
   rw[ih]
   constructor
   ·rintro⟨i,h1,h2⟩
    exact⟨i,by omega,h2⟩
   ·rintro⟨i,h1,h2,h3⟩
    refine⟨i,?_,h2,h3⟩
    rcases Nat.lt_or_ge i k with g|g
    ·exact g
    ·obtain rfl:i=k:=by omega
     exact absurd h2 h
theorem FitX.common {t:PeW} {p:List Int} (h:FitX t p) (hv:PeOk t) {n:Nat} (hn:n<6):∃g,∀i,i<t.ments.length→pAt p i=(n:Int)→g∈Zck t.ear (spOf t i):=by
 rcases h.named n hn with h1|h1
 ·exact h1
 ·by_cases e:∃i,i<t.ments.length∧pAt p i=(n:Int)
  ·obtain⟨i,hi,hp⟩:=e
   obtain⟨g,hg⟩:=Zy0 hv.ear (Z51 hv hi)
   refine⟨g,fun j hj hq=>?_⟩
   rw[h1 j i hj hi hq hp]
   exact hg
  ·exact⟨[],fun j hj hq=>absurd ⟨j,hj,hq⟩ e⟩
theorem Z1s {t:PeW} {p:List Int} (h:FitX t p) (hv:PeOk t):Zev t p=true:=by
 refine Zxa fun n hn=>?_
 by_cases e:∃i,i<t.ments.length∧pAt p i=(n:Int)
 ·refine .inr ?_
  rw[Zr8]
  obtain⟨g,hg⟩:=h.common hv hn
  obtain⟨i,hi,hp⟩:=e
  refine⟨g,Zmg.2 ⟨Zh1 hv.ear (Z51 hv hi) (hg i hi hp),fun s hs hb=>?_⟩⟩
  obtain⟨j,hj,hq,rfl⟩:=(Zpp _).1 hb
  exact hg j hj hq
 ·exact .inl (Zmu _ fun i hi hp=>e ⟨i,hi,hp⟩)
theorem Z1f {t:PeW} {q:List Int} (hv:PeOk t) (hq:∀i,i<6→0≤pAt q i∧pAt q i<6):∀k,k≤t.ments.length→(Zbd t q k).length=6∧∀i,i<k→(Zal t i).lo≤(bAt (Zbd t q k) (pAt q i).toNat).1∧(bAt (Zbd t q k) (pAt q i).toNat).2≤(Zal t i).hi
 |0,_=>⟨rfl,fun i h=>absurd h (Nat.not_lt_zero i)⟩
 |k+1,hk=>by
  obtain⟨h1,h2⟩:=Z1f hv hq k (by omega)
  have hnm:=hv.nm
  have hqk:=hq k (by omega)
  rw[Zbd]
  refine⟨by rw[List.length_set];exact h1,fun i hi=>?_⟩
  have hqi:=hq i (by omega)
  rw[Zgu _ (by omega)]
  by_cases e:i=k
  ·subst e
   rw[if_pos rfl]
   simp only
   omega
  ·have h3:=h2 i (by omega)
   by_cases g:(pAt q i).toNat=(pAt q k).toNat
   ·rw[if_pos g]
    rw[g] at h3
    simp only
    omega
   ·rw[if_neg g]
    exact h3
theorem Zqz {t:PeW} {q:List Int} (hq:∀i,0≤pAt q i∧pAt q i<6) (L:List (Int × Int)) (hL:L.length=6):∀k,(Za4 t q L k).1.length=6∧Nar L (Za4 t q L k).1
 |0=>⟨hL,Zxg L⟩
 |k+1=>by
  obtain⟨h1,h2⟩:=Zqz hq L hL k
  rw[Za4]
  split
  ·exact⟨h1,h2⟩
  ·have a:=hq (Zal t k).par.toNat
   have b:=hq k
   exact⟨Zwy h1 _ _,Zmz h2 (Zj3 h1 (by omega) (by omega))⟩
theorem Zoy {t:PeW} {q:List Int} (hq:∀i,0≤pAt q i∧pAt q i<6):∀(f:Nat) (L M:List (Int × Int)),L.length=6→Zhc t q f L=some M→Nar L M∧Zet M=false∧M.length=6
 |0,L,M,_,h=>by rw[Zhc] at h;cases h
 |f+1,L,M,hL,h=>by
  rw[Zhc] at h
  obtain⟨h1,h2⟩:=Zqz hq L hL t.ments.length (t:=t)
  split at h
  ·cases h
  ·next he=>
   split at h
   ·have:=Zoy hq f _ _ h1 h
    exact⟨Zmz h2 this.1,this.2⟩
   ·cases h
    exact⟨h2,by simpa using he,h1⟩
theorem Z0q {t:PeW} {q:List Int} (hv:PeOk t) (hq:∀i,0≤pAt q i∧pAt q i<6) (hy:(Zbr t q).isSome=true) {i j:Nat} (hi:i<t.ments.length) (hj:j<t.ments.length) (e:pAt q i=pAt q j):max (Zal t i).lo (Zal t j).lo≤min (Zal t i).hi (Zal t j).hi:=by
 obtain⟨M,hM⟩:=Option.isSome_iff_exists.1 hy
 obtain⟨h1,h2⟩:=Z1f hv (fun i _=>hq i) t.ments.length (Nat.le_refl _)
 obtain⟨h3,h4,h5⟩:=Zoy hq _ _ _ h1 hM
 have a:=h2 i hi
 have b:=h2 j hj
 rw[←e] at b
 have hn:(pAt q i).toNat<6:=by have:=hq i;omega
 have c:=h3 _ hn
 have d:=(Zfb h5).1 h4 _ hn
 omega
theorem Zo9 {t:PeW} {p:List Int} (h:FitX t p) (hq:∀i,0≤pAt p i∧pAt p i<6):∀k,k≤t.ments.length→∃f,Zbp t p k=some f∧f.length=6∧∀n:Nat,n<6→(f[n]?.getD 0=0)∨∃i,i<k∧(Zal t i).par≠-1∧pAt p i=(n:Int)∧f[n]?.getD 0=pAt p (Zal t i).par.toNat+1
 |0,_=>⟨noOf,rfl,rfl,fun n hn=>.inl (by
   obtain rfl|rfl|rfl|rfl|rfl|rfl:n=0∨n=1∨n=2∨n=3∨n=4∨n=5:=by omega
   all_goals rfl)⟩
 |k+1,hk=>by
  obtain⟨f,h1,h2,h3⟩:=Zo9 h hq k (by omega)
  rw[Zbp,h1]
  simp only
  by_cases e:(Zal t k).par=-1
  ·rw[if_pos e]
   refine⟨f,rfl,h2,fun n hn=>?_⟩
   rcases h3 n hn with g|⟨i,g1,g2⟩
   ·exact .inl g
   ·exact .inr ⟨i,by omega,g2⟩
  ·rw[if_neg e]
   obtain⟨k1,k2⟩:=h.kin k (by omega) e
   have hqk:=hq k
   have hno:¬(pAt p k=pAt p (Zal t k).par.toNat∨((f[(pAt p k).toNat]?.getD 0)≠0∧(f[(pAt p k).toNat]?.getD 0)≠pAt p (Zal t k).par.toNat+1)):=by
    rintro(g|⟨g1,g2⟩)
    ·exact k1 g.symm
    ·rcases h3 (pAt p k).toNat (by omega) with g|⟨i,m1,m2,m3,m4⟩
     ·exact g1 g
     ·rw[m4,k2 i m1 m2 (by omega)] at g2
      exact g2 rfl
   rw[if_neg hno]
   refine⟨_,rfl,by rw[List.length_set];exact h2,fun n hn=>?_⟩
   rw[List.getElem?_set]
   by_cases g:(pAt p k).toNat=n
   ·rw[if_pos g,if_pos (by omega),Option.getD_some]
    exact .inr ⟨k,by omega,e,by omega,rfl⟩
   ·rw[if_neg g]
    rcases h3 n hn with g|⟨i,g1,g2⟩
    ·exact .inl g
    ·exact .inr ⟨i,by omega,g2⟩
theorem Z3d {t:PeW} (hv:PeOk t) {i:Nat} (hi:i<t.ments.length):-1≤(Zal t i).par:=by
 rw[Zba hi]
 have:=hv.ment i hi
 omega
theorem Z8p {t:PeW} {p:List Int} (h:FitX t p) (hv:PeOk t) (hq:∀i,0≤pAt p i∧pAt p i<6) {i j:Nat} (hi:i<t.ments.length) (hj:j<t.ments.length) (e:pAt p i=pAt p j):whyN t i j=0:=by
 obtain⟨n,hn⟩:∃n:Nat,pAt p i=(n:Int):=⟨(pAt p i).toNat,by have:=hq i;omega⟩
 have hn6:n<6:=by have:=hq i;omega
 obtain⟨g,hg⟩:=h.common hv hn6
 have hal:Zc0 t (2^spOf t i|||2^spOf t j)=true:=by
  rw[Zr8]
  exact⟨g,(Z86 hv.ear (Z51 hv hi) (Z51 hv hj)).2 ⟨hg i hi hn,hg j hj (e.symm.trans hn)⟩⟩
 have hvl:=h.vill n hn6 i j hi hj hn (e.symm.trans hn)
 have hy:=Z0q hv hq h.years hi hj e
 have p1:=Z3d hv hi
 have p2:=Z3d hv hj
 unfold whyN
 rw[hal,if_neg (by simp),if_neg (by rintro⟨a,b,c⟩;exact a (hvl b c)),if_neg (by omega),if_neg ?_]
 rintro(a|a)
 ·have:=(h.kin i hi (by omega)).1
  rw[a,Int.toNat_natCast] at this
  exact this e.symm
 ·have:=(h.kin j hj (by omega)).1
  rw[a,Int.toNat_natCast] at this
  exact this e
theorem Z5p {t:PeW} {p:List Int} (h:FitX t p) (hv:PeOk t):(p,Zdm 0 p)∈Za6 t 0:=by
 have hq:=Z8y h.rg (by rw[h.len];exact hv.nm)
 unfold Za6
 rw[List.mem_filter]
 refine⟨Z00 h.len h.rg (fun j hj i hi e=>?_) h.years ?_,?_⟩
 ·rw[h.len] at hj
  exact Z8p h hv hq (by omega) hj e
 ·obtain⟨f,hf,_⟩:=Zo9 h hq t.ments.length (Nat.le_refl _)
  unfold Zb2
  rw[hf]
  rfl
 ·unfold Zfh
  rw[Z1s h hv,Bool.true_and]
  unfold Zhk Zeu
  rw[List.all_eq_true]
  intro i hi
  have hi:=List.mem_range.1 hi
  rw[List.getElem?_eq_getElem hi]
  simp only[h.tied i hi,Bool.or_true]
end
section
def Zhi (t:PeW) (x:PeT):PeW:={t with ties:=t.ties++[x]}
theorem Zvz (t:PeW) (x:PeT):Zb7 (Zhi t x)=Zb7 t:=by kernel_rfl
theorem Zzd (t:PeW) (x:PeT) (p:List Int):Zev (Zhi t x) p=Zev t p:=by kernel_rfl
theorem Z10 (t:PeW) (x:PeT) (k:Int) (m:PeM):Zbc (Zhi t x) k m=Zbc t k m:=rfl
theorem Z27 {t:PeW} {x:PeT} {p:List Int} (h:Zhk (Zhi t x) 0 p=true):Zhk t 0 p=true:=by
 unfold Zhk Zeu at h ⊢
 rw[List.all_eq_true] at h ⊢
 intro i hi
 have hi:=List.mem_range.1 hi
 have:=h i (List.mem_range.2 (by simp[Zhi];omega))
 have e:(Zhi t x).ties[i]?=t.ties[i]?:=List.getElem?_append_left hi
 rw[e] at this
 exact this
theorem Zsw {t:PeW} {x:PeT} {y:List Int × Nat} (h:y∈Za6 (Zhi t x) 0):y∈Za6 t 0:=by
 unfold Za6 Zfh at h ⊢
 rw[List.mem_filter,Bool.and_eq_true] at h ⊢
 rw[Zvz,Zzd] at h
 exact⟨h.1,h.2.1,Z27 h.2.2⟩
theorem Z16 {t:PeW} {x:PeT} (h:Za6 (Zhi t x) 0≠[]):Za6 t 0≠[]:=by
 obtain⟨y,hy⟩:=Z3i.1 h
 exact Z3i.2 ⟨y,Zsw hy⟩
theorem Z4p {t:PeW} {x:PeT} {m:PeM} {n:Int} (h:n∈whoN (Zhi t x) m):n∈whoN t m:=by
 unfold whoN Zas at h ⊢
 obtain⟨i,hi,rfl⟩:=List.mem_map.1 h
 rw[List.mem_filter] at hi
 refine List.mem_map.2 ⟨i,List.mem_filter.2 ⟨hi.1,?_⟩,rfl⟩
 have h2:=hi.2
 unfold Zd3 at h2 ⊢
 rw[Zcx,Bool.and_eq_true,List.any_eq_true] at h2 ⊢
 obtain⟨h3,y,hy,e⟩:=h2
 exact⟨h3,y,Zsw (t:=Zis t m) (x:=x) hy,e⟩
def whoX (t:PeW) (m:PeM):List Int:=if Zbc t t.ments.length m=0 then whoN t m else []
theorem Ztl {t:PeW} {x:PeT} {m:PeM} {n:Int} (h:n∈whoX (Zhi t x) m):n∈whoX t m:=by
 unfold whoX at h ⊢
 rw[Z10] at h
 rw[show(Zhi t x).ments.length=t.ments.length from rfl] at h
 split at h
 ·next e=>rw[if_pos e];exact Z4p h
 ·cases h
def Zhj (l:List Int) (c:Nat):Nat:=Zdi (fun i=>hasB l (i:Int)) c
theorem Z3q {l k:List Int} (h:∀n,n∈k→n∈l) (c i:Nat) (hb:(Zhj k c).testBit i=true):(Zhj l c).testBit i=true:=by
 unfold Zhj at hb ⊢
 rw[Zcx,Bool.and_eq_true,Zj2] at hb ⊢
 exact⟨hb.1,h _ hb.2⟩
theorem Zpx (l:List Int) (c:Nat):Zhj l c<2^c:=Zgf _ _
def Zg5:List ByteArray:=[⟨#[109,46,48]⟩,⟨#[109,46,49]⟩,⟨#[109,46,50]⟩,⟨#[109,46,51]⟩]
def Z1g (same:Bool):MoWord:=⟨if same=true then 2 else 3,0,1,-1,true⟩
def Zc5 (A:Nat→Nat):List MoSum:=[⟨⟨#[111,110,101]⟩,10,(A 0:Int)⟩,⟨⟨#[116,119,111]⟩,11,(A 1:Int)⟩]
def payM (A:Nat→Nat) (c:Nat) (same:Bool):MoList:=⟨Zg5.take c,Zc5 A,[Z1g same],[]⟩
theorem Zil (A:Nat→Nat) {c:Nat} (same:Bool) (hc:c≤4):(payM A c same).claimants.length=c:=by
 show(Zg5.take c).length=c
 rw[List.length_take]
 show min c 4=c
 omega
theorem Z2v:∀c:Fin 5,∀i:Fin 5,i.1<c.1→(match (Zg5.take c.1)[i.1]? with|some s=>Zgr s ((Zg5.take c.1).take i.1)|none=>0)=0:=by decide +kernel
theorem Zry:Zgr ⟨#[111,110,101]⟩ []=0∧Zgr ⟨#[116,119,111]⟩ [⟨#[111,110,101]⟩]=0:=by decide +kernel
theorem Z8q {m:MoList} (h1:m.claimants.length≤4) (h2:∀i,i<m.claimants.length→Zbk m i=0) (h3:m.sums.length≤5) (h4:∀i,i<m.sums.length→Zc2 m i=0)
  (h5:m.words.length≤6) (h6:∀i,i<m.words.length→Zbv m i=0) (h7:m.paid.length≤5) (h8:∀i,i<m.paid.length→Zbf m i=0):Zf4 m=0:=by
 unfold Zf4 check
 rw[Zfn h1 h2,Zfn h3 h4,Zfn h5 h6,Zfn h7 h8]
theorem Zox {A:Nat→Nat} {c:Nat} {same:Bool} (hc:c≤4) (h:∀i,i<2→1≤A i∧A i<2^c):Zf4 (payM A c same)=0:=by
 have hl:=Zil A same hc
 refine Z8q (by omega) (fun i hi=>?_) (by show 2≤5;decide) (fun i hi=>?_) (by show 1≤6;decide) (fun i hi=>?_) (by show 0≤5;decide) (fun i hi=>absurd hi (Nat.not_lt_zero i))
 ·rw[hl] at hi
  exact Z2v ⟨c,by omega⟩ ⟨i,by omega⟩ hi
 ·have hi2:i<2:=hi
  have h1:=h i hi2
  have hb:inB (A i:Int) 1 (Zep (payM A c same).claimants.length)=true:=by
   rw[hl,Zbx]
   unfold Zep
   have:((2^c:Nat):Int)=(2:Int)^c:=by simp
   omega
  obtain rfl|rfl:i=0∨i=1:=by omega
  ·show(if Zgr ⟨#[111,110,101]⟩ []=0 then (if inB 10 1 99&&inB (A 0:Int) 1 (Zep (payM A c same).claimants.length) then (0:Int) else 7) else Zgr ⟨#[111,110,101]⟩ [])=0
   rw[hb,if_pos Zry.1]
   rfl
  ·show(if Zgr ⟨#[116,119,111]⟩ [⟨#[111,110,101]⟩]=0 then (if inB 11 1 99&&inB (A 1:Int) 1 (Zep (payM A c same).claimants.length) then (0:Int) else 7) else Zgr ⟨#[116,119,111]⟩ [⟨#[111,110,101]⟩])=0
   rw[hb,if_pos Zry.2]
   rfl
 ·have hi2:i<1:=hi
  obtain rfl:i=0:=by omega
  show Zgn (payM A c same).claimants.length 2 1 0 (Z1g same)=0
  cases same<;>rfl
theorem Z2f {A B:Nat→Nat} {c:Nat} {same:Bool} (h:∀i,i<2→∀j,(B i).testBit j=true→(A i).testBit j=true) {i:Nat} (hi:i<2) {t:List Int} {k:Nat} (hf:fine (payM B c same) i t k=true):fine (payM A c same) i t k=true:=by
 unfold fine at hf ⊢
 rw[Bool.and_eq_true] at hf ⊢
 refine⟨?_,hf.2⟩
 obtain rfl|rfl:i=0∨i=1:=by omega
 ·exact h 0 (by omega) k hf.1
 ·exact h 1 (by omega) k hf.1
theorem Zmo {A B:Nat→Nat} {c:Nat} {same:Bool} (h:∀i,i<2→∀j,(B i).testBit j=true→(A i).testBit j=true):∀n,n≤2→∀t∈Za8 (payM B c same) n,t∈Za8 (payM A c same) n
 |0,_,t,ht=>ht
 |n+1,hn,t,ht=>by
  rw[Za8,List.mem_flatMap] at ht ⊢
  obtain⟨s,hs,ht⟩:=ht
  refine⟨s,Zmo h n (by omega) s hs,?_⟩
  unfold Zbq at ht ⊢
  obtain⟨k,hk,rfl⟩:=List.mem_map.1 ht
  rw[List.mem_filter] at hk
  exact List.mem_map.2 ⟨k,List.mem_filter.2 ⟨hk.1,Z2f h (by omega) hk.2⟩,rfl⟩
structure PayX (m now:MoList) (i:Int):Prop where
 none:(Zek now i).2≠0→(Zek now i).2=8∧(Ze6 now i).2=8
 some:(Zek now i).2=0→(Zek m i).2=0∧((Ze6 m i).2=0→(Ze6 now i).2=0∧(Ze6 m i).1=(Ze6 now i).1)∧∀x∈(Zek now i).1,x∈(Zek m i).1
theorem Z5e {n:Nat} {M N:List (List Int)} (h:∀t∈N,t∈M) {s:Nat} {x:Int} (hx:x∈whom n N s):x∈whom n M s:=by
 unfold whom at hx ⊢
 obtain⟨k,hk,rfl⟩:=List.mem_map.1 hx
 rw[List.mem_filter,List.any_eq_true] at hk
 obtain⟨h1,t,ht,e⟩:=hk
 exact List.mem_map.2 ⟨k,List.mem_filter.2 ⟨h1,List.any_eq_true.2 ⟨t,h t ht,e⟩⟩,rfl⟩
theorem Z4b {m:MoList} {s:Nat} (hs:s<m.sums.length) (h:0<(Zao m).length):∃x,x∈whom m.claimants.length (Zao m) s:=by
 obtain⟨t,ht⟩:=List.exists_mem_of_length_pos h
 have hl:=Zcw m t ht
 have hb:=Zgh m t ht t[s] (List.getElem_mem (by omega))
 refine⟨t[s],List.mem_map.2 ⟨t[s].toNat,List.mem_filter.2 ⟨List.mem_range.2 (by omega),List.any_eq_true.2 ⟨t,ht,?_⟩⟩,by omega⟩⟩
 rw[List.getElem?_eq_getElem (by omega),Option.getD_some,decide_eq_true_eq]
 omega
theorem Z70 {A B:Nat→Nat} {c:Nat} {same:Bool} (hc:c≤4) (hA:∀i,i<2→1≤A i∧A i<2^c) (hB:∀i,i<2→1≤B i∧B i<2^c) (h:∀i,i<2→∀j,(B i).testBit j=true→(A i).testBit j=true) {i:Nat} (hi:i<2):PayX (payM A c same) (payM B c same) (i:Int):=by
 have vA:=Zox (same:=same) hc hA
 have vB:=Zox (same:=same) hc hB
 have lA:=Zil A same hc
 have lB:=Zil B same hc
 have hsub:∀t∈Zao (payM B c same),t∈Zao (payM A c same):=Zmo h 2 (Nat.le_refl _)
 have sA:(payM A c same).sums.length=2:=rfl
 have sB:(payM B c same).sums.length=2:=rfl
 have aA:Zee (payM A c same) (i:Int) (payM A c same).sums.length=0:=by
  unfold Zee
  rw[if_pos vA,if_pos (Zbx.2 (by rw[sA];omega))]
 have aB:Zee (payM B c same) (i:Int) (payM B c same).sums.length=0:=by
  unfold Zee
  rw[if_pos vB,if_pos (Zbx.2 (by rw[sB];omega))]
 have fA:Zd6 (payM A c same) (i:Int)=if (Zao (payM A c same)).length=0 then 8 else 0:=by unfold Zd6 Zfx;rw[aA,if_pos rfl]
 have fB:Zd6 (payM B c same) (i:Int)=if (Zao (payM B c same)).length=0 then 8 else 0:=by unfold Zd6 Zfx;rw[aB,if_pos rfl]
 by_cases hz:(Zao (payM B c same)).length=0
 ·rw[if_pos hz] at fB
  have e1:Zek (payM B c same) (i:Int)=([],8):=by unfold Zek;rw[fB];rfl
  have e2:Ze6 (payM B c same) (i:Int)=(0,8):=by unfold Ze6;rw[fB];rfl
  exact⟨fun _=>⟨by rw[e1],by rw[e2]⟩,fun h0=>by rw[e1] at h0;cases h0⟩
 ·have hzA:¬(Zao (payM A c same)).length=0:=fun e=>by
   obtain⟨t,ht⟩:=List.exists_mem_of_length_pos (Nat.pos_of_ne_zero hz)
   have:=hsub t ht
   rw[List.length_eq_zero_iff.1 e] at this
   cases this
  rw[if_neg hz] at fB
  rw[if_neg hzA] at fA
  have e1:Zek (payM B c same) (i:Int)=(whom c (Zao (payM B c same)) i,0):=by unfold Zek;rw[fB,if_pos rfl,lB,Int.toNat_natCast]
  have e2:Zek (payM A c same) (i:Int)=(whom c (Zao (payM A c same)) i,0):=by unfold Zek;rw[fA,if_pos rfl,lA,Int.toNat_natCast]
  have hw:∀x,x∈whom c (Zao (payM B c same)) i→x∈whom c (Zao (payM A c same)) i:=fun x hx=>Z5e hsub hx
  refine⟨fun h0=>by rw[e1] at h0;exact absurd rfl h0,fun _=>⟨by rw[e2],fun hp=>?_,fun x hx=>?_⟩⟩
  ·obtain⟨y,hy⟩:=Z4b (m:=payM B c same) (s:=i) (by rw[sB];exact hi) (Nat.pos_of_ne_zero hz)
   rw[lB] at hy
   have hy2:=hw y hy
   unfold Ze6 at hp ⊢
   rw[fA,if_pos rfl,lA,Int.toNat_natCast] at hp ⊢
   rw[fB,if_pos rfl,lB]
   have hone:¬1<(whom c (Zao (payM A c same)) i).length:=fun e=>by rw[if_pos e] at hp;cases hp
   have hA1:whom c (Zao (payM A c same)) i=[y]:=by
    match hq:whom c (Zao (payM A c same)) i with
    |[]=>rw[hq] at hy2;cases hy2
    |[z]=>rw[hq] at hy2;have hyz:y=z:=(by simpa using hy2);rw[hyz]
    |z::u::l=>rw[hq] at hone;simp at hone
   have hB1:∀x∈whom c (Zao (payM B c same)) i,x=y:=fun x hx=>by
    have:=hw x hx
    rw[hA1] at this
    simpa using this
   have hnd:(whom c (Zao (payM B c same)) i).Nodup:=by
    unfold whom
    unfold List.Nodup
    rw[List.pairwise_map]
    exact(List.Pairwise.filter _ (List.nodup_range (n:=c))).imp fun {a b} h e=>h (by omega)
   have hB2:whom c (Zao (payM B c same)) i=[y]:=by
    match hq:whom c (Zao (payM B c same)) i with
    |[]=>rw[hq] at hy;cases hy
    |[z]=>rw[hB1 z (by rw[hq];simp)]
    |z::u::l=>
     have a:=hB1 z (by rw[hq];simp)
     have b:=hB1 u (by rw[hq];simp)
     rw[hq,a,b] at hnd
     simp at hnd
   rw[hA1,hB2]
   exact⟨rfl,rfl⟩
  ·rw[e1] at hx
   rw[e2]
   exact hw x hx
end
end Go.Proofs.YtklconegomgjaaaGreat
