/- Part of a proof that a law holds at every input. -/
import Derived.Test.YtmcbhnbemhfifaaGreatDoorFzPartF
set_option autoImplicit false
set_option linter.unusedVariables false
set_option linter.unusedSimpArgs false
namespace Go.Proofs.YtmcbhnbemhfifaaGreatDoor.RX
section
open Go K
theorem Zx (m:List aV) (xs:List af) (hl:m.length≤xs.length) (h: ∀K (h1:K<m.length) (h2:K<xs.length),gv (m[K])+1≤cnt (xs[K])):yC m≤cnts xs:=by
 induction m generalizing xs with
 |nil=>simp only[yC];exact(dQ xs).1
 |cons y m ih=>
  cases xs with
  |nil=>simp at hl
  |cons x xs=>
   have h0:=h 0 (by simp) (by simp)
   have h1:=ih xs (by simpa using hl) fun K k1 k2=>h (K+1) (by simp;omega) (by simp;omega)
   simp only[List.getElem_cons_zero]at h0;simp only[yC,cnts];omega
theorem XH {l:List aV} (h: ∀x∈l,Gt x):Si l:=by
 induction l with
 |nil=>trivial
 |cons x l ih=>exact⟨h x (by simp),ih fun y hy=>h y (List.mem_cons_of_mem _ hy)⟩
theorem xC (l:List af) (n:Nat):cnts l=cnts (l.take n)+cnts (l.drop n):=by rw[←dw,List.take_append_drop]
theorem XI (f:af):cnts (bf f)+1≤cnt f:=by
 have h0:=jh f;have h1:=(dQ f.aj).1;unfold bf
 split
 ·unfold partsOf
  split
  ·have:=xC f.aj (f.aj.length-1);have:=(dQ (f.aj.drop (f.aj.length-1))).1;omega
  ·omega
 ·simp only[cnts];omega
theorem SH (lits:List af) (binds:List aO): ∀(n:Nat) (p:af) (e:Int) (f:af) (d:Int) (gs:GL),cnt p≤(n:Int)→jl p e=true→0≤e→l9 p=true→aN p=false→wid p≤2000000→wid f≤2000000→jl f d=true→0≤d→mM lits binds n p f=some gs→ ∀g∈gs,Gt g∧gv g+1≤cnt f:=by
 intro n
 induction n with
 |zero=>intro p e f d gs hc;have:=(dm p).1;omega
 |succ n ih=>
  intro p e f d gs hc hok he hst hdt hwp hwf sN hd0 hm g hg;have hpp:=aW p;have hm0:=hm;simp only[mM]at hm
  by_cases h1:p.ak=1
  ·rw[if_pos h1]at hm;unfold KZ at hm
   split at hm
   ·split at hm
    ·split at hm
     ·injection hm with hm
      rw[←hm]at hg;cases hg
     ·cases hm
    ·cases hm
   split at hm
   ·injection hm with hm
    rw[←hm]at hg;cases hg
   ·injection hm with hm
    rw[←hm]at hg;rw[List.mem_singleton.1 hg];exact⟨by rw[mg];exact⟨hwp,hwf,trivial⟩,by rw[pJ];show yC []+1≤_;have:=(dm f).1;simp only[yC];omega⟩
  rw[if_neg h1]at hm
  by_cases h2:p.ak=2
  ·rw[if_pos h2]at hm
   split at hm
   ·split at hm
    ·injection hm with hm;rw[←hm]at hg;cases hg
    ·cases hm
   ·cases hm
  rw[if_neg h2]at hm;have P:=Vz lits hok hst h1 h2;unfold D9 at hm
  split at hm
  ·cases hm
  simp only[Option.bind_eq_some_iff]at hm;obtain⟨q,hq,hm⟩:=hm;have hpf:=aW f;have aej:=jh f;have Le: ∀y∈bf f,jl y (d+1)=true∧wid y≤2000000∧cnt y≤cnt f:=by
   intro y hy;unfold bf at hy
   split at hy
   ·have hmem:y∈f.aj:=by
     unfold partsOf at hy
     split at hy
     ·exact List.mem_of_mem_take hy
     ·exact hy
    have hwy:=bZ hmem;have hcy:=l_ hmem;rcases bU sN with⟨h',_⟩|⟨h',_⟩|⟨_,h'⟩
    ·omega
    ·omega
    ·exact⟨gI h' y hmem,by omega,by omega⟩
   ·cases hy
  have hown:((bf f).length:Int)≤500000000:=by
   unfold bf
   split
   ·unfold partsOf
    split
    ·rw[List.length_take];omega
    ·omega
   ·simp
  have hsub: ∀x∈p.aj,cnt x≤(n:Int)∧wid x≤2000000:=fun x hx=>⟨by have:=l_ hx;have:=jh p;omega,by have:=bZ hx;omega⟩
  have one: ∀x∈p.aj,aN x=false→ ∀y∈bf f,∀g',mM lits binds n x y=some g'→ ∀z∈g',Gt z∧gv z+1≤cnt y:=fun x hx hxd y hy g' hg'=>ih x (e+1) y (d+1) g' (hsub x hx).1 (P.kids x hx).1 (by omega) (P.kids x hx).2 hxd (hsub x hx).2 (Le y hy).2.1 (Le y hy).1 (by omega) hg'
  have seq: ∀(suf own:List af) (q:GL×List af),(∀x∈suf,x∈p.aj)→(∀y∈own,y∈bf f)→(own.length:Int)≤500000000∧cnts own+1≤cnt f→kN (mM lits binds n) (fun x=>iT lits x 1) suf own=some q→(∀z∈q.1,Gt z∧gv z+1≤cnt f)∧ ∃m,q.2=own.drop m:=by
   intro suf
   induction suf with
   |nil=>intro own q _ _ _ h;simp only[kN,Option.some.injEq]at h;rw[←h];exact⟨fun z hz=>(by cases hz),0,rfl⟩
   |cons x ps Yl=>
    intro own q Ym hown' hol h;have Yl:=fun own q h1 h2 h3=>Yl own q (fun y hy=>Ym y (List.mem_cons_of_mem _ hy)) h1 h2 h3
    have hx:=Ym x (by simp)
    simp only[kN]at h;cases hd:aN x with
    |true=>
     rw[hd]at h;simp only[if_true]at h;exact Yl own q hown' hol h
    |false=>
     rw[hd]at h;simp only[Bool.false_eq_true,if_false]at h
     split at h
     ·simp only[Option.bind_eq_some_iff,Option.map_eq_some_iff]at h;obtain⟨g1,e1,q',e2,e3⟩:=h;obtain⟨a1,m',a2⟩:=Yl _ _ (fun y hy=>hown' y (List.mem_of_mem_drop hy)) (by rw[List.length_drop];have:=xC own (own.length-nP ps);have:=(dQ (own.take (own.length-nP ps))).1;omega) e2
      rw[←e3];simp only[pre];refine⟨fun z hz=> ?_,_,by rw[a2,List.drop_drop]⟩
      rcases List.mem_append.1 hz with hz|hz
      ·have hl:=zJ _ _ _ _ e1;have hml:=fun f' g' hg'=>BU lits binds n x (e+1) f' g' (P.kids x hx).1 (P.kids x hx).2 hd hg'
       obtain⟨k1,k2⟩:=Gs (mM lits binds n x) (dV lits x).length hml _ (iT lits x 1) g1 0 (kW lits x 1) (fun j hj=>by
        have hj':j<(iT lits x 1).length:=by rw[kW];exact hj
        rw[List.getD_eq_getElem?_getD,List.getElem?_eq_getElem hj',Option.getD_some,vK lits x 1 _ (List.getElem_mem _)]
        rfl) e1
       obtain⟨j,hj,rfl⟩:=List.getElem_of_mem hz;have hjd:j<(iT lits x 1).length:=by omega
       have hjN:j<(dV lits x).length:=by rw[←kW lits x 1];exact hjd
       obtain⟨b1,b2,b3,b4,_⟩:=k1 j hjN;rw[List.getD_eq_getElem?_getD,List.getElem?_eq_getElem hj,Option.getD_some]at b1 b2 b3 b4;rw[List.getD_eq_getElem?_getD,List.getElem?_eq_getElem hjd,Option.getD_some]at b1 b2 b3;have hmem:(iT lits x 1)[j]∈iT lits x 1:=List.getElem_mem _;have hnm:=uZ hmem;have c3:=(fF lits x).2 _ hnm;have hV:g1[j].bY=ah:=by rw[b3];exact OU lits x 1 _ hmem
       have hM: ∀(K:Nat) (hK:K<g1[j].aP.length) (hKx:K<(own.take (own.length-nP ps)).length),Gt g1[j].aP[K]∧gv g1[j].aP[K]+1≤cnt (own.take (own.length-nP ps))[K]:=by
        intro K hK hKx;obtain⟨gK,d1,d2⟩:=k2 K hKx;have d3:=d2 j hjN;have hgl:=hml _ _ d1;have hjg:j<gK.length:=by omega
        rw[List.getD_eq_getElem?_getD (l:=g1),List.getElem?_eq_getElem hj,Option.getD_some,Nat.zero_add,List.getD_eq_getElem?_getD,List.getElem?_eq_getElem hK,Option.getD_some,List.getD_eq_getElem?_getD,List.getElem?_eq_getElem hjg,Option.getD_some]at d3;rw[d3];have hyo:(own.take (own.length-nP ps))[K]∈bf f:=hown' _ (List.mem_of_mem_take (List.getElem_mem _));exact one x hx hd _ hyo gK d1 _ (List.getElem_mem _)
       refine⟨?_,?_⟩
       ·rw[mg,hV,b1];refine⟨by have:=(hsub x hx).2;have:=c3.2;omega,by show wid ⟨0,ByteArray.empty,[],0,[]⟩≤_;rw[gU];simp only[bG,List.length_nil,show ByteArray.empty.size=0 from rfl];omega,XH fun y hy=> ?_⟩
        obtain⟨K,hK,rfl⟩:=List.getElem_of_mem hy;exact(hM K hK (by rw[b4]at hK;omega)).1
       ·rw[pJ];have:=Zx g1[j].aP (own.take (own.length-nP ps)) (by rw[b4];omega) fun K k1 k2=>(hM K k1 k2).2
        have:=xC own (own.length-nP ps);have:=(dQ (own.drop (own.length-nP ps))).1;omega
      ·exact a1 z hz
     ·cases own with
      |nil=>cases h
      |cons z0 own=>
       simp only[Option.bind_eq_some_iff,Option.map_eq_some_iff]at h;obtain⟨g1,e1,q',e2,e3⟩:=h;simp only[List.length_cons]at hol;have hz0:=(dm z0).1;simp only[cnts]at hol;obtain⟨a1,m',a2⟩:=Yl _ _ (fun y hy=>hown' y (by simp[hy])) (by omega) e2
       rw[←e3];simp only[pre];refine⟨fun z hz=> ?_,m'+1,a2⟩
       rcases List.mem_append.1 hz with hz|hz
       ·have hzz:=one x hx hd z0 (hown' z0 (by simp)) g1 e1 z hz
        have:=(dQ own).1;exact⟨hzz.1,by omega⟩
       ·exact a1 z hz
  obtain⟨s1,m,s2⟩:=seq (partsOf p) (bf f) q P.sub (fun y hy=>hy) ⟨hown,by have:=XI f;omega⟩ hq
  split at hm
  ·rename_i h4;obtain⟨f1,f2,_⟩:=P.fin h4;simp only[Option.map_eq_some_iff]at hm;obtain⟨g',hg',rfl⟩:=hm;rcases List.mem_append.1 hg with hg|hg
   ·exact s1 g hg
   ·rw[s2]at hg';have hlo:=VV sN m;have hmid:=Gw sN ((bf f).take m) ((bf f).drop m) (List.take_append_drop _ _);have hcm:=(dQ ((bf f).take m)).1;have ZM:wid (gm ((bf f).drop m) (eP f))≤wid f:=by
     by_cases hml:m≤(bf f).length
     ·have:=GI sN (m:Int) (by omega) (by omega)
      rwa [Int.toNat_natCast]at this
     ·have:=GI sN ((bf f).length:Int) (by omega) (by omega)
      rw[Int.toNat_natCast,List.drop_length]at this;rw[List.drop_eq_nil_of_le (by omega)]
      exact this
    exact ih (lastOf p) (e+1) _ d g' (hsub _ f2).1 (P.kids _ f2).1 (by omega) (P.kids _ f2).2 f1 (hsub _ f2).2 (by omega) hlo hd0 hg' g hg|>.imp id fun h=>by omega
  ·injection hm with hm
   rw[←hm]at hg;exact s1 g hg
theorem GK (t:af) (G:GL) (hw:wid t≤2000000) (hG:gW (-1) G=true→iW G):wid (mG t G).1≤1000000000000000000:=by
 have hz:wid ah≤1000000000000000000:=by decide
 unfold mG;cases hok:okb t with
 |false=>exact hz
 |true=>
  simp only[if_true];cases hg:gW (-1) G with
  |false=>exact hz
  |true=>
   simp only[if_true];have hok2:jl t 0=true∧cnt t≤1500:=by unfold okb leB at hok;simpa using hok
   have hcp:=(dm t).1;cases hm:gQ (cnt t).toNat t G with
   |none=>exact hz
   |some x=>
    have hb:=sU _ _ _ _ hok2.1 hw (hG hg) _ hm;have hn:=Ej hcp hok2.2 (jK (hG hg) (dV [] t)).1 (by have:=(jK (hG hg) (dV [] t)).2;have:=oN t;omega)
    dsimp only
    split
    ·show wid x≤_;omega
    ·exact hz
theorem LU (t:af) (G:GL) (h:(mG t G).2=true):okb (mG t G).1=true:=by
 unfold mG at h⊢;cases hok:okb t with
 |false=>rw[hok]at h;simp at h
 |true=>
  cases hg:gW (-1) G with
  |false=>rw[hok,hg]at h;simp at h
  |true=>
   rw[hok,hg]at h;simp only[if_true]at h⊢;cases hm:gQ (cnt t).toNat t G with
   |none=>rw[hm]at h;simp at h
   |some x=>
    rw[hm]at h
    dsimp only at h⊢
    cases hx:okb x with
    |false=>rw[hx]at h;simp at h
    |true=>rw[if_pos rfl];exact hx
theorem Qu {x:af} (h:AX x=true):aN x=false:=by
 rw[OQ,Bool.and_eq_true]at h;have h1:=h.1;simp only[Bool.not_eq_true',decide_eq_false_iff_not]at h1;unfold aN;simp[h1]
theorem AY {m:af→GL→Option af}: ∀l:List af,(∀x∈l,m x []=some x∧aN x=false)→iq m [] 0 l=some l
 | [],_=>rfl
 |x::l,h=>by
  have hx:=h x (by simp)
  have hl:lead l=0:=by
   cases l with
   |nil=>rfl
   |cons y l=>simp only[lead,(h y (by simp)).2,Bool.false_eq_true,if_false]
  have ih:=AY l fun y hy=>h y (List.mem_cons_of_mem _ hy)
  simp only[iq,hx.2,Bool.false_eq_true,if_false,hl,gp,hx.1,Option.map_some,Option.bind_some,ih,List.singleton_append]
theorem LV: ∀(n:Nat) (t:af) (d:Int),cnt t≤(n:Int)→jl t d=true→AX t=true→gQ n t []=some t:=by
 intro n
 induction n with
 |zero=>intro t d h;have:=(dm t).1;omega
 |succ n ih=>
  intro t d hc hok hnd;have hcm:=jh t;have h0:=hnd;rw[OQ,Bool.and_eq_true]at h0;have hks:=yO.1 h0.2;simp only[gQ]
  by_cases h1:t.ak=1
  ·rw[if_pos h1];unfold xu;rw[if_pos (show dM 0 [] t<0 by simp only[dM];omega)]
  rw[if_neg h1]
  by_cases h2:t.ak=2
  ·rw[if_pos h2]
  rw[if_neg h2];have hd:aS t.aj=false:=by
   cases hk:t.aj with
   |nil=>rfl
   |cons y l=>exact Qu (hks y (by rw[hk];simp))
  rw[if_neg (by rw[hd];simp)]
  obtain⟨h3,hok'⟩:(t.ak=3∨(t.ak=4∧2≤(t.aj.length:Int)))∧pO t.aj (d+1)=true:=by
   rcases bU hok with⟨h,_⟩|⟨h,_⟩|h
   ·omega
   ·omega
   ·exact h
  have each: ∀y∈t.aj,gQ n y []=some y∧aN y=false:=fun y hy=>⟨ih y (d+1) (by have:=l_ hy;omega) (gI hok' y hy) (hks y hy),Qu (hks y hy)⟩
  have hsub: ∀y∈partsOf t,y∈t.aj:=by
   intro y hy;unfold partsOf at hy
   split at hy
   ·exact List.mem_of_mem_take hy
   ·exact hy
  rw[AY (partsOf t) fun y hy=>each y (hsub y hy),Option.bind_some]
  have hj:=(Gw hok (bf t) [] (by rw[List.append_nil])).1
  have ho:bf t=partsOf t:=by unfold bf;rw[if_pos (by omega)]
  rw[ho]at hj;rcases h3 with h3|⟨h4,h5⟩
  ·rw[if_neg (by omega)]
   have hp:partsOf t=t.aj:=by unfold partsOf;rw[if_neg (by omega)]
   rw[hp];have:=yF hok h1 h2;rw[h3]at this;exact congrArg some this.symm
  ·rw[if_pos h4];have hl:lastOf t∈t.aj:=by
    have:=ng h5 h4;rw[←this];simp
   rw[(each _ hl).1,Option.map_some];simp only[eP,if_neg (show¬t.ak=3 by omega),if_pos h4,gm]at hj
   exact congrArg some hj
theorem LW (t:af) (hnd:AX t=true):mG t []=(if okb t then t else ah,okb t):=by
 unfold mG;cases hok:okb t with
 |false=>rfl
 |true=>
  have hok2:jl t 0=true∧cnt t≤1500:=by unfold okb leB at hok;simpa using hok
  have hcp:=(dm t).1;rw[LV (cnt t).toNat t 0 (by omega) hok2.1 hnd]
  simp only[if_true,gW,hok]
theorem SI (x:af) (hl:(x.aj.length:Int)≤1000000000) (h:x.ak=4→1≤x.aj.length):Ev (fun k=>wS.f k x) (partsOf x):=by
 simp only[wS.f,partsOf]
 by_cases h4:x.ak=4
 ·have h1:=h h4;simp (disch:=omega) only[if_pos h4,if_pos,eu,List.drop_zero];refine Ev.eq (Ev.now _) ?_;rw[show((x.aj.length:Int)-1).toNat=x.aj.length-1 by omega]
 ·simp only[if_neg h4];exact Ev.now _
def Lk (b:List Int) (p n:Int) (r:af×List Int×Int):Prop:=On b p n r.2∧wid r.1≤n
theorem Qv {b:List Int} (hb:yY b): ∀x:af,OH x=true→ ∀p:Int,0≤p→lk x≤100000000→p+lk x≤1000000000→aH (fun k=>qd.f k x b p) (Lk b p (lk x)):=by
 refine dX fun x ih hsh p h0 hlx hp=> ?_
 have ZM:=iY x;have hlm:=tJ x;have hxp:=aW x;have hks:=vg x.aj;rw[OI,Bool.and_eq_true,Bool.or_eq_true,Bool.not_eq_true',decide_eq_false_iff_not,decide_eq_true_eq]at hsh;obtain⟨hs1,hs2⟩:=hsh;have Yn: ∀q:Int,p≤q→q≤p+5→aH (fun k=>(q7.f k (1:Int) b q).bind fun r2=>some (r2.1,r2.2.1,r2.2.2)) (Lk b p (lk x)):=by
  intro q hq1 hq2;have e9:steps 1=36:=by decide
  have e8:lim 1=44:=by decide
  have hf:=yJ hb 1 (by omega) q (by omega) (by omega)
  rw[e9,e8]at hf;refine aH.bind hf fun r ⟨⟨g1,g2,g3⟩,g4⟩=> ?_
  exact aH.now ⟨⟨g1,by show p≤r.2.2;omega,by show r.2.2≤_;omega⟩,by show wid r.1≤_;omega⟩
 have Yo: ∀q:Int,p≤q→q≤p+5→aH (fun k=>(qu.f k x).bind fun r1=>some ((⟨r1.1,r1.2.1,r1.2.2.2.1,r1.2.2.1,r1.2.2.2.2⟩:af),b,q)) (Lk b p (lk x)):=by
  intro q hq1 hq2;refine aH.bind (aH.of (je x (by omega)) (P:=fun r=>r=(x.ak,x.aG,x.aI,x.aB,x.aj)) rfl) fun r hr=> ?_
  subst hr;exact aH.now ⟨⟨rfl,hq1,by show q≤_;omega⟩,by show wid ⟨x.ak,x.aG,x.aB,x.aI,x.aj⟩≤_;rw[aJ];omega⟩
 refine aH.shift ?_;simp only[qd.f,ay];refine aH.bind (bT 24 hb h0 (by omega)) fun r ⟨g1,_,_,_⟩=> ?_
 rw[g1];simp only;refine aH.ite (fun _=>Yn (p+1) (by omega) (by omega)) fun _=> ?_
 by_cases h1:x.ak=1
 ·simp only[if_pos h1,qd.tu,aJ,ay]
  by_cases ht:x.aG.toList=(ByteArray.mk #[101,108,115,101]).toList
  ·simp only[decide_eq_true ht,if_true];exact Yo (p+1) (by omega) (by omega)
  ·simp only[decide_eq_false ht,Bool.false_eq_true,if_false];exact Yn (p+1) (by omega) (by omega)
 simp only[if_neg h1,qd.tu,aJ,ay,Bool.false_eq_true,if_false]
 by_cases h2:x.ak=2
 ·simp only[if_pos h2];exact Yo (p+1) (by omega) (by omega)
 simp only[if_neg h2];have hpl:((partsOf x).length:Int)≤1000000000:=by
  unfold partsOf;split
  ·rw[List.length_take];omega
  ·omega
 have hsub: ∀y∈partsOf x,y∈x.aj:=by
  intro y hy;unfold partsOf at hy
  split at hy
  ·exact List.mem_of_mem_take hy
  ·exact hy
 refine aH.bind (aH.of (SI x (by omega) (fun h=>hs1.resolve_left (fun n=>n h))) (P:=fun r=>r=partsOf x) rfl) fun r hr=> ?_
 subst hr;have hlast:x.ak=4→jA (partsOf x)+lk (lastOf x)=jA x.aj∧lastOf x∈x.aj:=by
  intro h4;have h1':=hs1.resolve_left (fun n=>n h4)
  have e:=ry (l:=x.aj) (by omega)
  have e2:partsOf x++ [lastOf x]=x.aj:=by simp only[partsOf,if_pos h4,lastOf];exact e
  refine⟨by rw[←e2,kF];simp[jA],dF _ _ _ (by omega) (by omega)⟩
 have hpk:jA (partsOf x)≤jA x.aj:=by
  by_cases h4:x.ak=4
  ·have:=(hlast h4).1;have:=(iY (lastOf x)).2;omega
  ·simp only[partsOf,if_neg h4];exact Int.le_refl _
 have hmem: ∀y∈x.aj,lk y≤jA x.aj:=by
  intro y hy;generalize x.aj=l at hy
  induction l with
  |nil=>cases hy
  |cons z l ihl=>
   have:=(iY z).2;have:=(vg l).2;simp only[jA];rcases List.mem_cons.1 hy with rfl|hy
   ·omega
   ·have:=ihl hy;omega
 have loop:=dG (partsOf x) (P:=fun i suf=> ∀(q:Int) (a:List af),p+1≤q→q+4*jA suf≤p+1+4*jA (partsOf x)→bG a+3*jA suf≤3*jA (partsOf x)→aH (fun k=>qd.l12 k (partsOf x) i b q x.ak x.aj 3 ByteArray.empty [] 0 a) (Lk b p (lk x))) ?_ ?_ (p+1) [] (Int.le_refl _) (by omega) (by simp[bG])
 ·exact loop
 ·intro q a h3 h4 h5;simp only[jA]at h4 h5;have nl: ¬((partsOf x).length:Int)<((partsOf x).length:Int):=Int.lt_irrefl _;have hal:=dO a;refine aH.shift ?_;simp only[qd.l12,if_neg nl]
  by_cases s4:x.ak=4
  ·obtain⟨k1,k2⟩:=hlast s4;have h1':=hs1.resolve_left (fun n=>n s4)
   have w1:IntKind.i64.wrap ((x.aj.length:Int)-1)=(x.aj.length:Int)-1:=eu (by omega) (by omega)
   have c1:0≤(x.aj.length:Int)-1:=by omega
   have c2:(x.aj.length:Int)-1<(x.aj.length:Int):=by omega
   have e1:aF ah x.aj ((x.aj.length:Int)-1)=lastOf x:=rfl;simp only[if_pos s4,qd.NL,w1,if_pos c1,if_pos c2,e1,ay];refine aH.bind (ih (lastOf x) k2 (LH hs2 _ k2) q (by omega) (by omega) (by omega)) fun r ⟨⟨g1,g2,g3⟩,g4⟩=> ?_
   refine aH.bind (aH.of (rH a r.1 (by omega) (by omega)) (P:=fun z=>z=d_ a r.1) rfl) fun z hz=> ?_
   subst hz;have hjw:wid (d_ a r.1)≤1+bG a+wid r.1:=by
    have hp':=aW r.1;unfold d_
    split
    ·omega
    ·split
     ·rw[gU,dh];simp only[List.length_nil,show ByteArray.empty.size=0 from rfl];omega
     ·rw[gU,dh,iD];simp only[List.length_nil,show ByteArray.empty.size=0 from rfl];omega
   exact aH.now ⟨⟨g1,by show p≤r.2.2;omega,by show r.2.2≤_;omega⟩,by show wid (d_ a r.1)≤_;omega⟩
  ·simp only[if_neg s4];refine aH.now ⟨⟨rfl,by show p≤q;omega,by show q≤_;omega⟩,?_⟩
   show wid ⟨3,ByteArray.empty,[],0,a⟩≤_;rw[gU];simp only[List.length_nil,show ByteArray.empty.size=0 from rfl];omega
 ·intro i y t i0 i1 hx hm hl hdr _ ihr q a h3 h4 h5;have hmy:=hsub y hm;have hly:=hmem y hmy;have hgy:=(iY y).2;have hlt:=(vg t).2;simp only[jA]at h4 h5;have hal:=dO a;have w1:IntKind.i64.wrap (i+1)=i+1:=eu (by omega) (by omega)
  have inner: ∀n:Int,n≤3→ ∀(q':Int) (a':List af),p+1≤q'→0≤n→q'+n*lk y+4*jA t≤p+1+4*jA (partsOf x)→bG a'+n*lk y+3*jA t≤3*jA (partsOf x)→aH (fun k=>qd.j18 k (partsOf x) i n b q' x.ak x.aj 3 ByteArray.empty [] 0 a') (Lk b p (lk x)):=by
   intro n;simp only[qd.j18,qd.U9];refine goDown (P:=fun n=>n≤3→ ∀(q':Int) (a':List af),p+1≤q'→0≤n→q'+n*lk y+4*jA t≤p+1+4*jA (partsOf x)→bG a'+n*lk y+3*jA t≤3*jA (partsOf x)→aH (fun k=>qd.lG k (partsOf x) i n b q' x.ak x.aj 3 ByteArray.empty [] 0 a') (Lk b p (lk x))) ?_ ?_ n
   ·intro n hn _ q' a' k1 k2 k3 k4;obtain rfl:n=0:=by omega
    have n0: ¬(0:Int)<0:=by omega
    refine aH.shift ?_;simp only[qd.lG,if_neg n0,w1];exact ihr q' a' k1 (by omega) (by omega)
   ·intro n hn ihn hn3 q' a' k1 k2 k3 k4;have m1:n*lk y=(n-1)*lk y+lk y:=by rw[Int.sub_mul,Int.one_mul];omega
    have m2:0≤(n-1)*lk y:=Int.mul_nonneg (by omega) (by omega)
    have w2:IntKind.i64.wrap (n-1)=n-1:=eu (by omega) (by omega)
    have hal':=dO a';refine aH.shift ?_;simp only[qd.lG,if_pos hn,qd.NK,if_pos i0,if_pos i1,hx,w2,ay];refine aH.bind (ih y hmy (LH hs2 _ hmy) q' (by omega) (by omega) (by omega)) fun r ⟨⟨g1,g2,g3⟩,g4⟩=> ?_
    have hc:a'.length+ [r.1].length≤1759218604441:=by simp only[List.length_singleton];omega
    simp only[if_pos hc];rw[g1];exact ihn (by omega) _ _ (by omega) (by omega) (by omega) (by rw[dh,iD];omega)
  refine aH.shift ?_;simp only[qd.l12,if_pos i1,if_pos i0,hx,w1,ay];refine aH.bind (aH.of (gG y) (P:=fun r=>r=aN y) rfl) fun r hr=> ?_
  subst hr;refine aH.ite (fun _=>ihr q a h3 (by omega) (by omega)) fun _=> ?_
  refine aH.ite (fun hlt1=> ?_) fun _=>inner 1 (by omega) q a h3 (by omega) (by omega) (by omega)
  have c3:0≤i+1:=by omega
  simp only[if_pos c3,if_pos hlt1];refine aH.bind (aH.of (gG _) (P:=fun _=>True) trivial) fun r2 _=> ?_
  refine aH.ite (fun _=> ?_) fun _=>inner 1 (by omega) q a h3 (by omega) (by omega) (by omega)
  refine aH.bind (bT 4 hb (by omega) (by omega)) fun r3 ⟨g1,g2,g3,_⟩=> ?_
  rw[g1];have m3:r3.1*lk y≤3*lk y:=Int.mul_le_mul_of_nonneg_right (by omega) (by omega)
  exact inner r3.1 (by omega) (q+1) a (by omega) (by omega) (by omega) (by omega)
theorem OV {b:List Int} (hb:yY b): ∀(n p:Int) (a:List aO),n≤10→0≤p→p+6*n≤1000000000→(a.length:Int)+n≤10→tZ a→aH (fun k=>Aq.l3 k n b p a) (fun r=>tZ r.2.2):=by
 intro n;refine goDown (P:=fun n=> ∀(p:Int) (a:List aO),n≤10→0≤p→p+6*n≤1000000000→(a.length:Int)+n≤10→tZ a→aH (fun k=>Aq.l3 k n b p a) (fun r=>tZ r.2.2)) ?_ ?_ n
 ·intro i hi p a _ _ _ _ ha;have n0: ¬0<i:=by omega
  refine aH.shift ?_;simp only[Aq.l3,if_neg n0];exact aH.now ha
 ·intro i hi ih p a h10 h0 hp hal ha;have w1:IntKind.i64.wrap (i-1)=i-1:=eu (by omega) (by omega)
  refine aH.shift ?_;simp only[Aq.l3,if_pos hi];refine aH.bind (Qq hb h0 (by omega)) fun r ⟨⟨g1,g2,g3⟩,g4⟩=> ?_
  have hr:=aW r.1;simp only[Aq.NP,w1];refine aH.bind (VJ i.toNat i (by omega) (by omega) (by omega)) fun t ht=> ?_
  have ht:(t.size:Int)≤i+1:=ht;have hs:(ByteArray.mk #[110]).size=1:=rfl;have c1:(ByteArray.mk #[110]).size+t.size≤9223372036854775807:=by rw[hs];omega
  have c2: ∀z:aO,a.length+ [z].length≤2513169434916:=fun z=>by simp only[List.length_singleton];omega
  simp only[if_pos c1,if_pos (c2 _)];rw[g1];refine ih _ _ (by omega) (by omega) (by omega) (by rw[List.length_append,List.length_singleton];omega) ⟨by rw[List.length_append,List.length_singleton];omega,fun x hx=> ?_⟩
  rcases List.mem_append.1 hx with hx|hx
  ·exact ha.2 x hx
  ·rw[List.mem_singleton.1 hx];show(r.1.aB.length:Int)≤_;omega
theorem VW {b:List Int} (hb:yY b) (p:Int) (h0:0≤p) (hp:p≤100000000):aH (fun k=>Aq.f k b p) (fun r=>tZ r.2.2):=by
 simp only[Aq.f];refine aH.bind (bT 6 hb h0 (by omega)) fun r ⟨g1,g2,g3,_⟩=> ?_
 rw[g1];exact OV hb r.1 (p+1) [] (by omega) (by omega) (by omega) (by simp;omega) ⟨by simp,by simp⟩
structure Fin' (lits:List af) (binds:List aO) (o:Option GL) (n1 n2:Int) (r:Bool×List af×List aO×GL×List af×List af):Prop where
 ok:r.1=(lQ o).1
 li:r.2.1=lits
 bi:r.2.2.1=binds
 go:r.2.2.2.1=(lQ o).2
 b1:(r.2.2.2.2.1.length:Int)≤n1
 b2:(r.2.2.2.2.2.length:Int)≤n2
structure SK (lits:List af) (binds:List aO) (o:Option GL) (n1 n2:Int) (r:GL×Bool×List af×List aO×List af×List af):Prop where
 go:r.1=(lQ o).2
 ok:r.2.1=(lQ o).1
 li:r.2.2.1=lits
 bi:r.2.2.2.1=binds
 b1:(r.2.2.2.2.1.length:Int)≤n1
 b2:(r.2.2.2.2.2.length:Int)≤n2
theorem SL (lits:List af): ∀x:af,∀d,∀g∈iT lits x d,g.bY=ah:=by
 refine dX fun x ih d g hg=> ?_
 rw[jX]at hg
 split at hg
 ·split at hg
  ·cases hg
  ·rw[List.mem_singleton.1 hg]
 ·generalize hl:x.aj=l at hg;rw[hl]at ih
  clear hl
  induction l with
  |nil=>simp[gV]at hg
  |cons y l ihl=>
   simp only[gV]at hg;rcases List.mem_append.1 hg with h|h
   ·exact ih y (by simp) _ g h
   ·exact ihl (fun z hz=>ih z (by simp[hz])) h
theorem VX (p:af) (x2:List af) (x11:Int) (h11:0≤x11) (aek:x11≤1000000000) (lits:List af) (binds:List aO) (lk fx:List af) (q:GL×Bool×List af×List aO×List af×List af→Prop):
  ∀(todo done gd g:GL) (i:Int),(done.length:Int)=i→(gd.length:Int)=i→todo.length≤g.length→((done++todo).length:Int)≤1000000000→(∀y∈todo,(y.aP.length:Int)≤1000000000)→
  aH (fun k=>q9.l8 k x2 (x11+1) lits binds p.ak p.aG p.aB p.aI p.aj (done++rD todo g) lk fx) q→
  aH (fun k=>q9.iO k x2 x11 i lits binds p.ak p.aG p.aB p.aI p.aj (done++todo) (gd++g) lk fx) q:=by
 intro todo
 induction todo with
 |nil=>
  intro done gd g i h1 h2 h3 h4 h5 hk;refine aH.shift ?_;rw[List.append_nil]at h4⊢;simp (disch:=omega) only[q9.iO,if_neg,eu];have:rD [] g= []:=by cases g<;>rfl
  rw[this,List.append_nil]at hk;exact hk
 |cons t todo ih=>
  intro done gd g i h1 h2 h3 h4 h5 hk;cases g with
  |nil=>simp at h3
  |cons y g=>
   have ht:=h5 t (by simp)
   have hlen:((done++t::todo).length:Int)=i+1+(todo.length:Int):=by rw[List.length_append,List.length_cons];omega
   have hlen2:((gd++y::g).length:Int)=i+1+(g.length:Int):=by rw[List.length_append,List.length_cons];omega
   have i0:0≤i:=by omega
   refine aH.shift ?_;have e1:(done++t::todo).getD i.toNat az=t:=uH h1;have e2:(gd++y::g).getD i.toNat az=y:=uH h2;rw[hlen]at h4;simp (disch:=first|omega|(simp only[List.length_append,List.length_singleton];omega)) only[q9.iO,q9.Zd,if_pos,e1,e2,ay,uO,D_,hlen,hlen2,Ia h1,eu]
   have:=ih (done++ [{t with aP:=t.aP++ [y]}]) (gd++ [y]) g (i+1) (by rw[List.length_append,List.length_singleton];omega) (by rw[List.length_append,List.length_singleton];omega) (by simpa using h3) (by simp only[List.length_append,List.length_singleton];omega) (fun z hz=>h5 z (by simp[hz])) (by simpa [rD]using hk)
   simpa using this
theorem SN (p:af) (ys:List af) (hys:(ys.length:Int)≤500000000) (lits:List af) (binds:List aO) (m:af→Option GL) (N:Nat) (hN:(N:Int)≤1000000000)
  (hm: ∀f∈ys,∀lk fx:List af,(lk.length:Int)+wid f≤1000000000→(fx.length:Int)+wid f≤1000000000→aH (fun k=>qe.f k p f lits binds lk fx) (Fin' lits binds (m f) ((lk.length:Int)+wid f) ((fx.length:Int)+wid f)))
  (hlen: ∀f g,m f=some g→g.length=N) (n1 n2:Int) (hn1:n1≤1000000000) (hn2:n2≤1000000000):
  ∀(lk fx:List af) (ns:GL),ns.length=N→(∀y∈ns,(y.aP.length:Int)≤0)→(lk.length:Int)+bG ys≤n1→(fx.length:Int)+bG ys≤n2→
  aH (fun k=>q9.l8 k ys 0 lits binds p.ak p.aG p.aB p.aI p.aj ns lk fx) (SK lits binds (kX m ns ys) n1 n2):=by
 have key:=dG ys (P:=fun i suf=> ∀(lk fx:List af) (ns:GL),ns.length=N→(∀y∈ns,(y.aP.length:Int)≤i)→(lk.length:Int)+bG suf≤n1→(fx.length:Int)+bG suf≤n2→aH (fun k=>q9.l8 k ys i lits binds p.ak p.aG p.aB p.aI p.aj ns lk fx) (SK lits binds (kX m ns suf) n1 n2)) ?_ ?_
 ·exact key
 ·intro lk fx ns h1 h2 h3 h4;refine aH.shift ?_;simp (disch:=omega) only[q9.l8,if_neg];simp only[bG]at h3 h4;exact aH.now ⟨rfl,rfl,rfl,rfl,by show(lk.length:Int)≤n1;omega,by show(fx.length:Int)≤n2;omega⟩
 ·intro i x r i0 i1 hx hxm hl _ _ ih lk fx ns h1 h2 h3 h4;simp only[bG]at h3 h4;have hr:=(dO r).1;refine aH.shift ?_;simp (disch:=omega) only[q9.l8,if_pos,hx,ay,aJ];refine aH.bind (hm x hxm lk fx (by omega) (by omega)) ?_
  rintro⟨ok,li,bi,go,lk',TC⟩ ⟨e1,e2,e3,e4,e5,e6⟩;simp only at e1 e2 e3 e4 e5 e6;subst e1 e2 e3 e4;simp only[kX];cases hmx:m x with
  |none=>
   simp only[lQ,Bool.false_eq_true,not_false_eq_true,if_true,Option.bind_none];exact aH.now ⟨rfl,rfl,rfl,rfl,by show(lk'.length:Int)≤n1;omega,by show(TC.length:Int)≤n2;omega⟩
  |some g=>
   simp only[lQ,not_true,if_false,Option.bind_some];have hg:=hlen x g hmx;have:=VX p ys i i0 (by omega) li bi lk' TC (SK li bi (kX m (rD ns g) r) n1 n2) ns [] [] g 0 rfl rfl (by omega) (by simp;omega) (fun y hy=>by have:=h2 y hy;omega) (by
    simp only[List.nil_append];exact ih lk' TC (rD ns g) (by rw[yB];exact h1) (zL i ns g h2) (by omega) (by omega))
   simpa using this
theorem SQ (lits:List af) (binds:List aO) (zI:ug lits) (hl1: ∀x∈lits,x.ak=1) (p:af) (e:Int) (hok:jl p e=true) (hst:l9 p=true) (hw:wid p≤100000000) (hnd:fO [] (dV lits p)=true) (hdt:aN p=false)
  (ys:List af) (hys:(ys.length:Int)≤500000000) (m:af→Option GL)
  (hm: ∀f∈ys,∀lk fx:List af,(lk.length:Int)+wid f≤1000000000→(fx.length:Int)+wid f≤1000000000→aH (fun k=>qe.f k p f lits binds lk fx) (Fin' lits binds (m f) ((lk.length:Int)+wid f) ((fx.length:Int)+wid f)))
  (hlen: ∀f g,m f=some g→g.length=(dV lits p).length) (n1 n2:Int) (hn1:n1≤1000000000) (hn2:n2≤1000000000) (lk fx:List af) (h1:(lk.length:Int)+bG ys≤n1) (h2:(fx.length:Int)+bG ys≤n2):
  aH (fun k=>q9.f k p ys lits binds lk fx) (SK lits binds (kX m (iT lits p 1) ys) n1 n2):=by
 have hf:=fF lits p;refine aH.shift ?_;simp only[q9.f,ay];refine aH.bind (aH.of (pG lits zI hl1 p (by omega)) (P:=fun r=>r=dV lits p) rfl) fun r hr=> ?_
 subst hr;have base:=SN p ys hys lits binds m (dV lits p).length (by omega) hm hlen n1 n2 hn1 hn2 lk fx (iT lits p 1) (kW lits p 1) (fun y hy=>by rw[vK lits p 1 y hy];simp) h1 h2
 have hN:dV lits p=(iT lits p 0).map (fun g=>g.aZ):=(rC lits p 0).symm
 have hS:iT lits p 1=(iT lits p 0).map (sink 1):=Gm lits p 0 1;have key:=dG (dV lits p) (P:=fun i suf=> ∀(gs a:GL),suf=gs.map (fun g=>g.aZ)→a++gs.map (sink 1)=iT lits p 1→(∀g∈gs,g∈iT lits p 0)→(a.length:Int)=i→aH (fun k=>q9.l4 k ys i lits binds p.ak p.aG p.aB p.aI p.aj a (dV lits p) lk fx) (SK lits binds (kX m (iT lits p 1) ys) n1 n2)) ?_ ?_ (iT lits p 0) [] hN (by rw[hS];rfl) (fun g hg=>hg) rfl
 ·exact key
 ·intro gs a hs ha _ _;have:gs= []:=by cases gs with|nil=>rfl|cons x gs=>cases hs
  subst this;simp only[List.map_nil,List.append_nil]at ha;subst ha;refine aH.shift ?_;simp (disch:=omega) only[q9.l4,if_neg];exact base
 ·intro i x r i0 i1 hx hxm hl _ _ ih gs a hs ha hgs hal;cases gs with
  |nil=>cases hs
  |cons g gs=>
   simp only[List.map_cons,List.cons.injEq]at hs;obtain⟨hxg,hr⟩:=hs;have hg0:=hgs g (by simp)
   have hwx:=(hf.2 x hxm).2;have hx':(dV lits p).getD i.toNat ah=x:=hx ah;have hdp:=zN lits p 0 g hg0;refine aH.shift ?_;simp (disch:=omega) only[q9.l4,q9.NP,if_pos,hx',ay,aJ,List.length_singleton,eu];refine aH.bind (aH.of (je x (by omega)) (P:=fun r=>r=(x.ak,x.aG,x.aI,x.aB,x.aj)) rfl) fun r1 hr1=> ?_
   subst hr1;refine aH.bind (aH.of (Gn lits p e hok hst (by omega) hnd g hg0) (P:=fun r=>r=g.bu) rfl|>fun h=>by rw[←hxg]at h;exact h) fun r2 hr2=> ?_
   subst hr2;simp (disch:=omega) only[if_pos,eu,aJ];refine ih gs (a++ [sink 1 g]) hr (by rw[←ha];simp) (fun y hy=>hgs y (by simp[hy])) (by rw[List.length_append,List.length_singleton];omega)|>fun h=> ?_
   have hge:sink 1 g=⟨x,1+g.bu,⟨0,ByteArray.empty,[],0,[]⟩,[]⟩:=by
    have f1:=SL lits p 0 g hg0;have f2:=vK lits p 0 g hg0;unfold sink;rw[f1,f2,←hxg,Int.add_comm]
    rfl
   rw[hge]at h;exact h
theorem Fin'.mono {lits:List af} {binds:List aO} {o:Option GL} {n1 n2 m1 m2:Int} {r:Bool×List af×List aO×GL×List af×List af} (h:Fin' lits binds o n1 n2 r) (h1:n1≤m1) (h2:n2≤m2):Fin' lits binds o m1 m2 r:=
 ⟨h.ok,h.li,h.bi,h.go,Int.le_trans h.b1 h1,Int.le_trans h.b2 h2⟩
theorem VY (parts own:List af) (rep more:Int) (lits:List af) (binds:List aO) (ps:Int) (pk:List af) (F:af) (m:af→af→Option GL)
  (hown:(own.length:Int)≤500000000) (hpl:(parts.length:Int)≤500000000) (hrep:Vt parts rep) (hd1:bM parts≤1) (hd0:aS parts=false) (hmore:0≤rep→more=(own.length:Int)-((parts.length:Int)-2))
  (hm: ∀p∈parts,aN p=false→ ∀f∈own,∀lk fx:List af,(lk.length:Int)+wid f≤1000000000→(fx.length:Int)+wid f≤1000000000→aH (fun k=>qe.f k p f lits binds lk fx) (Fin' lits binds (m p f) ((lk.length:Int)+wid f) ((fx.length:Int)+wid f)))
  (hn: ∀p∈parts,aN p=false→ ∀ys:List af,(∀y∈ys,y∈own)→(ys.length:Int)≤500000000→ ∀(n1 n2:Int) (lk fx:List af),n1≤1000000000→n2≤1000000000→(lk.length:Int)+bG ys≤n1→(fx.length:Int)+bG ys≤n2→aH (fun k=>q9.f k p ys lits binds lk fx) (SK lits binds (kX (m p) (iT lits p 1) ys) n1 n2))
  (hlen: ∀p∈parts,aN p=false→ ∀f g,m p f=some g→g.length=(dV lits p).length)
  (hs:((dY lits parts).length:Int)≤500000000) (E:GL×List af→Option GL) (C T1 T2:Int) (hC:0≤C) (hT1:T1≤1000000000) (hT2:T2≤1000000000)
  (hend: ∀(at':Int) (a1:GL) (lk fx:List af),0≤at'→at'≤(own.length:Int)→(a1.length:Int)≤1000000000→(lk.length:Int)+bG (own.drop at'.toNat)+C≤T1→(fx.length:Int)+bG (own.drop at'.toNat)+C≤T2→
   aH (fun k=>q6.iO k parts own rep more at' (parts.length:Int) lits binds ps pk F.ak F.aG F.aB F.aI F.aj a1 lk fx) (Fin' lits binds (E (a1,own.drop at'.toNat)) T1 T2))
  (hle:(nP parts:Int)-bM parts≤(own.length:Int)) (lk fx:List af) (hlk:(lk.length:Int)+bG own+C≤T1) (hfx:(fx.length:Int)+bG own+C≤T2):
  aH (fun k=>q6.iO k parts own rep more 0 0 lits binds ps pk F.ak F.aG F.aB F.aI F.aj [] lk fx) (Fin' lits binds ((kN m (EH lits) parts own).bind E) T1 T2):=by
 have key:=dG parts (P:=fun i suf=>bM suf≤1→ ∀(at':Int) (a1:GL) (lk fx:List af),0≤at'→at'≤(own.length:Int)→(aS suf=false→1≤bM suf→at'=i)→(nP suf:Int)-(if aS suf=true then 0 else bM suf)≤(own.length:Int)-at'→(a1.length:Int)+((dY lits suf).length:Int)≤1000000000→
  (lk.length:Int)+bG (own.drop at'.toNat)+C≤T1→(fx.length:Int)+bG (own.drop at'.toNat)+C≤T2→
  aH (fun k=>q6.iO k parts own rep more at' i lits binds ps pk F.ak F.aG F.aB F.aI F.aj a1 lk fx) (Fin' lits binds ((kN m (EH lits) suf (own.drop at'.toNat)).bind fun q=>E (pre a1 q)) T1 T2)) ?_ ?_ hd1 0 [] lk fx (by omega) (by omega) (fun _ _=>rfl) (by rw[hd0];simp;omega) (by simp;omega) (by simpa using hlk) (by simpa using hfx)
 ·simpa [pre]using key
 ·intro _ at' a1 lk fx h2 h3 _ _ h6 h7 h8;simp only[kN,Option.bind_some,pre,List.append_nil];exact hend at' a1 lk fx h2 h3 (by simp only[dY,List.length_nil]at h6;omega) h7 h8
 ·intro i x t i0 i1 hx hxm hl hdr _ ih hds at' a1 lk fx h2 h3 h4 h5 h6 h7 h8;have hdp:=(jr t).1;have hit:=hrep.hit i x t i0 hdr;have hnp:=yA t;have hwd:=dO (own.drop at'.toNat);have irr:i<(parts.length:Int):=i1;refine aH.shift ?_;cases Bv:aN x with
  |true=>
   simp only[bM,nP,aS,Bv,if_true]at hds h4 h5;simp only[dY,La lits Bv,List.nil_append]at h6;have hz:aS t=false:=qH (zK (by omega))
   simp only[q6.iO,if_pos i1,if_pos i0,hx,ay];refine aH.bind (aH.of (gG x) (P:=fun r=>r=aN x) rfl) fun r hr=> ?_
   subst hr;simp (disch:=omega) only[Bv,if_true,eu];have:=ih (by omega) at' a1 lk fx h2 h3 (fun _ h=>by omega) (by rw[hz];simp;omega) h6 h7 h8
   simpa only[kN,Bv,if_true]using this
  |false=>
   simp only[bM,nP,aS,Bv,Bool.false_eq_true,if_false]at hds h4 h5;simp only[dY,List.length_append]at h6;have h4:=h4 trivial;simp only[q6.iO,if_pos i1,if_pos i0,hx,ay];refine aH.bind (aH.of (gG x) (P:=fun r=>r=aN x) rfl) fun r hr=> ?_
   subst hr;simp only[Bv,Bool.false_eq_true,if_false];cases hdt:aS t with
   |true=>
    obtain⟨dd,r,ht⟩: ∃dd r,t=dd::r:=by
     cases t with
     |nil=>simp[aS]at hdt
     |cons dd r=>exact⟨dd,r,rfl⟩
    have hdd:aN dd=true:=by rw[ht]at hdt;exact hdt
    have hir:i=rep:=hit.2 hdt;have h1t:1≤bM t:=by
     have:=(jr r).1;rw[ht];simp only[bM,hdd,if_true];omega
    have hai:at'=i:=h4 (by omega)
    have hmo:=hmore (by omega)
    have hm0:0≤more:=by omega
    have hrl:(own.drop at'.toNat).length-nP t=more.toNat:=by
     rw[List.length_drop];omega
    have e1:IntKind.i64.wrap (at'+more)=at'+more:=eu (by omega) (by omega)
    have e2:at'≤at'+more:=by omega
    have e3:at'+more≤(own.length:Int):=by omega
    have e4:IntKind.i64.wrap (i+1)=i+1:=eu (by omega) (by omega)
    simp only[if_pos hir,if_pos i0,if_pos h2,e1,if_pos e2,if_pos e3,e4];have hsl:(own.take (at'+more).toNat).drop at'.toNat=(own.drop at'.toNat).take more.toNat:=by
     rw[List.drop_take]
     congr 1
     omega
    rw[hsl];have hwa:=dh ((own.drop at'.toNat).take more.toNat) ((own.drop at'.toNat).drop more.toNat);rw[List.take_append_drop]at hwa;have hw0:=(dO ((own.drop at'.toNat).drop more.toNat)).1;have hw1:=(dO ((own.drop at'.toNat).take more.toNat)).1;have hdrop:own.drop (at'+more).toNat=(own.drop at'.toNat).drop more.toNat:=by
     rw[List.drop_drop];congr 1;omega
    refine aH.bind (hn x hxm Bv ((own.drop at'.toNat).take more.toNat) (fun y hy=>List.mem_of_mem_drop (List.mem_of_mem_take hy)) (by rw[List.length_take,List.length_drop];omega) ((lk.length:Int)+bG ((own.drop at'.toNat).take more.toNat)) ((fx.length:Int)+bG ((own.drop at'.toNat).take more.toNat)) lk fx (by omega) (by omega) (Int.le_refl _) (Int.le_refl _)) ?_
    rintro⟨go,ok,li,bi,lk',TC⟩ ⟨r1,r2,r3,r4,r5,r6⟩;simp only at r1 r2 r3 r4 r5 r6;subst r3 r4;simp only[kN,Bv,hdt,Bool.false_eq_true,if_false,if_true,hrl];cases hmm:kX (m x) (iT li x 1) ((own.drop at'.toNat).take more.toNat) with
    |none=>
     rw[hmm]at r1 r2;have r1:go= []:=r1;have r2:ok=false:=r2;subst r1 r2;simp only[Bool.false_eq_true,not_false_eq_true,if_true,Option.bind_none];exact aH.now ⟨rfl,rfl,rfl,rfl,by show(lk'.length:Int)≤T1;omega,by show(TC.length:Int)≤T2;omega⟩
    |some g=>
     rw[hmm]at r1 r2;have r1:go=g:=r1;have r2:ok=true:=r2;subst r1 r2;have hg:=zJ _ _ _ _ hmm;rw[kW]at hg;simp only[lQ,not_true,if_false,Option.bind_some];have hc:a1.length+go.length≤733007751850:=by omega
     simp only[if_pos hc];have:=ih (by omega) (at'+more) (a1++go) lk' TC (by omega) e3 (fun h=>by rw[hdt]at h;cases h) (by rw[hdt];simp;omega) (by rw[List.length_append];omega) (by rw[hdrop];omega) (by rw[hdrop];omega)
     rw[hdrop]at this;cases hse:kN m (EH li) t ((own.drop at'.toNat).drop more.toNat) with
     |none=>rw[hse]at this;simpa only[Option.bind_none,Option.map_none]using this
     |some q=>rw[hse]at this;simpa only[Option.bind_some,Option.map_some,pre,List.append_assoc]using this
   |false=>
    have hir: ¬i=rep:=fun e=>by rw[hit.1 e]at hdt;cases hdt
    have hlt:at'<(own.length:Int):=by
     by_cases z:1≤bM t
     ·have:=Vx hdt z;omega
     ·omega
    have hdo:=BR (d:=ah) (l:=own) h2 hlt;have hym:aF ah own at'∈own:=dF _ _ _ h2 hlt;generalize hy:aF ah own at'=y at hdo hym;rw[hdo]at h7 h8;simp only[bG]at h7 h8;have hwr:=(dO (own.drop (at'.toNat+1))).1;have e1:IntKind.i64.wrap (at'+1)=at'+1:=eu (by omega) (by omega)
    have e4:IntKind.i64.wrap (i+1)=i+1:=eu (by omega) (by omega)
    simp only[if_neg hir,if_pos i0,if_pos h2,if_pos hlt,hy,e1,e4];refine aH.bind (hm x hxm Bv y hym lk fx (by omega) (by omega)) ?_
    rintro⟨ok,li,bi,go,lk',TC⟩ ⟨r1,r2,r3,r4,r5,r6⟩;simp only at r1 r2 r3 r4 r5 r6;subst r2 r3;rw[hdo];simp only[kN,Bv,hdt,Bool.false_eq_true,if_false];cases hmx:m x y with
    |none=>
     rw[hmx]at r1 r4;have r1:ok=false:=r1;have r4:go= []:=r4;subst r1 r4;simp only[Bool.false_eq_true,not_false_eq_true,if_true,Option.bind_none];exact aH.now ⟨rfl,rfl,rfl,rfl,by show(lk'.length:Int)≤T1;omega,by show(TC.length:Int)≤T2;omega⟩
    |some g=>
     rw[hmx]at r1 r4;have r1:ok=true:=r1;have r4:go=g:=r4;subst r1 r4;have hg:=hlen x hxm Bv y go hmx;simp only[not_true,if_false,Option.bind_some];have hc:a1.length+go.length≤733007751850:=by omega
     simp only[if_pos hc];have:=ih (by omega) (at'+1) (a1++go) lk' TC (by omega) (by omega) (fun _ h=>by have:=h4 (by omega);omega) (by rw[hdt];simp;omega) (by rw[List.length_append];omega) (by rw[show(at'+1).toNat=at'.toNat+1 by omega];omega) (by rw[show(at'+1).toNat=at'.toNat+1 by omega];omega)
     rw[show(at'+1).toNat=at'.toNat+1 by omega]at this
     cases hse:kN m (EH li) t (own.drop (at'.toNat+1)) with
     |none=>rw[hse]at this;simpa only[Option.bind_none,Option.map_none]using this
     |some q=>rw[hse]at this;simpa only[Option.bind_some,Option.map_some,pre,List.append_assoc]using this
theorem Es {α:Type} {g h:Nat→Option α} {r:α} (h1:Ev g r) (h2:Ev h r):Ev (fun k=>same2 (g k) (h k)) r:=by
 obtain⟨a,ha⟩:=h1;obtain⟨b,hb⟩:=h2;exact⟨max a b,fun k hk=>MO (ha k (by omega)) (hb k (by omega))⟩
theorem LX (binds:List aO) (hb:tZ binds) (p f:af) (h1:p.ak=1) (f1:f.ak=1) (hp:(p.aB.length:Int)≤1000000000) (hf:(f.aB.length:Int)≤1000000000):Ev (fun k=>NQ.f k binds p f) (D8 binds p f):=by
 simp only[NQ.f,ay,D8];refine Ev.bind (find_spec binds hb p hp h1) ?_;refine Ev.bind (find_spec binds hb f hf f1) ?_;generalize D7 binds p.aG p.aB=a;generalize D7 binds f.aG f.aB=b;unfold st2 NQ.j5
 by_cases a2:a.2=2
 ·simp only[if_pos a2];refine Ev.eq (Ev.now _) ?_;simp[a2]
 by_cases b2:b.2=2
 ·simp only[if_neg a2,if_pos b2];refine Ev.eq (Ev.now _) ?_;simp[b2]
 by_cases e:a.2=b.2
 ·simp only[if_neg a2,if_neg b2,if_neg (bg e)]
  by_cases a1:a.2=1
  ·have b1:b.2=1:=by omega
   by_cases n:a.1.toList=b.1.toList
   ·simp only[if_pos a1,if_pos n];refine Ev.eq (Ev.now _) ?_;simp[a1,b1,n]
   ·have a0: ¬a.2=0:=by omega
    simp only[if_pos a1,if_neg n,if_neg a0];refine Ev.eq (Ev.now _) ?_;simp[a1,b1];exact fun h=>n h.symm
  ·by_cases a0:a.2=0
   ·have b0:b.2=0:=by omega
    simp only[if_neg a1,if_pos a0];refine Ev.eq (Ev.now _) ?_;simp[a0,b0,eq_comm]
   ·simp only[if_neg a1,if_neg a0];refine Ev.eq (Ev.now _) ?_;simp[a1,a0]
 ·simp only[if_neg a2,if_neg b2,if_pos e];refine Ev.eq (Ev.now _) ?_
  by_cases a1:a.2=1
  ·have b1: ¬b.2=1:=by omega
   simp[a1,b1]
  ·by_cases a0:a.2=0
   ·have b0: ¬b.2=0:=by omega
    simp[a0,b0]
   ·simp[a1,a0]
def iE (f:af):af:=if f.ak=3∨f.ak=4 then f else⟨4,ByteArray.empty,[],0,[f]⟩
theorem OW {f:af} {d:Int} (hok:jl f d=true) (hw:wid f≤500000000):Ev (fun k=>wS.f k (iE f)) (bf f):=by
 unfold iE bf;rcases bU hok with⟨h,_⟩|⟨h,_⟩|⟨h,_⟩
 ·have n: ¬(f.ak=3∨f.ak=4):=by omega
  simp (disch:=simp) only[if_neg n,wS.f,if_pos,List.length_singleton,List.drop_zero];exact Ev.now _
 ·have n: ¬(f.ak=3∨f.ak=4):=by omega
  simp (disch:=simp) only[if_neg n,wS.f,if_pos,List.length_singleton,List.drop_zero];exact Ev.now _
 ·have y:f.ak=3∨f.ak=4:=by omega
  simp only[if_pos y];exact pF f (by omega) h
theorem SS {f:af} {d:Int} (hok:jl f d=true) (hw:wid f≤500000000) (at':Int) (h0:0≤at') (h1:at'≤((bf f).length:Int)):Ev (fun k=>q22.f k (iE f) at') (gm ((bf f).drop at'.toNat) (eP f)):=by
 have hp:=aW f;rcases bU hok with⟨h,_⟩|⟨h,_⟩|⟨h,_⟩
 ·have n: ¬(f.ak=3∨f.ak=4):=by omega
  have n3: ¬f.ak=3:=by omega
  have n4: ¬f.ak=4:=by omega
  have ho:bf f= []:=by unfold bf;rw[if_neg n]
  rw[ho]at h1;have:at'=0:=by simp at h1;omega
  subst this;simp only[ho,iE,if_neg n,eP,if_neg n3,if_neg n4,gm,d_,List.drop_nil,List.length_nil,if_true,q22.f,List.length_singleton,ay];exact Ev.now _
 ·have n: ¬(f.ak=3∨f.ak=4):=by omega
  have n3: ¬f.ak=3:=by omega
  have n4: ¬f.ak=4:=by omega
  have ho:bf f= []:=by unfold bf;rw[if_neg n]
  rw[ho]at h1;have:at'=0:=by simp at h1;omega
  subst this;simp only[ho,iE,if_neg n,eP,if_neg n3,if_neg n4,gm,d_,List.drop_nil,List.length_nil,if_true,q22.f,List.length_singleton,ay];exact Ev.now _
 ·have y:f.ak=3∨f.ak=4:=by omega
  have ho:bf f=partsOf f:=by unfold bf;rw[if_pos y]
  have hfull:f.aj.take (f.aj.length:Int).toNat=f.aj:=by rw[Int.toNat_natCast,List.take_length]
  have c2:(f.aj.length:Int)≤(f.aj.length:Int):=Int.le_refl _;rw[ho]at h1⊢;rcases h with h3|⟨h4,h5⟩
  ·have n4: ¬f.ak=4:=by omega
   simp only[partsOf,if_neg n4]at h1⊢;simp (disch:=first|omega|(simp only[List.length_nil,List.length_drop];omega)) only[iE,if_pos y,q22.f,if_neg n4,q22.d3,eP,if_pos h3,gm,if_pos,hfull,List.nil_append]
   rw[h3];exact Ev.now _
  ·have n3: ¬f.ak=3:=by omega
   have hks:=ng h5 h4;have hpl:(partsOf f).length=f.aj.length-1:=by
    simp only[partsOf,if_pos h4,List.length_take];omega
   simp (disch:=omega) only[iE,if_pos y,q22.f,if_pos h4,eP,if_neg n3,gm,eu,d_]
   by_cases hl:(f.aj.length:Int)≤at'+1
   ·have hz:((partsOf f).drop at'.toNat).length=0:=by rw[List.length_drop];omega
    simp (disch:=omega) only[if_pos hl,if_pos,ay,if_pos hz];exact Ev.now _
   ·have hz: ¬((partsOf f).drop at'.toNat).length=0:=by rw[List.length_drop];omega
    have hls:=lK hok h4;have n: ¬((lastOf f).ak=3∨(lastOf f).ak=4):=by omega
    simp (disch:=first|omega|(simp only[List.length_nil,List.length_drop];omega)) only[if_neg hl,if_neg hz,if_neg n,q22.d3,if_pos,hfull,List.nil_append]
    have hd:f.aj.drop at'.toNat=(partsOf f).drop at'.toNat++ [lastOf f]:=by
     rw[←hks,List.drop_append_of_le_length (by omega)]
    rw[hd,h4];exact Ev.now _
theorem LY {f:af} {d:Int} (hok:jl f d=true) (at':Int) (h0:0≤at') (h1:at'≤((bf f).length:Int)):wid (gm ((bf f).drop at'.toNat) (eP f))≤bG ((bf f).drop at'.toNat)+(wid f-bG (bf f))∧0≤wid f-bG (bf f):=by
 have hp:=aW f;have hq:=nX f;rcases bU hok with⟨h,_⟩|⟨h,_⟩|⟨h,_⟩
 ·have n: ¬(f.ak=3∨f.ak=4):=by omega
  have n3: ¬f.ak=3:=by omega
  have n4: ¬f.ak=4:=by omega
  simp[bf,if_neg n,eP,if_neg n3,if_neg n4,gm,d_,bG];omega
 ·have n: ¬(f.ak=3∨f.ak=4):=by omega
  have n3: ¬f.ak=3:=by omega
  have n4: ¬f.ak=4:=by omega
  simp[bf,if_neg n,eP,if_neg n3,if_neg n4,gm,d_,bG];omega
 ·have y:f.ak=3∨f.ak=4:=by omega
  have ho:bf f=partsOf f:=by unfold bf;rw[if_pos y]
  rw[ho];rcases h with h3|⟨h4,h5⟩
  ·have n4: ¬f.ak=4:=by omega
   simp only[partsOf,if_neg n4,eP,if_pos h3,gm];rw[gU];simp;omega
  ·have n3: ¬f.ak=3:=by omega
   have hks:=ng h5 h4;have hw:bG f.aj=bG (partsOf f)+wid (lastOf f):=by rw[←hks,dh,iD]
   have:=rF ((partsOf f).drop at'.toNat) (lastOf f);have:=lY (lastOf f);simp only[eP,if_neg n3,if_pos h4,gm];omega
theorem vO {lits:List af}: ∀{l:List af} {s:List af},fO s (dY lits l)=true→ ∀x∈l,fO [] (dV lits x)=true
 |y::l,s,h,x,hx=>by
  simp only[dY]at h;rw[lZ,Bool.and_eq_true]at h;rcases List.mem_cons.1 hx with rfl|hx
  ·exact xq _ _ _ (by simp) h.1
  ·exact vO h.2 x hx
theorem Et (lits:List af) (binds:List aO) (zI:ug lits) (hl1: ∀x∈lits,x.ak=1) (hb:tZ binds): ∀(n:Nat) (p:af) (e:Int) (f:af),cnt p≤(n:Int)→jl p e=true→l9 p=true→fO [] (dV lits p)=true→(p.ak=3∨p.ak=4→ ∃d,jl f d=true)→wid p≤100000000→wid f≤300000000→
  ∀lk fx:List af,(lk.length:Int)+wid f≤1000000000→(fx.length:Int)+wid f≤1000000000→aH (fun k=>qe.f k p f lits binds lk fx) (Fin' lits binds (mM lits binds n p f) ((lk.length:Int)+wid f) ((fx.length:Int)+wid f)):=by
 intro n
 induction n with
 |zero=>intro p e f hc;have:=(dm p).1;omega
 |succ n ih=>
  intro p e f hc hok hst hnd hf hwp hwf lk fx hlk hfx;have hpp:=aW p;have hpf:=aW f;have hfp:=lY f;refine aH.shift ?_;have isB:aH (fun k=>I4.f k p) (fun r=>r=fE p):=aH.of (xg p) rfl
  by_cases h1:p.ak=1
  ·simp only[qe.f,if_pos h1,ay,mM,KZ];refine aH.bind (aH.of (pq lits p zI hl1 h1) (P:=fun r=>r=inB lits p) rfl) fun r hr=> ?_
   subst hr;simp only[qe.NR];cases inB lits p with
   |true=>
    simp only[if_true]
    by_cases f1:f.ak=1
    ·have g1:lk.length+1≤1759218604441:=by omega
     have g2:fx.length+1≤1759218604441:=by omega
     have g3:(0:Int)≤(lk.length:Int):=by omega
     have g4:(0:Int)≤(fx.length:Int):=by omega
     have g5: ∀z:af,(lk.length:Int)<((lk++ [z]).length:Int):=fun z=>by simp;omega
     have g6: ∀z:af,(fx.length:Int)<((fx++ [z]).length:Int):=fun z=>by simp;omega
     simp only[if_neg (bg f1),if_pos f1,qe.d4,qe.d5,qe.d6,List.length_singleton,if_pos g1,if_pos g2,if_pos g3,if_pos g4,if_pos (g5 _),if_pos (g6 _),D_,aJ];refine aH.bind (aH.of (LX binds hb p f h1 f1 (by omega) (by omega)) (P:=fun r=>r=D8 binds p f) rfl) fun r hr=> ?_
     subst hr;cases D8 binds p f with
     |true=>exact aH.now ⟨rfl,rfl,rfl,rfl,by show((lk++ [f]).length:Int)≤_;simp;omega,by show((fx++ [p]).length:Int)≤_;simp;omega⟩
     |false=>exact aH.now ⟨rfl,rfl,rfl,rfl,by show((lk++ [f]).length:Int)≤_;simp;omega,by show((fx++ [p]).length:Int)≤_;simp;omega⟩
    ·simp only[if_pos f1,if_neg f1];exact aH.now ⟨rfl,rfl,rfl,rfl,by show(lk.length:Int)≤_;omega,by show(fx.length:Int)≤_;omega⟩
   |false=>
    simp only[Bool.false_eq_true,if_false,aJ];refine aH.bind isB fun r hr=> ?_
    subst hr;cases fE p with
    |true=>
     simp only[if_true];exact aH.now ⟨rfl,rfl,rfl,rfl,by show(lk.length:Int)≤_;omega,by show(fx.length:Int)≤_;omega⟩
    |false=>
     simp only[Bool.false_eq_true,if_false,if_pos h1,qe.d10,aJ];refine aH.bind (aH.of (je p (by omega)) (P:=fun r=>r=(p.ak,p.aG,p.aI,p.aB,p.aj)) rfl) fun r hr=> ?_
     subst hr;refine aH.bind (aH.of (je f (by omega)) (P:=fun r=>r=(f.ak,f.aG,f.aI,f.aB,f.aj)) rfl) fun r hr=> ?_
     subst hr;simp only[aJ];exact aH.now ⟨rfl,rfl,rfl,rfl,by show(lk.length:Int)≤_;omega,by show(fx.length:Int)≤_;omega⟩
  have nb:fE p=false:=by unfold fE;rw[decide_eq_false h1];rfl
  simp only[qe.f,if_neg h1,qe.NR,Bool.false_eq_true,if_false,aJ];refine aH.bind isB fun r hr=> ?_
  rw[nb]at hr;subst hr;simp only[Bool.false_eq_true,if_false]
  by_cases h2:p.ak=2
  ·simp only[if_pos h2,qe.d12,mM,if_neg h1]
   by_cases f2:f.ak=2
   ·simp only[if_pos f2]
    by_cases t:f.aG.toList=p.aG.toList
    ·simp only[if_pos t,decide_eq_true t];exact aH.now ⟨rfl,rfl,rfl,rfl,by show(lk.length:Int)≤_;omega,by show(fx.length:Int)≤_;omega⟩
    ·simp only[if_neg t,decide_eq_false t];exact aH.now ⟨rfl,rfl,rfl,rfl,by show(lk.length:Int)≤_;omega,by show(fx.length:Int)≤_;omega⟩
   ·simp only[if_neg f2];exact aH.now ⟨rfl,rfl,rfl,rfl,by show(lk.length:Int)≤_;omega,by show(fx.length:Int)≤_;omega⟩
  simp only[if_neg h2];have P:=Vz lits hok hst h1 h2;obtain⟨d,sN⟩:=hf (by have:=P.sh;omega)
  have acI:=yA (partsOf p);have hdp:=(jr (partsOf p)).1;have Le: ∀y∈bf f,jl y (d+1)=true∧wid y≤300000000:=by
   intro y hy;unfold bf at hy
   split at hy
   ·rename_i hs;have hmem:y∈f.aj:=by
     unfold partsOf at hy
     split at hy
     ·exact List.mem_of_mem_take hy
     ·exact hy
    have hwy:=bZ hmem;rcases bU sN with⟨h',_⟩|⟨h',_⟩|⟨_,h'⟩
    ·omega
    ·omega
    ·exact⟨gI h' y hmem,by omega⟩
   ·cases hy
  have hown:((bf f).length:Int)≤500000000:=by
   unfold bf
   split
   ·unfold partsOf
    split
    ·rw[List.length_take];omega
    ·omega
   ·simp
  have hrep:=IG P.one P.head;have hrs:=Lj (partsOf p) (by have:=P.XB;omega) P.one P.head
  generalize rE 0 (-1) (partsOf p)=rep at hrep hrs;have hpl:=P.XB;have hpw:=P.aa9;have hnm:=(xk lits (partsOf p)).1;have hck:cnt p=1+cnts p.aj:=jh p;have Zy:fO [] (dY lits p.aj)=true:=by rw[iQ,if_neg h1]at hnd;exact hnd
  have hsub: ∀x∈p.aj,cnt x≤(n:Int)∧wid x≤100000000:=fun x hx=>⟨by have:=l_ hx;omega,by have:=bZ hx;omega⟩
  have Gl: ∀x∈p.aj,aN x=false→ ∀f' g,mM lits binds n x f'=some g→g.length=(dV lits x).length:=fun x hx hd f' g hg=>BU lits binds n x (e+1) f' g (P.kids x hx).1 (P.kids x hx).2 hd hg
  have hm: ∀x∈partsOf p,aN x=false→ ∀y∈bf f,∀lk fx:List af,(lk.length:Int)+wid y≤1000000000→(fx.length:Int)+wid y≤1000000000→aH (fun k=>qe.f k x y lits binds lk fx) (Fin' lits binds (mM lits binds n x y) ((lk.length:Int)+wid y) ((fx.length:Int)+wid y)):=by
   intro x hx hd y hy lk fx g1 g2;have hx':=P.sub x hx;exact ih x (e+1) y (hsub x hx').1 (P.kids x hx').1 (P.kids x hx').2 (vO Zy x hx') (fun _=>⟨d+1,(Le y hy).1⟩) (hsub x hx').2 (Le y hy).2 lk fx g1 g2
  have hpr:=pF p (by omega) P.sh
  have hFs:(iE f).ak=3↔f.ak=3:=by
   unfold iE
   split
   ·exact Iff.rfl
   ·constructor
    ·intro h;cases h
    ·intro h;omega
  have acV:=(LY sN 0 (by omega) (by omega)).2
  have fine:badL p f=false→ ∀more:Int,(0≤rep→more=((bf f).length:Int)-(((partsOf p).length:Int)-2))→aH (fun k=>q6.iO k (partsOf p) (bf f) rep more 0 0 lits binds p.ak p.aj (iE f).ak (iE f).aG (iE f).aB (iE f).aI (iE f).aj [] lk fx) (Fin' lits binds (mM lits binds (n+1) p f) ((lk.length:Int)+wid f) ((fx.length:Int)+wid f)):=by
   intro hbad more hmore;have hle:(nP (partsOf p):Int)-bM (partsOf p)≤((bf f).length:Int):=by
    unfold badL at hbad;simp only[Bool.or_eq_false_iff,decide_eq_false_iff_not]at hbad;have:=hbad.2.1;unfold least at this;omega
   have hres:mM lits binds (n+1) p f=(kN (mM lits binds n) (EH lits) (partsOf p) (bf f)).bind fun q=>if p.ak=4 then(mM lits binds n (lastOf p) (gm q.2 (eP f))).map (q.1++ ·) else some q.1:=by
    simp only[mM,if_neg h1,if_neg h2,D9,hbad,Bool.false_eq_true,if_false]
   rw[hres];refine VY (partsOf p) (bf f) rep more lits binds p.ak p.aj (iE f) (mM lits binds n) hown (by omega) hrep P.one P.head hmore hm ?_ (fun x hx hd f' g hg=>Gl x (P.sub x hx) hd f' g hg) (by omega) _ (wid f-bG (bf f)) _ _ acV hlk hfx ?_ hle lk fx (by omega) (by omega)
   ·intro x hx hd ys hys acW n1 n2 lk fx g1 g2 g3 g4;have hx':=P.sub x hx;exact SQ lits binds zI hl1 x (e+1) (P.kids x hx').1 (P.kids x hx').2 (hsub x hx').2 (vO Zy x hx') hd ys acW (mM lits binds n x) (fun y hy=>hm x hx hd y (hys y hy)) (fun f' g hg=>Gl x hx' hd f' g hg) n1 n2 g1 g2 lk fx g3 g4
   ·intro at' a1 lk' TC g1 g2 g3 g4 g5;have nl: ¬((partsOf p).length:Int)<((partsOf p).length:Int):=Int.lt_irrefl _;refine aH.shift ?_;have hwd:=(dO ((bf f).drop at'.toNat)).1;have ZM:=(LY sN at' g1 g2).1;have hdl:=dh ((bf f).take at'.toNat) ((bf f).drop at'.toNat);rw[List.take_append_drop]at hdl;have ael:=(dO ((bf f).take at'.toNat)).1
    by_cases s3:p.ak=3
    ·have n4: ¬p.ak=4:=by omega
     simp only[q6.iO,if_neg nl,if_pos s3,if_neg n4];exact aH.now ⟨rfl,rfl,rfl,rfl,by show(lk'.length:Int)≤_;omega,by show(TC.length:Int)≤_;omega⟩
    ·have s4:p.ak=4:=by have:=P.sh;omega
     obtain⟨l1,l2,l3,_⟩:=P.fin s4;have hkl:2≤(p.aj.length:Int):=by have:=P.sh;omega
     have hrest:=SS sN (by omega) at' g1 g2
     have hlast:aF ah p.aj ((p.aj.length:Int)-1)=lastOf p:=rfl;obtain⟨r,hr,hev⟩:=ih (lastOf p) (e+1) (gm ((bf f).drop at'.toNat) (eP f)) (hsub _ l2).1 (P.kids _ l2).1 (P.kids _ l2).2 (vO Zy _ l2) (fun h=>by omega) (hsub _ l2).2 (by omega) lk' TC (by omega) (by omega)
     obtain⟨ok,li,bi,go,lk2,fx2⟩:=r;obtain⟨r1,r2,r3,r4,r5,r6⟩:=hr;simp only at r1 r2 r3 r4 r5 r6;have w1:IntKind.i64.wrap ((p.aj.length:Int)-1)=(p.aj.length:Int)-1:=eu (by omega) (by omega)
     have c1:0≤(p.aj.length:Int)-1:=by omega
     have c2:(p.aj.length:Int)-1<(p.aj.length:Int):=by omega
     simp only[q6.iO,if_neg nl,if_neg s3,if_pos s4,q6.Ze,q6.NS,q6.NT,w1,if_pos c1,if_pos c2,hlast,ay,aJ];have hgl:=Gl (lastOf p) l2 l1 (gm ((bf f).drop at'.toNat) (eP f));have hnl:=(fF lits (lastOf p)).1;have hwl:=(hsub _ l2).2;generalize mM lits binds n (lastOf p) (gm ((bf f).drop at'.toNat) (eP f))=o at r1 r4 hgl;subst r2 r3;cases o with
     |none=>
      have r1:ok=false:=r1;have r4:go= []:=r4;subst r1 r4;refine⟨(false,li,bi,[],lk2,fx2),⟨rfl,rfl,rfl,rfl,by show(lk2.length:Int)≤_;omega,by show(fx2.length:Int)≤_;omega⟩,Es ?_ ?_⟩
      ·refine Ev.bind hrest ?_;refine Ev.bind hev ?_;simp only[Bool.false_eq_true,not_false_eq_true,if_true];exact Ev.now _
      ·refine Ev.bind hrest ?_;refine Ev.bind hev ?_;simp only[Bool.false_eq_true,not_false_eq_true,if_true];exact Ev.now _
     |some g=>
      have r1:ok=true:=r1;have r4:go=g:=r4;subst r1 r4;have hg:=hgl go rfl;have hc:a1.length+go.length≤733007751850:=by omega
      refine⟨(true,li,bi,a1++go,lk2,fx2),⟨rfl,rfl,rfl,rfl,by show(lk2.length:Int)≤_;omega,by show(fx2.length:Int)≤_;omega⟩,Es ?_ ?_⟩
      ·refine Ev.bind hrest ?_;refine Ev.bind hev ?_;simp only[not_true,if_false,if_pos hc];exact Ev.now _
      ·refine Ev.bind hrest ?_;refine Ev.bind hev ?_;simp only[not_true,if_false,if_pos hc];exact Ev.now _
  have fail:badL p f=true→aH (fun _=>some (false,lits,binds,([]:GL),lk,fx)) (Fin' lits binds (mM lits binds (n+1) p f) ((lk.length:Int)+wid f) ((fx.length:Int)+wid f)):=by
   intro hbad;have hres:mM lits binds (n+1) p f=none:=by
    simp only[mM,if_neg h1,if_neg h2,D9,hbad,if_true]
   rw[hres];exact aH.now ⟨rfl,rfl,rfl,rfl,by show(lk.length:Int)≤_;omega,by show(fx.length:Int)≤_;omega⟩
  have chk: ∀more:Int,(0≤rep→more=((bf f).length:Int)-(((partsOf p).length:Int)-2))→(rep<0→more=0)→aH (fun k=>q6.j9 k (partsOf p) (bf f) rep more lits binds p.ak p.aj (iE f).ak (iE f).aG (iE f).aB (iE f).aI (iE f).aj lk fx) (Fin' lits binds (mM lits binds (n+1) p f) ((lk.length:Int)+wid f) ((fx.length:Int)+wid f)):=by
   intro more hm1 hm2;have fin:=fun h=>fine h more hm1
   have hpos:=hrep.pos;have hone:=P.one;simp only[q6.j9,q6.j9b,q6.tY,if_true,Bool.false_eq_true,if_false]
   by_cases s3:p.ak=3
   ·by_cases f3:f.ak=3
    ·have F3:(iE f).ak=3:=hFs.2 f3;simp only[if_pos s3,if_neg (bg F3)]
     by_cases c:rep<0
     ·have z:bM (partsOf p)=0:=by omega
      have hm:=hm2 c;have hl:least p=((partsOf p).length:Int):=by unfold least;omega
      have hbad:badL p f=(decide (((bf f).length:Int)<((partsOf p).length:Int))||decide (((partsOf p).length:Int)<((bf f).length:Int))):=by
       unfold badL;rw[hl];simp[s3,f3,z]
      have n0: ¬more<0:=by omega
      simp only[if_pos c,if_neg n0]
      by_cases c1:((bf f).length:Int)<((partsOf p).length:Int)
      ·simp only[if_pos c1];exact fail (by rw[hbad];simp[c1])
      ·simp only[if_neg c1]
       by_cases c2:((partsOf p).length:Int)<((bf f).length:Int)
       ·simp only[decide_eq_true c2,if_true];exact fail (by rw[hbad];simp[c2])
       ·simp only[decide_eq_false c2,Bool.false_eq_true,if_false];exact fin (by rw[hbad,decide_eq_false c1,decide_eq_false c2];rfl)
     ·have z: ¬bM (partsOf p)=0:=by omega
      have hm:=hm1 (by omega)
      have hl:least p=((partsOf p).length:Int)-2:=by unfold least;omega
      have hbad:badL p f=decide (((bf f).length:Int)<((partsOf p).length:Int)-2):=by
       unfold badL;rw[hl];simp[s3,f3,z]
      simp only[if_neg c]
      by_cases c1:more<0
      ·simp only[if_pos c1];exact fail (by rw[hbad];simp;omega)
      ·simp only[if_neg c1];exact fin (by rw[hbad];simp;omega)
    ·have F3: ¬(iE f).ak=3:=fun h=>f3 (hFs.1 h)
     have hbad:badL p f=true:=by unfold badL;simp[s3,f3]
     simp only[if_pos s3,if_pos F3,ite_self];exact fail hbad
   ·have hbad:badL p f=decide (((bf f).length:Int)<least p):=by
     unfold badL;simp[s3]
    simp only[if_neg s3]
    by_cases c:rep<0
    ·have hm:=hm2 c;have n0: ¬more<0:=by omega
     have hl:least p=((partsOf p).length:Int):=by unfold least;omega
     simp only[if_pos c,if_neg n0]
     by_cases c1:((bf f).length:Int)<((partsOf p).length:Int)
     ·simp only[if_pos c1];exact fail (by rw[hbad,hl];simp[c1])
     ·simp only[if_neg c1];exact fin (by rw[hbad,hl,decide_eq_false c1])
    ·have hm:=hm1 (by omega)
     have hl:least p=((partsOf p).length:Int)-2:=by unfold least;omega
     simp only[if_neg c]
     by_cases c1:more<0
     ·simp only[if_pos c1];exact fail (by rw[hbad,hl];simp;omega)
     ·simp only[if_neg c1];exact fin (by rw[hbad,hl];simp;omega)
  have body:aH (fun k=>q6.j3 k lits binds p.ak p.aG p.aB p.aI p.aj (iE f).ak (iE f).aG (iE f).aB (iE f).aI (iE f).aj lk fx) (Fin' lits binds (mM lits binds (n+1) p f) ((lk.length:Int)+wid f) ((fx.length:Int)+wid f)):=by
   simp only[q6.j3,q6.BK,aJ];refine aH.bind (aH.of hpr (P:=fun r=>r=partsOf p) rfl) fun r hr=> ?_
   subst hr;refine aH.bind (aH.of (OW sN (by omega)) (P:=fun r=>r=bf f) rfl) fun r hr=> ?_
   subst hr;refine aH.bind (aH.of (r:=rep) ?_ (P:=fun r=>r=rep) rfl) fun r hr=> ?_
   ·simp only[q16.f,ay];exact Ev.bind hpr hrs
   subst hr;have hpos:=hrep.pos
   by_cases c:0≤r
   ·have w1:IntKind.i64.wrap (((partsOf p).length:Int)-2)=((partsOf p).length:Int)-2:=eu (by omega) (by omega)
    have w2:IntKind.i64.wrap (((bf f).length:Int)-(((partsOf p).length:Int)-2))=((bf f).length:Int)-(((partsOf p).length:Int)-2):=eu (by omega) (by omega)
    simp only[if_pos c,w1,w2];exact chk _ (fun _=>rfl) (fun h=>by omega)
   ·simp only[if_neg c];exact chk 0 (fun h=>by omega) (fun _=>rfl)
  have list:aH (fun k=>q6.f k p f lits binds lk fx) (Fin' lits binds (mM lits binds (n+1) p f) ((lk.length:Int)+wid f) ((fx.length:Int)+wid f)):=by
   refine aH.shift ?_
   by_cases f3:f.ak=3
   ·have hw:iE f=f:=by unfold iE;rw[if_pos (Or.inl f3)]
    rw[hw]at body;simp only[q6.f,if_neg (bg f3)];exact body
   ·by_cases f4:f.ak=4
    ·have hw:iE f=f:=by unfold iE;rw[if_pos (Or.inr f4)]
     rw[hw]at body;simp only[q6.f,if_pos f3,if_neg (bg f4)];exact body
    ·have hw:iE f=⟨4,ByteArray.empty,[],0,[f]⟩:=by unfold iE;rw[if_neg (by omega)]
     rw[hw]at body;simp only[q6.f,if_pos f3,if_pos f4,ay];exact body
  refine aH.bind list fun r hr=> ?_
  exact aH.now ⟨hr.ok,hr.li,hr.bi,hr.go,hr.b1,hr.b2⟩
theorem mX {p:af} {lits:List af} (h:sK p lits=true):okb p=true∧aN p=false∧l9 p=true∧fO [] (dV lits p)=true∧(∀x∈lits,x.ak=1):=by
 unfold sK at h;simp only[Bool.and_eq_true,Bool.not_eq_true']at h;refine⟨h.1,h.2.2.1,h.2.2.2.1,h.2.2.2.2,fun x hx=> ?_⟩
 have:=List.all_eq_true.1 h.2.1 x hx;unfold ru at this;simp only[Bool.and_eq_true,decide_eq_true_eq]at this;exact this.1
def gJ (lits:List af) (binds:List aO) (p f:af):Bool×GL:=
 if sK p lits then(if okb f then lQ (mM lits binds (cnt p).toNat p f) else(false,[])) else(false,[])
theorem EU (p f:af) (lits:List af) (binds:List aO) (hp:wid p≤1000000) (hf:wid f≤1000000) (hl:ug lits) (hb:tZ binds):Ev (fun k=>Va.f k p lits f binds) (gJ lits binds p f):=by
 simp only[Va.f,ay,gJ];refine Ev.bind (pI p lits (by omega) hl) ?_
 cases hpb:sK p lits with
 |false=>simp only[Bool.false_eq_true,not_false_eq_true,if_true,if_false];exact Ev.now _
 |true=>
  simp only[not_true,if_false,if_true];refine Ev.bind (iL f (by omega)) ?_
  cases hfb:okb f with
  |false=>simp only[Bool.false_eq_true,not_false_eq_true,if_true,if_false];exact Ev.now _
  |true=>
   simp only[not_true,if_false,if_true];obtain⟨h1,h2,h3,h4,h5⟩:=mX hpb;have hp2:jl p 0=true∧cnt p≤1500:=by unfold okb leB at h1;simpa using h1
   have hf2:jl f 0=true∧cnt f≤1500:=by unfold okb leB at hfb;simpa using hfb
   have hc:=(dm p).1;obtain⟨r,hr,hev⟩:=Et lits binds hl h5 hb (cnt p).toNat p 0 f (by omega) hp2.1 h3 h4 (fun _=>⟨0,hf2.1⟩) (by omega) (by omega) [] [] (by simp;omega) (by simp;omega)
   refine Ev.bind hev ?_;rw[hr.ok,hr.go];exact Ev.now _
def LZ:af:=⟨1,ByteArray.mk #[46,46,46],[],0,[]⟩
theorem zY:wid LZ=4:=by unfold LZ;rw[gU];rfl
theorem SX {b:List Int} {q n:Int}: ∀m:Int,∀a t (sc:List Int) d ks,0≤m→m≤100→1+(ByteArray.size t:Int)+(sc.length:Int)+bG ks+5*m≤n→aH (fun k=>qh.l5 k m b q a t sc d ks) (fun r=>r.2=(b,q)∧wid r.1≤n):=by
 refine goDown (P:=fun m=> ∀a t (sc:List Int) d ks,0≤m→m≤100→1+(ByteArray.size t:Int)+(sc.length:Int)+bG ks+5*m≤n→aH (fun k=>qh.l5 k m b q a t sc d ks) (fun r=>r.2=(b,q)∧wid r.1≤n)) ?_ ?_
 ·intro i hi a t sc d ks h0 h1 h2;refine aH.shift ?_;simp (disch:=omega) only[qh.l5,if_neg];exact aH.now ⟨rfl,by show wid ⟨a,t,sc,d,ks⟩≤n;rw[gU];omega⟩
 ·intro i hi ih a t sc d ks h0 h1 h2;refine aH.shift ?_;simp (disch:=omega) only[qh.l5,if_pos,eu];refine ih 3 ByteArray.empty [] 0 _ (by omega) (by omega) ?_
  have:=zY;simp only[bG,List.length_nil,show ByteArray.empty.size=0 from rfl]
  change 1+((0:Nat):Int)+((0:Nat):Int)+(wid ⟨a,t,sc,d,ks⟩+(wid LZ+0))+5*(i-1)≤n
  rw[gU];omega
def tst:Nat→Int
 |0=>12
 |d+1=>3*(tst d+1)+20
def L6:Nat→Int
 |0=>122000
 |d+1=>3*(L6 d+4)+122100
theorem acX (d:Nat):12≤tst d∧122000≤L6 d:=by
 induction d with
 |zero=>decide
 |succ d ih=>simp only[tst,L6];omega
def TmN (p:af) (x2:List af):Prop:=(x2.length:Int)≤1000000000∧ ∀j:Int,0≤j→j<(x2.length:Int)→wid (aF ah x2 j)≤121600∧ ∃d:Int,0≤d∧d≤60∧Ev (fun k=>qw.f k p (aF ah x2 j)) d
def acY (b:List Int) (p:af) (x2:List af) (d:Nat):Prop:= ∀q:Int,0≤q→q+tst d≤100000000000→aH (fun k=>qh.f k p x2 (d:Int) b q) (fun r=>On b q (tst d) r.2∧wid r.1≤L6 d)
theorem GM {b:List Int} (hb:yY b) {p:af} {x2:List af} (hN:TmN p x2) (hl:0<(x2.length:Int)) (x3 q:Int) (h0:0≤q) (hq:q≤100000000100):
  aH (fun k=>qh.NR k (qh.f k) (qh.Ey k) x2 x3 true b q p.ak p.aG p.aB p.aI p.aj) (fun r=>On b q 1 r.2∧wid r.1≤122000):=by
 simp only[qh.NR,if_true,aJ,ay];refine aH.bind (bT (x2.length:Int) hb h0 (by omega)) fun r ⟨g1,g2,g3,_⟩=> ?_
 have g3:=g3 (by omega)
 obtain⟨n1,d,n2,n3,n4⟩:=hN.2 r.1 g2 g3;have hw:=nX (aF ah x2 r.1);simp only[if_pos g2,if_pos g3];refine aH.bind (aH.of n4 (P:=fun z=>z=d) rfl) fun z hz=> ?_
 subst hz;rw[g1];refine(SX (n:=122000) z _ _ _ _ _ n2 (by omega) (by omega)).mono ?_
 rintro s ⟨s1,s2⟩;exact⟨⟨by rw[s1],by rw[s1];show q≤q+1;omega,by rw[s1];show q+1≤q+1;omega⟩,s2⟩
theorem GN {b:List Int} (hb:yY b) {p:af} {x2:List af} (hN:TmN p x2) (q:Int) (h0:0≤q) (hq:q≤100000000090):aH (fun k=>qh.f k p x2 0 b q) (fun r=>On b q 12 r.2∧wid r.1≤122000):=by
 refine aH.shift ?_;simp only[qh.f]
 by_cases hl:0<(x2.length:Int)
 ·simp (disch:=omega) only[if_pos hl,if_pos];exact(GM hb hN hl 0 q h0 (by omega)).mono fun r ⟨⟨a,c,e⟩,f⟩=>⟨⟨a,c,by omega⟩,f⟩
 ·simp (disch:=omega) only[if_neg hl,qh.NR,Bool.false_eq_true,if_false,if_pos,ay];have h9:steps 0=9:=by decide
  have h8:lim 0=10:=by decide
  refine aH.bind (yJ hb 0 (by omega) q h0 (by omega)) fun r ⟨⟨g1,g2,g3⟩,g4⟩=> ?_
  exact aH.now ⟨⟨g1,g2,by show r.2.2≤_;omega⟩,by show wid r.1≤_;omega⟩
theorem XJ {b:List Int} (hb:yY b) {p:af} {x2:List af} (hN:TmN p x2): ∀d:Nat,d≤2→acY b p x2 d:=by
 intro d
 induction d with
 |zero=>intro _ q h0 hq;simp only[tst]at hq;exact GN hb hN q h0 (by omega)
 |succ d ih=>
  intro hd q h0 hq;simp only[tst]at hq;have ih:=ih (by omega)
  have hge:=acX d;have hst:tst d≤100∧L6 d≤1000000:=by
   have:d=0∨d=1:=by omega
   rcases this with h|h<;>subst h<;>decide
  have e1:((d+1:Nat):Int)=(d:Int)+1:=by omega
  have w2:IntKind.i64.wrap ((d:Int)+1-1)=(d:Int):=by rw[eu (by omega) (by omega)];omega
  have body: ∀q':Int,q≤q'→q'≤q+1→aH (fun k=>qh.NR k (qh.f k) (qh.Ey k) x2 ((d:Int)+1) false b q' p.ak p.aG p.aB p.aI p.aj) (fun r=>On b q (tst (d+1)) r.2∧wid r.1≤L6 (d+1)):=by
   intro q' q1 q2;simp (disch:=omega) only[qh.NR,Bool.false_eq_true,if_false,if_neg];refine aH.bind (bT 4 hb (by omega) (by omega)) fun r ⟨g1,g2,g3,_⟩=> ?_
   have g3:=g3 (by omega)
   rw[g1];refine goDown (P:=fun i=> ∀(s:Int) (a:List af),0≤i→i≤3→q'+1≤s→s≤q'+1+(3-i)*(tst d+1)→bG a≤(3-i)*(L6 d+4)→(a.length:Int)≤2*(3-i)→aH (fun k=>qh.Ey k x2 ((d:Int)+1) i b s p.ak p.aG p.aB p.aI p.aj 3 ByteArray.empty [] 0 a) (fun r=>On b q (tst (d+1)) r.2∧wid r.1≤L6 (d+1))) ?_ ?_ r.1 (q'+1) [] g2 (by omega) (by omega) ?_ ?_ ?_
   ·intro i hi s a i0 i3 s1 s2 s3 s4;obtain rfl:i=0:=by omega
    refine aH.shift ?_;simp (disch:=omega) only[qh.Ey,if_neg];refine aH.bind (bT 10 hb (by omega) (by omega)) fun t ⟨k1,_,_,_⟩=> ?_
    rw[k1];have hla:=dO a;refine aH.ite (fun _=> ?_) (fun _=>aH.ite (fun _=> ?_) (fun _=> ?_))
    ·refine aH.now ⟨⟨rfl,by show q≤s+1;omega,by show s+1≤_;simp only[tst];omega⟩,?_⟩
     have:=zY;show wid ⟨3,ByteArray.empty,[],0,[LZ,⟨3,ByteArray.empty,[],0,a⟩]⟩≤_;simp only[gU,bG,this,L6,List.length_nil,show ByteArray.empty.size=0 from rfl];omega
    ·simp only[qh.NL,aJ,ay];refine aH.bind (GN hb hN (s+1) (by omega) (by omega)) fun z ⟨⟨z1,z2,z3⟩,z4⟩=> ?_
     refine aH.bind (aH.of (rH a z.1 (by omega) (by omega)) (P:=fun y=>y=d_ a z.1) rfl) fun y hy=> ?_
     subst hy;have:=rF a z.1;exact aH.now ⟨⟨z1,by show q≤z.2.2;omega,by show z.2.2≤_;simp only[tst];omega⟩,by show wid (d_ a z.1)≤_;simp only[L6];omega⟩
    ·exact aH.now ⟨⟨rfl,by show q≤s+1;omega,by show s+1≤_;simp only[tst];omega⟩,by show wid ⟨3,ByteArray.empty,[],0,a⟩≤_;simp only[gU,L6,List.length_nil,show ByteArray.empty.size=0 from rfl];omega⟩
   ·intro i hi ihi s a i0 i3 s1 s2 s3 s4;have m1:(3-(i-1))*(tst d+1)=(3-i)*(tst d+1)+(tst d+1):=by rw[show 3-(i-1)=(3-i)+1 by omega,Int.add_mul,Int.one_mul]
    have m2:(3-(i-1))*(L6 d+4)=(3-i)*(L6 d+4)+(L6 d+4):=by rw[show 3-(i-1)=(3-i)+1 by omega,Int.add_mul,Int.one_mul]
    have u1:(3-i)*(tst d+1)≤2*(tst d+1):=Int.mul_le_mul_of_nonneg_right (by omega) (by omega)
    refine aH.shift ?_;simp (disch:=omega) only[qh.Ey,if_pos,qh.Zf,aJ,ay,w2,eu];refine aH.bind (ih s (by omega) (by omega)) fun z ⟨⟨z1,z2,z3⟩,z4⟩=> ?_
    have l1:a.length+ [z.1].length≤1759218604441:=by simp only[List.length_singleton];omega
    have l2: ∀y:af,(a++ [z.1]).length+ [y].length≤1759218604441:=fun y=>by simp only[List.length_append,List.length_singleton];omega
    simp only[if_pos l1];rw[z1];refine aH.bind (bT 6 hb (by omega) (by omega)) fun t ⟨k1,_,_,_⟩=> ?_
    rw[k1];refine aH.ite (fun _=> ?_) (fun _=> ?_)
    ·simp only[if_pos (l2 _)];refine ihi _ _ (by omega) (by omega) (by show _≤z.2.2+1;omega) (by show z.2.2+1≤_;omega) ?_ ?_
     ·have:=zY;show bG ((a++ [z.1])++ [LZ])≤_;rw[dh,dh,iD,iD];omega
     ·simp only[List.length_append,List.length_singleton];omega
    ·refine ihi _ _ (by omega) (by omega) (by show _≤z.2.2+1;omega) (by show z.2.2+1≤_;omega) ?_ ?_
     ·rw[dh,iD];omega
     ·simp only[List.length_append,List.length_singleton];omega
   ·have:0≤(3-r.1)*(tst d+1):=Int.mul_nonneg (by omega) (by omega)
    omega
   ·have:0≤(3-r.1)*(L6 d+4):=Int.mul_nonneg (by omega) (by omega)
    simp only[bG];omega
   ·simp only[List.length_nil];omega
  refine aH.shift ?_;simp only[qh.f,e1]
  by_cases hl:0<(x2.length:Int)
  ·simp (disch:=omega) only[if_pos hl,if_neg];refine aH.bind (bT 3 hb h0 (by omega)) fun r ⟨g1,_,_,_⟩=> ?_
   rw[g1]
   by_cases hz:r.1=0
   ·rw[decide_eq_true hz];exact(GM hb hN hl ((d:Int)+1) (q+1) (by omega) (by omega)).mono fun s ⟨⟨a,c,e⟩,f⟩=>⟨⟨a,by omega,by simp only[tst];omega⟩,by simp only[L6];omega⟩
   ·rw[decide_eq_false hz];exact body (q+1) (by omega) (by omega)
  ·simp only[if_neg hl];exact body q (by omega) (by omega)
def FiS (r:af×GL):Prop:=wid r.1≤2000000∧(r.2.length:Int)≤1000000000∧(∀g∈r.2,Gt g)∧(∀g∈r.2,gv g≤1500)
theorem yQ (lits:List af) (binds:List aO) (p f:af) (hp:wid p≤2000000) (hf:wid f≤2000000):((gJ lits binds p f).2.length:Int)≤1000000000∧(∀g∈(gJ lits binds p f).2,Gt g)∧(∀g∈(gJ lits binds p f).2,gv g≤1500):=by
 unfold gJ;cases hpb:sK p lits with
 |false=>simp
 |true=>
  simp only[if_true];cases hfb:okb f with
  |false=>simp
  |true=>
   simp only[if_true];cases hm:mM lits binds (cnt p).toNat p f with
   |none=>simp[lQ]
   |some gs=>
    obtain⟨h1,h2,h3,h4,h5⟩:=mX hpb;have hp2:jl p 0=true∧cnt p≤1500:=by unfold okb leB at h1;simpa using h1
    have hf2:jl f 0=true∧cnt f≤1500:=by unfold okb leB at hfb;simpa using hfb
    have hc:=(dm p).1;have hs:=SH lits binds (cnt p).toNat p 0 f 0 gs (by omega) hp2.1 (by omega) h3 h2 hp hf hf2.1 (by omega) hm
    have hl:=BU lits binds (cnt p).toNat p 0 f gs hp2.1 h3 h2 hm;have hn:=(fF lits p).1;simp only[lQ];exact⟨by omega,fun g hg=>(hs g hg).1,fun g hg=>by have:=(hs g hg).2;omega⟩
theorem L8 {p:af} (hok:jl p 0=true) (hl:lk p≤486232) (h0:p.aj= []→lk p≤160): ∀y∈dV [] p,wid y≤121600:=by
 intro y hy;have hlk:=tJ p;have hww:=(iY p).1
 by_cases hk:p.aj= []
 ·have:=h0 hk;have:=((fF [] p).2 y hy).2;omega
 ·rw[iQ]at hy
  by_cases h1:p.ak=1
  ·rw[if_pos h1]at hy;rcases bU hok with⟨_,k⟩|⟨_,k⟩|⟨h',_⟩
   ·exact absurd k hk
   ·exact absurd k hk
   ·omega
  ·rw[if_neg h1]at hy;have key: ∀l:List af,∀z∈dY [] l,wid z≤bG l:=by
    intro l
    induction l with
    |nil=>intro z hz;simp only[dY]at hz;cases hz
    |cons a l ih=>
     intro z hz;simp only[dY]at hz;have h1:=(dO l).1;have h2:=(dm a);simp only[bG];rcases List.mem_append.1 hz with hz|hz
     ·have:=((fF [] a).2 z hz).2;omega
     ·have:=ih z hz;omega
   have:=key _ y hy;have:=(vg p.aj).1;have:0≤(p.aG.size:Int):=by omega
   omega
theorem Zz {p:af} (hpb:sK p []=true) (hl:lk p≤486232) (h0:p.aj= []→lk p≤160):TmN p (dV [] p):=by
 have hww:=(iY p).1;have hn:=(fF [] p).1;obtain⟨h1,h2,h3,h4,h5⟩:=mX hpb;have hp2:jl p 0=true∧cnt p≤1500:=by unfold okb leB at h1;simpa using h1
 refine⟨by omega,fun j j0 j1=>⟨L8 hp2.1 hl h0 _ (dF _ _ _ j0 j1),?_⟩⟩
 obtain⟨m,rfl⟩:=Int.eq_ofNat_of_zero_le j0;have hm:m<(dV [] p).length:=by omega
 rw[g_ _ _ m hm];have hm':m<(iT [] p 0).length:=by rw[kW];exact hm
 have hg:(iT [] p 0)[m]∈iT [] p 0:=List.getElem_mem _;have e:(dV [] p)[m]=(iT [] p 0)[m].aZ:=by
  have:=congrArg (fun l=>l[m]?) (rC [] p 0)
  simp only[List.getElem?_map,List.getElem?_eq_getElem hm',List.getElem?_eq_getElem hm,Option.map_some,Option.some.injEq]at this;exact this.symm
 rw[e];have d1:=zN [] p 0 _ hg;have d2:=OT [] p 0 hp2.1 0 _ hg;exact⟨_,d1.1,by omega,Gn [] p 0 hp2.1 h3 (by omega) h4 _ hg⟩
theorem L9 (l:List Int) (hl: ∀x∈l,0≤x∧x≤255):aH (fun k=>qz.f k l) FiS:=by
 simp only[qz.f];refine aH.bind (IL l hl) fun r ⟨hb,h0⟩=> ?_
 obtain⟨b,p⟩:=r;simp only at hb h0;subst h0;have e1:EF 3=171:=by decide
 have e2:ET 3=53:=by decide
 have e3:IM 3=486232:=by decide
 have e4:tst 2=200:=by decide
 have e5:L6 2≤2000000:=by decide
 have e6:steps 2=117:=by decide
 have e7:lim 2=180:=by decide
 refine goUp 6 (P:=fun i=> ∀q:Int,0≤i→i≤6→0≤q→q≤i*600000→aH (fun k=>qz.l3 k i b q) FiS) ?_ ?_ 0 0 (by omega) (by omega) (by omega) (by omega)
 ·intro i hi q i0 i6 q0 q1;refine aH.shift ?_;simp (disch:=omega) only[qz.l3,if_neg,ay];refine aH.bind (yJ hb 2 (by omega) q q0 (by omega)) fun r ⟨_,g4⟩=> ?_
  exact aH.now ⟨by show wid r.1≤_;omega,by simp,by simp,by simp⟩
 ·intro i hi ih q i0 i6 q0 q1;refine aH.shift ?_;simp (disch:=omega) only[qz.l3,if_pos,qz.NP,aJ,ay,eu];refine aH.bind (Zu hb 3 (by omega) q 0 (by omega) (by omega) (by omega) (by omega)) ?_
  rintro⟨pt,b1,p1,cs⟩ ⟨r1,r2,r3,_,r4,r5,r6⟩;simp only at r1 r2 r3 r4 r5 r6;subst r1;have ZM:=iY pt
  dsimp only
  refine aH.bind (Qv hb pt r5 p1 (by omega) (by omega) (by omega)) ?_
  rintro⟨f,b2,p2⟩ ⟨⟨s1,s2,s3⟩,s4⟩;simp only at s1 s2 s3 s4;subst s1
  dsimp only
  refine aH.bind (aH.of (EU pt f [] [] (by omega) (by omega) ⟨by simp,by simp⟩ ⟨by simp,by simp⟩) (P:=fun z=>z=gJ [] [] pt f) rfl) fun z hz=> ?_
  subst hz;obtain⟨m1,m2,m3⟩:=yQ [] [] pt f (by omega) (by omega)
  cases hm:(gJ [] [] pt f).1 with
  |false=>
   simp only[Bool.false_eq_true,if_false];exact ih p2 (by omega) (by omega) (by omega) (by omega)
  |true=>
   simp only[if_true];have hpb:sK pt []=true:=by
    unfold gJ at hm;cases h:sK pt []with
    |true=>rfl
    |false=>rw[h]at hm;simp at hm
   generalize (gJ [] [] pt f).2=G at m1 m2 m3;simp only[qz.d8,aJ];refine aH.bind (aH.of (pG [] ⟨by simp,by simp⟩ (by simp) pt (by omega)) (P:=fun z=>z=dV [] pt) rfl) fun z hz=> ?_
   subst hz;refine aH.bind (XJ hb (Zz hpb (by omega) r6) 2 (by omega) p2 (by omega) (by omega)) ?_
   rintro⟨t,b3,p3⟩ ⟨⟨t1,t2,t3⟩,t4⟩;simp only at t1 t2 t3 t4;subst t1
   dsimp only
   refine aH.bind (bT 4 hb (by omega) (by omega)) fun r ⟨g1,_,_,_⟩=> ?_
   rw[g1];have fin: ∀(y:af) (s:Int),0≤s→s≤10000000→wid y≤2000000→aH (fun k=>qz.j11 k b3 s G y.ak y.aG y.aB y.aI y.aj) FiS:=by
    intro y s s0 s1 hy;simp only[qz.j11,aJ,ay];refine aH.bind (bT 16 hb (by omega) (by omega)) fun r ⟨g1,_,_,_⟩=> ?_
    rw[g1];have base:aH (fun _:Nat=>some (y,G)) FiS:=aH.now ⟨hy,m1,m2,m3⟩
    refine aH.ite (fun _=> ?_) (fun _=>base)
    by_cases hG:(0:Int)<(G.length:Int)
    ·simp only[if_pos hG];refine aH.bind (bT 4 hb (by omega) (by omega)) fun u _=> ?_
     cases G with
     |nil=>simp at hG
     |cons g G=>
      have h2:=m2 g (by simp)
      have h3:=m3 g (by simp)
      rw[mg]at h2;rw[pJ]at h3;refine aH.now ⟨hy,by rw[List.length_set];exact m1,fun x hx=> ?_,fun x hx=> ?_⟩
      ·simp only[List.set_cons_zero,List.getD_cons_zero]at hx;rcases List.mem_cons.1 hx with rfl|hx
       ·rw[mg];exact h2
       ·exact m2 x (by simp[hx])
      ·simp only[List.set_cons_zero,List.getD_cons_zero]at hx;rcases List.mem_cons.1 hx with rfl|hx
       ·rw[pJ];exact h3
       ·exact m3 x (by simp[hx])
    ·simp only[if_neg hG];exact base
   refine aH.ite (fun _=> ?_) (fun _=> ?_)
   ·exact fin pt _ (by show 0≤p3+1;omega) (by show p3+1≤_;omega) (by omega)
   ·exact fin t _ (by show 0≤p3+1;omega) (by show p3+1≤_;omega) (by omega)
def AZ:af:=⟨1,ByteArray.mk #[95],[],0,[]⟩
def kP (p:af):af:=⟨p.ak,p.aG,p.aB,p.aI,p.aj.set 0 AZ⟩
theorem VZ:wid AZ=2:=by unfold AZ;rw[gU];simp[bG];rfl
theorem SY (l:List af) (y:af):bG (l.set 0 y)≤bG l+wid y:=by
 cases l with
 |nil=>have:=lY y;simp;omega
 |cons x l=>have:=lY x;simp only[List.set_cons_zero,bG];omega
theorem OX (p:af):wid (kP p)≤wid p+2:=by
 have h:=SY p.aj AZ;rw[VZ]at h;have:=nX p;unfold kP;rw[gU];omega
def kid (x:af) (i:Int):af:=aF ah x.aj i
def oO (p:af):Bool:=(decide (p.ak=3)||decide (p.ak=4))&&(!decide ((p.aj.length:Int)=0)&&decide ((kid p 0).ak=1))
def xE (lits:List af) (r:af):Option bQ:=
 if r.ak=3 then(if(r.aj.length:Int)=2 then(if oO (kid r 0)=true then(if sK (kP (kid r 0)) lits=true then some ⟨kP (kid r 0),kid r 1⟩ else none) else none) else none) else none
def kJ (lits:List af):List af→Option Jv
 | []=>some []
 |r::l=>(xE lits r).bind fun a=>(kJ lits l).map fun b=>a::b
def ZA:bQ:=⟨⟨0,ByteArray.empty,[],0,[]⟩,⟨0,ByteArray.empty,[],0,[]⟩⟩
def A7 (o:Option bQ):bQ×Bool:=match o with|some a=>(a,true)|none=>(ZA,false)
theorem abb (l:List af):l.getD 0 ah=aF ah l 0:=rfl
theorem B_ (x:af) (i:Int) (h0:0≤i) (h:i<(x.aj.length:Int)):wid (kid x i)<wid x:=by
 have:=bZ (dF ah x.aj i h0 h);have:=aW x;unfold kid;omega
theorem S9 (lits:List af) (hl:ug lits) (r:af) (hw:wid r≤50000000):Ev (fun k=>Ap.f k r lits) (A7 (xE lits r)):=by
 simp only[Ap.f,xE]
 by_cases h1:r.ak=3
 ·simp only[h1,not_true_eq_false,if_false,if_true]
  by_cases h2:(r.aj.length:Int)=2
  ·have q0:=B_ r 0 (by omega) (by omega)
   have q1:=B_ r 1 (by omega) (by omega)
   have q2:=OX (kid r 0);have core: ¬((kid r 0).aj.length:Int)=0→(kid r 0).ak=3∨(kid r 0).ak=4→(kid r 0).ak=(kid r 0).ak→(kid (kid r 0) 0).ak=1→Ev (fun k=>Ap.j6 k lits r.aj (kid r 0).ak (kid r 0).aG (kid r 0).aI (kid r 0).aB (kid r 0).aj) (A7 (if sK (kP (kid r 0)) lits=true then some ⟨kP (kid r 0),kid r 1⟩ else none)):=by
    intro g1 _ _ g2;simp (disch:=omega) only[Ap.j6,if_pos];refine Ev.bind (pI (kP (kid r 0)) lits (by omega) hl) ?_
    by_cases h3:sK (kP (kid r 0)) lits=true
    ·simp (disch:=omega) only[h3,not_true_eq_false,if_false,if_pos,Ap.d9,ay];refine Ev.bind (je (kid r 1) (by omega)) ?_
     simp only[aJ,A7];exact Ev.now _
    ·simp only[h3,not_false_eq_true,if_true,if_false,A7];exact Ev.now _
   simp (disch:=omega) only[h2,not_true_eq_false,if_false,if_true,Ap.j3,if_pos,ay];refine Ev.bind (je (kid r 0) (by omega)) ?_
   simp only[abb];have fail:Ev (fun _=>some ((bQ.mk (af.mk (0:Int) ByteArray.empty [] (0:Int) []) (af.mk (0:Int) ByteArray.empty [] (0:Int) [])),false)) (A7 none):=Ev.now _
   have tail:(kid r 0).ak=3∨(kid r 0).ak=4→Ev (fun k=>if((kid r 0).aj.length:Int)=0 then some ((bQ.mk (af.mk (0:Int) ByteArray.empty [] (0:Int) []) (af.mk (0:Int) ByteArray.empty [] (0:Int) [])),false) else(if¬(aF ah (kid r 0).aj 0).ak=1 then some ((bQ.mk (af.mk (0:Int) ByteArray.empty [] (0:Int) []) (af.mk (0:Int) ByteArray.empty [] (0:Int) [])),false) else Ap.j6 k lits r.aj (kid r 0).ak (kid r 0).aG (kid r 0).aI (kid r 0).aB (kid r 0).aj)) (A7 (if oO (kid r 0)=true then(if sK (kP (kid r 0)) lits=true then some ⟨kP (kid r 0),kid r 1⟩ else none) else none)):=by
    intro hs;have hd:(decide ((kid r 0).ak=3)||decide ((kid r 0).ak=4))=true:=by simpa using hs
    by_cases g1:((kid r 0).aj.length:Int)=0
    ·simp only[g1,if_true,oO,decide_true,Bool.not_true,Bool.false_and,Bool.and_false,Bool.false_eq_true,if_false];exact fail
    ·by_cases g2:(kid (kid r 0) 0).ak=1
     ·have hp:oO (kid r 0)=true:=by unfold oO;rw[hd,decide_eq_false g1,decide_eq_true g2];rfl
      have g3:(aF ah (kid r 0).aj 0).ak=1:=g2;simp (disch:=omega) only[if_neg g1,if_pos,g3,hp,not_true_eq_false,if_false];exact core g1 hs rfl g2
     ·have hp:oO (kid r 0)=false:=by unfold oO;rw[hd,decide_eq_false g1,decide_eq_false g2];rfl
      have g3: ¬(aF ah (kid r 0).aj 0).ak=1:=g2;simp (disch:=omega) only[if_neg g1,if_pos,g3,hp,not_false_eq_true,Bool.false_eq_true,if_false];exact fail
   by_cases s3:(kid r 0).ak=3
   ·have:=tail (Or.inl s3);simp only[s3,not_true_eq_false,if_false]at this⊢;exact this
   ·by_cases s4:(kid r 0).ak=4
    ·have:=tail (Or.inr s4);simp only[s4,s3,not_true_eq_false,not_false_eq_true,if_false,if_true,show¬(4:Int)=3 by decide]at this⊢
     exact this
    ·have hp:oO (kid r 0)=false:=by unfold oO;rw[decide_eq_false s3,decide_eq_false s4];rfl
     simp only[s3,s4,hp,not_false_eq_true,if_true,Bool.false_eq_true,if_false];exact fail
  ·simp only[h2,not_false_eq_true,if_true,if_false];exact Ev.now _
 ·simp only[h1,not_false_eq_true,if_true,if_false];exact Ev.now _
def OY (lits:List af) (acc:List bQ) (o:Option Jv):dL×Bool:=match o with|some b=>(⟨lits,acc++b⟩,true)|none=>(⟨[],[]⟩,false)
theorem OZ (all lits:List af) (hl:ug lits) (hw:bG all≤50000000): ∀n:Nat,n≤all.length→ ∀acc:List bQ,(acc.length:Int)≤(n:Int)→Ev (fun k=>qy.l5 k (n:Int) all lits acc) (OY lits acc (kJ lits (all.drop n))):=by
 have hlen:=dO all;refine Np all (P:=fun i suf=> ∀acc:List bQ,(acc.length:Int)≤i→Ev (fun k=>qy.l5 k i all lits acc) (OY lits acc (kJ lits suf))) ?_ ?_
 ·intro acc ha;refine Ev.shift ?_;simp (disch:=omega) only[qy.l5,if_neg,kJ,OY,List.append_nil];exact Ev.now _
 ·intro i y r h0 h1 hx hm hlr _ _ ihr acc ha;have hy:=bZ hm;refine Ev.shift ?_;simp (disch:=omega) only[qy.l5,if_pos,qy.d7b,hx,ay,eu];refine Ev.bind (S9 lits hl y (by omega)) ?_
  cases h:xE lits y with
  |none=>simp only[A7,kJ,h,Option.bind_none,OY,Bool.false_eq_true,not_false_eq_true,if_true];exact Ev.now _
  |some a=>
   simp (disch:=first|omega|(simp;omega)) only[A7,kJ,h,Option.bind_some,not_true_eq_false,if_false,if_pos,Rf]
   refine Ev.eq (ihr (acc++ [a]) (by simp;omega)) ?_
   cases kJ lits r with
   |none=>rfl
   |some b=>simp[OY]
def jw (x:af):Bool:=okb x&&(decide (x.ak=3)&&(!decide ((x.aj.length:Int)<2)&&(decide ((kid x 0).ak=1)&&(decide ((kid x 0).aG.toList=(ByteArray.mk #[115,121,110,116,97,120,45,114,117,108,101,115]).toList)&&(decide ((kid x 1).ak=3)&&(kid x 1).aj.all ru)))))
def wo (x:af):dL×Bool:=if jw x=true then OY (kid x 1).aj [] (kJ (kid x 1).aj (x.aj.drop 2)) else(⟨[],[]⟩,false)
theorem O0 (x:af) (hw:wid x≤40000000):Ev (fun k=>qy.f k x) (wo x):=by
 have fail: ∀l,jw x=false→Ev (fun k=>qy.j2 k true l) (wo x):=by
  intro l h;simp only[qy.j2,if_true,wo,h,Bool.false_eq_true,if_false];exact Ev.now _
 have e0:aF ah x.aj 0=kid x 0:=rfl;have e1:aF ah x.aj 1=kid x 1:=rfl;simp only[qy.f,ay,e0,e1];refine Ev.bind (iL x (by omega)) ?_
 by_cases h1:okb x=true
 ·by_cases h2:x.ak=3
  ·by_cases h3:(x.aj.length:Int)<2
   ·simp only[h1,h2,h3,not_true_eq_false,if_false,if_true];exact fail x.aj (by simp only[jw,h3,decide_true,Bool.not_true,Bool.false_and,Bool.and_false])
   ·by_cases h4:(kid x 0).ak=1
    ·by_cases h5:(kid x 0).aG.toList=(ByteArray.mk #[115,121,110,116,97,120,45,114,117,108,101,115]).toList
     ·by_cases h6:(kid x 1).ak=3
      ·have q1:=B_ x 1 (by omega) (by omega)
       have q2:=aW (kid x 1);have q3:=aW x;have sl:ug (kid x 1).aj:=ug.of (by omega)
       simp (disch:=omega) only[h1,h2,if_neg h3,h4,h5,h6,not_true_eq_false,if_false,if_pos];refine Ev.bind (Gg _ sl) ?_
       by_cases h7:(kid x 1).aj.all ru=true
       ·have ht:jw x=true:=by simp only[jw,h1,h2,h3,h4,h5,h6,h7,decide_true,decide_false,Bool.not_false,Bool.and_self]
        simp (disch:=omega) only[h7,not_true_eq_false,decide_false,qy.j2,Bool.false_eq_true,if_false,if_pos,e1,wo,ht];refine Ev.bind (OE _ (by omega)) ?_
        exact OZ x.aj (kid x 1).aj sl (by omega) 2 (by omega) [] (by simp)
       ·simp only[h7,Bool.false_eq_true,not_false_eq_true,decide_true];exact fail x.aj (by simp only[jw,h7,Bool.and_false])
      ·simp (disch:=omega) only[h1,h2,if_neg h3,h4,h5,h6,not_true_eq_false,not_false_eq_true,if_true,if_false,if_pos];exact fail x.aj (by simp only[jw,h6,decide_false,Bool.false_and,Bool.and_false])
     ·simp (disch:=omega) only[h1,h2,if_neg h3,h4,h5,not_true_eq_false,not_false_eq_true,if_true,if_false,if_pos];exact fail x.aj (by simp only[jw,h5,decide_false,Bool.false_and,Bool.and_false])
    ·simp (disch:=omega) only[h1,h2,if_neg h3,h4,not_true_eq_false,not_false_eq_true,if_true,if_false,if_pos];exact fail x.aj (by simp only[jw,h4,decide_false,Bool.false_and,Bool.and_false])
  ·simp only[h1,h2,not_true_eq_false,not_false_eq_true,if_true,if_false];exact fail x.aj (by simp only[jw,h2,decide_false,Bool.false_and,Bool.and_false])
 ·simp only[h1,not_false_eq_true,if_true];exact fail x.aj (by simp only[jw,h1,Bool.false_and])
def kQ (lits:List af) (binds:List aO) (f:af):List bQ→af×Int
 | []=>(ah,2)
 |r::l=>if(gJ lits binds r.bz f).1=true then(if(mG r.f_ (gJ lits binds r.bz f).2).2=true then((mG r.f_ (gJ lits binds r.bz f).2).1,0) else(ah,6)) else kQ lits binds f l
def V3 (r:bQ):Prop:=wid r.bz≤1000000∧wid r.f_≤2000000
theorem L_ (lits:List af) (binds:List aO) (f:af): ∀l:List bQ,decide ((kQ lits binds f l).2=0)=decide (¬(kQ lits binds f l).1.ak=0):=by
 intro l
 induction l with
 |nil=>rfl
 |cons r l ih=>
  simp only[kQ]
  split
  ·split
   ·rename_i h;have hok:=LU _ _ h;have h0:jl (mG r.f_ (gJ lits binds r.bz f).2).1 0=true:=by unfold okb leB at hok;simp only[Bool.and_eq_true]at hok;exact hok.1
    have: ¬(mG r.f_ (gJ lits binds r.bz f).2).1.ak=0:=by
     rcases bU h0 with⟨h,_⟩|⟨h,_⟩|⟨h,_⟩<;>omega
    simp[this]
   ·rfl
  ·exact ih
theorem O3 (lits:List af) (binds:List aO) (f:af) (hf:wid f≤1000000): ∀l:List bQ,(∀r∈l,V3 r)→wid (kQ lits binds f l).1≤1000000000000000000:=by
 intro l;have hz:wid ah≤1000000000000000000:=by decide
 induction l with
 |nil=>intro _;exact hz
 |cons r l ih=>
  intro h;obtain⟨h1,h2⟩:=h r (by simp)
  obtain⟨m1,m2,m3⟩:=yQ lits binds r.bz f (by omega) (by omega)
  simp only[kQ]
  split
  ·split
   ·exact GK _ _ h2 fun hg=>⟨hg,m2,m3,m1⟩
   ·exact hz
  ·exact ih fun x hx=>h x (List.mem_cons_of_mem _ hx)
theorem O4 (m:dL) (f:af) (binds:List aO) (hl:ug m.bF) (hb:tZ binds) (hf:wid f≤1000000) (hn:(m.fK.length:Int)≤1000000) (hr: ∀r∈m.fK,V3 r):Ev (fun k=>q32.f k m f binds) (kQ m.bF binds f m.fK):=by
 simp only[q32.f,Jd.f,ay];refine Ev.bind (r:=kQ m.bF binds f m.fK) ?_ (Ev.now _);refine Ev.bind (jF f (by omega)) ?_
 cases hfb:okb f with
 |false=>
  simp only[Bool.false_eq_true,not_false_eq_true,if_true];refine Ev.eq (Ev.now _) ?_;have: ∀l:List bQ,kQ m.bF binds f l=(ah,2):=by
   intro l
   induction l with
   |nil=>rfl
   |cons r l ih=>
    have:(gJ m.bF binds r.bz f).1=false:=by unfold gJ;rw[hfb];split<;>rfl
    simp only[kQ,this,Bool.false_eq_true,if_false,ih]
  rw[this];rfl
 |true=>
  simp only[not_true,if_false];refine dG m.fK (P:=fun i suf=>Ev (fun k=>Jd.l4 k binds m.fK (m.fK.length:Int) i m.bF f.ak f.aG f.aB f.aI f.aj) (kQ m.bF binds f suf)) ?_ ?_
  ·refine Ev.shift ?_;simp (disch:=omega) only[Jd.l4,if_neg];exact Ev.now _
  ·intro i x r i0 i1 hx hm _ _ _ ih;obtain⟨r1,r2⟩:=hr x hm;refine Ev.shift ?_;simp (disch:=omega) only[Jd.l4,if_pos,hx,eu,ay,aJ];refine Ev.bind (D6 x.bz m.bF (by omega) hl) ?_
   simp only[kQ];cases hpb:sK x.bz m.bF with
   |false=>
    have:(gJ m.bF binds x.bz f).1=false:=by unfold gJ;rw[hpb];rfl
    simp only[this,Bool.false_eq_true,not_false_eq_true,if_true,if_false];exact ih
   |true=>
    simp only[not_true,if_false];obtain⟨h1,h2,h3,h4,h5⟩:=mX hpb;have hp2:jl x.bz 0=true∧cnt x.bz≤1500:=by unfold okb leB at h1;simpa using h1
    have hf2:jl f 0=true∧cnt f≤1500:=by unfold okb leB at hfb;simpa using hfb
    have hc:=(dm x.bz).1;have hmb:gJ m.bF binds x.bz f=lQ (mM m.bF binds (cnt x.bz).toNat x.bz f):=by unfold gJ;rw[hpb,hfb];rfl
    obtain⟨m1,m2,m3⟩:=yQ m.bF binds x.bz f (by omega) (by omega)
    refine Ev.bind (Oq m.bF binds hl hb (cnt x.bz).toNat x.bz 0 f (by omega) hp2.1 h3 (fun _=>⟨0,hf2.1,by omega⟩) (by omega) (by omega)) ?_
    rw[hmb]at m1 m2 m3⊢;simp only[zM]
    by_cases hg:(lQ (mM m.bF binds (cnt x.bz).toNat x.bz f)).1=true
    ·simp only[hg,not_true_eq_false,if_false,if_true];refine Ev.bind (vk x.f_ _ (by omega) m1 m2 m3) ?_
     cases hfl:(mG x.f_ (lQ (mM m.bF binds (cnt x.bz).toNat x.bz f)).2).2 with
     |false=>simp only[Bool.false_eq_true,not_false_eq_true,if_true,if_false];exact Ev.now _
     |true=>simp only[not_true,if_false,if_true];exact Ev.now _
    ·simp only[hg,not_false_eq_true,if_true,if_false];exact ih
theorem O5 (m:dL) (f:af) (binds:List aO) (hl:ug m.bF) (hb:tZ binds) (hf:wid f≤1000000) (hn:(m.fK.length:Int)≤1000000) (hr: ∀r∈m.fK,V3 r):Ev (fun k=>q30.f k m f binds) (kQ m.bF binds f m.fK):=by
 simp only[q30.f,zG.f,ay];have key:aH (fun k=>zG.l4 k binds 0 m.bF m.fK f.ak f.aG f.aB f.aI f.aj [] []) (fun z=>(z.1,z.2.1)=kQ m.bF binds f m.fK):=by
  refine dG m.fK (P:=fun i suf=> ∀a b:List af,(a.length:Int)≤i*1000000→(b.length:Int)≤i*1000000→aH (fun k=>zG.l4 k binds i m.bF m.fK f.ak f.aG f.aB f.aI f.aj a b) (fun z=>(z.1,z.2.1)=kQ m.bF binds f suf)) ?_ ?_ [] [] (by simp) (by simp)
  ·intro a b ha hb;refine aH.shift ?_;simp (disch:=omega) only[zG.l4,if_neg];exact aH.now rfl
  ·intro i x r i0 i1 hx hm _ _ _ ih a b ha hb';obtain⟨r1,r2⟩:=hr x hm;refine aH.shift ?_;simp (disch:=omega) only[zG.l4,zG.uP,if_pos,hx,eu,ay,aJ];refine aH.bind (aH.of (pI x.bz m.bF (by omega) hl) (P:=fun z=>z=sK x.bz m.bF) rfl) fun z hz=> ?_
   subst hz;simp only[kQ];cases hpb:sK x.bz m.bF with
   |false=>
    have:(gJ m.bF binds x.bz f).1=false:=by unfold gJ;rw[hpb];rfl
    simp only[this,Bool.false_eq_true,not_false_eq_true,if_true,if_false];exact ih a b (by omega) (by omega)
   |true=>
    simp only[not_true,if_false];refine aH.bind (aH.of (iL f (by omega)) (P:=fun z=>z=okb f) rfl) fun z hz=> ?_
    subst hz;cases hfb:okb f with
    |false=>
     have:(gJ m.bF binds x.bz f).1=false:=by unfold gJ;rw[hpb,hfb];rfl
     simp only[this,Bool.false_eq_true,not_false_eq_true,if_true,if_false];exact ih a b (by omega) (by omega)
    |true=>
     simp only[not_true,if_false];obtain⟨h1,h2,h3,h4,h5⟩:=mX hpb;have hp2:jl x.bz 0=true∧cnt x.bz≤1500:=by unfold okb leB at h1;simpa using h1
     have hf2:jl f 0=true∧cnt f≤1500:=by unfold okb leB at hfb;simpa using hfb
     have hc:=(dm x.bz).1;have hmb:gJ m.bF binds x.bz f=lQ (mM m.bF binds (cnt x.bz).toNat x.bz f):=by unfold gJ;rw[hpb,hfb];rfl
     obtain⟨m1,m2,m3⟩:=yQ m.bF binds x.bz f (by omega) (by omega)
     refine aH.bind (Et m.bF binds hl h5 hb (cnt x.bz).toNat x.bz 0 f (by omega) hp2.1 h3 h4 (fun _=>⟨0,hf2.1⟩) (by omega) (by omega) [] [] (by simp;omega) (by simp;omega)) fun z hz=> ?_
     have z1:=hz.b1;have z2:=hz.b2;simp only[List.length_nil]at z1 z2;have g1:a.length+z.2.2.2.2.1.length≤1759218604441:=by omega
     have g2:b.length+z.2.2.2.2.2.length≤1759218604441:=by omega
     simp only[if_pos g1,if_pos g2,hz.ok,hz.go];rw[hmb]at m1 m2 m3⊢
     by_cases hg:(lQ (mM m.bF binds (cnt x.bz).toNat x.bz f)).1=true
     ·simp only[hg,not_true_eq_false,if_false,if_true];refine aH.bind (aH.of (yM x.f_ _ (by omega) (fun hg=>⟨hg,m2,m3,m1⟩) m1 m2 m3) (P:=fun y=>y=mG x.f_ (lQ (mM m.bF binds (cnt x.bz).toNat x.bz f)).2) rfl) fun y hy=> ?_
      subst hy;cases hfl:(mG x.f_ (lQ (mM m.bF binds (cnt x.bz).toNat x.bz f)).2).2 with
      |false=>simp only[Bool.false_eq_true,not_false_eq_true,if_true,if_false];exact aH.now rfl
      |true=>simp only[not_true,if_false,if_true];exact aH.now rfl
     ·simp only[hg,not_false_eq_true,if_true,if_false];exact ih _ _ (by rw[List.length_append];omega) (by rw[List.length_append];omega)
 obtain⟨z,hz,hev⟩:=key;refine Ev.bind hev ?_;rw[←hz];exact Ev.now _
def yZ (r:af×List Int×Int):Int×ByteArray×Int×List Int×Int×List Int×List af:=(r.1.ak,r.1.aG,r.1.aI,r.2.1,r.2.2,r.1.aB,r.1.aj)
theorem yR {α β:Type} (f:α→β) (c:Prop) [Decidable c] (a b:Option α):(if c then a else b).map f=if c then a.map f else b.map f:=by split<;>rfl
theorem ZC: ∀(k:Nat) (x:Int) (b:List Int) (q s:Int) (t:ByteArray) (fr:Int) (a:List Int),D.qn.l3 k x b q s t fr [] a=(qn.l3 k x b q s t fr [] a).map yZ:=by
 intro k
 induction k with
 |zero=>intros;rfl
 |succ k ih=>
  intro x b q s t fr a;simp only[D.qn.l3,qn.l3,ih,yR,Option.map_bind,Option.map_none,Option.map_some,Function.comp_def,yZ,List.length_nil,if_true]
theorem idD (k:Nat) (b:List Int) (q:Int):D.qn.f k b q=(qn.f k b q).map yZ:=by
 simp only[D.qn.f,qn.f,ZC,yR,Option.map_bind,Function.comp_def]
theorem abd: ∀k:Nat,(∀x b q,D.q7.f k x b q=(q7.f k x b q).map yZ)∧(∀x n b q s t fr a,D.q7.l12 k x n b q s t [] fr a=(q7.l12 k x n b q s t [] fr a).map yZ)∧(∀x n b q s t fr a,D.q7.tX k x n b q s t [] fr a=(q7.tX k x n b q s t [] fr a).map yZ):=by
 intro k
 induction k with
 |zero=>exact⟨fun _ _ _=>rfl,fun _ _ _ _ _ _ _ _=>rfl,fun _ _ _ _ _ _ _ _=>rfl⟩
 |succ k ih=>
  obtain⟨i1,i2,i3⟩:=ih;refine⟨fun x b q=> ?_,fun x n b q s t fr a=> ?_,fun x n b q s t fr a=> ?_⟩
  ·simp only[D.q7.f,q7.f,D.q7.tu,q7.tu,idD,i1,i2,i3,yR,Option.map_bind,Option.bind_map,Option.map_none,Option.map_some,Function.comp_def,yZ,ay]
  ·simp only[D.q7.l12,q7.l12,D.q7.Ii,q7.Ii,D.q7.d15,q7.d15,idD,i1,i2,i3,yR,Option.map_bind,Option.bind_map,Option.map_none,Option.map_some,Function.comp_def,yZ,ay,aJ,List.length_nil,if_true]
  ·simp only[D.q7.tX,q7.tX,D.q7.zC,q7.zC,i1,i2,i3,yR,Option.map_bind,Option.bind_map,Option.map_none,Option.map_some,Function.comp_def,yZ,ay,aJ,List.length_nil,if_true]
theorem XK (k:Nat) (x:Int) (b:List Int) (q:Int):D.q7.f k x b q=(q7.f k x b q).map yZ:=(abd k).1 x b q
mutual
def eqF:af→af→Bool
 |⟨a,t,sc,fr,ks⟩,⟨a',t',sc',fr',ks'⟩=>decide (a=a')&&(decide (t.data.toList=t'.data.toList)&&(decide (sc=sc')&&(decide (fr=fr')&&O6 ks ks')))
def O6:List af→List af→Bool
 | [],[]=>true
 |x::l,y::m=>eqF x y&&O6 l m
 |_,_=>false
end
mutual
theorem ZE: ∀x y:af,eqF x y=true→x=y
 |⟨a,t,sc,fr,ks⟩,⟨a',t',sc',fr',ks'⟩,h=>by
  simp only[eqF,Bool.and_eq_true,decide_eq_true_eq]at h;obtain⟨h1,h2,h3,h4,h5⟩:=h;have h2:t=t':=by cases t;cases t';simpa [Array.toList_inj]using h2
  rw[h1,h2,h3,h4,IV ks ks' h5]
theorem IV: ∀x y:List af,O6 x y=true→x=y
 | [],[],_=>rfl
 |x::l,y::m,h=>by
  simp only[O6,Bool.and_eq_true]at h;rw[ZE x y h.1,IV l m h.2]
 | [],_::_,h=>by simp[O6]at h
 |_::_,[],h=>by simp[O6]at h
end
def S_:List ByteArray:=match D.Wi.f 0 with|some l=>l|none=> []
def Wj (s:ByteArray):List af:=match D.BO.f 300 s with|some r=>r.2|none=> []
def ZG (k:Nat) (s:ByteArray):Bool:=match D.BO.f k s with|some r=>r.1&&O6 r.2 (Wj s)|none=>false
def allB (k:Nat):List ByteArray→Bool
 | []=>true
 |s::l=>ZG k s&&allB k l
theorem XL (j:Nat):allB (j+300) S_=true:=by kernel_rfl
theorem Tc {b:List Int} {p:Int} (x:af) {n:Int} (hb:yY b) (h0:0≤p) (hp:p≤100000000000) (hx:lk x≤n) (hn:n≤1000000000):aH (fun k=>qx.f k x b p) (fun r=>On b p 2 r.2∧(lk r.1≤n+300∨r.1.aj.length=1)):=by
 have hw:=tJ x;have hk:0≤jA x.aj:=xB _;have hsz:(x.aG.size:Int)≤n:=by omega
 have hww:=(iY x).1;simp only[qx.f,ay];refine aH.bind (aH.of (je x (by omega)) (P:=fun r=>r=(x.ak,x.aG,x.aI,x.aB,x.aj)) rfl) fun r hr=> ?_
 subst hr
 dsimp only
 refine aH.bind (bT 6 hb h0 (by omega)) fun r ⟨g1,g2,g3,_⟩=> ?_
 rw[g1];have fin: ∀(y:af) (q:Int),p≤q→q≤p+2→(lk y≤n+300∨y.aj.length=1)→aH (fun _=>some (y,b,q)) (fun r=>On b p 2 r.2∧(lk r.1≤n+300∨r.1.aj.length=1)):=fun y q h1 h2 h4=>aH.now ⟨⟨rfl,h1,h2⟩,h4⟩
 refine aH.ite (fun _=> ?_) (fun _=>aH.ite (fun _=> ?_) (fun _=>aH.ite (fun _=> ?_) (fun _=>aH.ite (fun _=> ?_) (fun _=>aH.ite (fun _=> ?_) (fun _=> ?_)))))
 ·refine aH.bind (bT 7 hb (by omega) (by omega)) fun s ⟨e1,_⟩=> ?_
  rw[e1];exact fin _ _ (by omega) (by omega) (Or.inl (by rw[lH];omega))
 ·refine aH.bind (AL _ hb (by omega) (by omega) (by decide)) fun s ⟨e1,e2⟩=> ?_
  rw[e1];have hs:s.1.size≤4:=by
   simp only[List.mem_cons,List.not_mem_nil,or_false]at e2;rcases e2 with h|h|h|h|h|h<;>rw[h]<;>decide
  exact fin _ _ (by omega) (by omega) (Or.inl (by rw[lH];omega))
 ·simp only[qx.d12];refine aH.bind (bT 3 hb (by omega) (by omega)) fun s ⟨e1,e2,e3,_⟩=> ?_
  have:=e3 (by omega)
  rw[e1];simp (disch:=first|omega|(simp;omega)) only[if_pos]
  exact fin _ _ (by omega) (by omega) (Or.inl (by rw[lH,List.length_append,List.length_singleton];omega))
 ·refine aH.bind (bT 3 hb (by omega) (by omega)) fun s ⟨e1,e2,e3,_⟩=> ?_
  have:=e3 (by omega)
  rw[e1];simp (disch:=first|omega|(simp;omega)) only[if_pos]
  exact fin _ _ (by omega) (by omega) (Or.inl (by rw[lH];omega))
 ·have hkl:(x.aj.length:Int)≤jA x.aj:=yP _;simp (disch:=first|omega|(simp;omega)) only[if_pos]
  exact fin _ _ (by omega) (by omega) (Or.inl (by rw[lH,kF];simp only[jA,lH,List.length_nil,show ByteArray.empty.size=0 from rfl];omega))
 ·refine aH.bind (bT 3 hb (by omega) (by omega)) fun s ⟨e1,e2,e3,_⟩=> ?_
  have:=e3 (by omega)
  rw[e1];simp (disch:=omega) only[eu];refine goDown (P:=fun m=> ∀a t (sc:List Int) d ks,0≤m→m≤60→(0<m∨ks.length=1)→aH (fun k=>qx.l4 k m b (p+1+1) a t d sc ks) (fun r=>On b p 2 r.2∧(lk r.1≤n+300∨r.1.aj.length=1))) ?_ ?_ _ _ _ _ _ _ (by omega) (by omega) (Or.inl (by omega))
  ·intro i hi a t sc d ks h3 h5 h4;refine aH.shift ?_;simp (disch:=omega) only[qx.l4,if_neg];exact fin _ _ (by omega) (by omega) (Or.inr (h4.resolve_left (by omega)))
  ·intro i hi ih a t sc d ks h3 h5 h4;refine aH.shift ?_;simp (disch:=omega) only[qx.l4,if_pos,eu];exact ih 3 ByteArray.empty [] 0 [⟨a,t,sc,d,ks⟩] (by omega) (by omega) (Or.inr rfl)
theorem Qw (k:Nat): ∀(l:List ByteArray),allB k l=true→ ∀s∈l,ZG k s=true
 | [],_,s,h=>by cases h
 |x::l,h,s,hs=>by
  simp only[allB,Bool.and_eq_true]at h;rcases List.mem_cons.1 hs with rfl|hs
  ·exact h.1
  ·exact Qw k l h.2 s hs
theorem XM {s:ByteArray} (h:s∈S_):Ev (fun k=>D.BO.f k s) (true,Wj s):=by
 refine⟨300,fun k hk=> ?_⟩
 obtain⟨j,rfl⟩: ∃j,k=j+300:=⟨k-300,by omega⟩
 have h1:=Qw _ _ (XL j) s h;unfold ZG at h1;show D.BO.f (j+300) s=some (true,Wj s);cases e:D.BO.f (j+300) s with
 |none=>rw[e]at h1;cases h1
 |some r=>
  rw[e]at h1;simp only[Bool.and_eq_true]at h1;obtain⟨a,b⟩:=r;have h2:=IV _ _ h1.2;simp only at h1 h2;rw[h1.1,h2]
def Td (s:ByteArray):af:=((Wj s).getD 0 ah).aj.getD 2 ah
def V4 (s:ByteArray):Bool:=decide (0<(Wj s).length)&&(decide (2<((Wj s).getD 0 ah).aj.length)&&(decide (lk (Td s)≤9500000)&&(decide (wid (Td s)≤100000)&&(decide (2<(Td s).aj.length)&&decide (0<((Td s).aj.getD 2 ah).aj.length)))))
theorem V5:S_.all V4=true:=by kernel_rfl
theorem yS: ∀(l:List af) (i:Nat) (y:af),i<l.length→jA (l.set i y)+lk (l.getD i ah)=jA l+lk y
 | [],i,y,h=>by simp at h
 |x::l,0,y,_=>by simp only[List.set_cons_zero,List.getD_cons_zero,jA];omega
 |x::l,i+1,y,h=>by
  have:=yS l i y (by simpa using h)
  simp only[List.set_cons_succ,List.getD_cons_succ,jA];omega
def XN (x:af):Prop:=wid x≤10000000∧(lk x≤10000000∨x.aj.length=1)
theorem XN.of {x:af} (h:lk x≤10000000):XN x:=⟨by have:=(iY x).1;omega,Or.inl h⟩
theorem Mc {b:List Int} (hb:yY b) (d:Nat) (hd:d≤100) (p:Int) (h0:0≤p) (hp:p+steps d≤1000000000000):aH (fun k=>D.q7.f k (d:Int) b p) (fun r=>On b p (steps d) (r.2.2.2.1,r.2.2.2.2.1)∧Nd (ll d) ⟨r.1,r.2.1,r.2.2.2.2.2.1,r.2.2.1,r.2.2.2.2.2.2⟩):=by
 obtain⟨r,⟨h1,h2⟩,K,hK⟩:=LQ hb d hd p h0 hp;refine⟨yZ r,⟨h1,?_⟩,K,fun k hk=> ?_⟩
 ·simp only[yZ,aJ];exact h2
 ·show D.q7.f k (d:Int) b p=_;have e:=hK k hk;simp only at e;rw[XK,e];rfl
theorem IW {b:List Int} (hb:yY b) (p:Int) (h0:0≤p) (hp:p≤1000000000):aH (fun k=>D.N9.f k b p) (fun r=>On b p 200 r.2∧XN r.1):=by
 have e0:steps 0=9:=by decide
 have e2:steps 2=117:=by decide
 have f0:ll 0=70:=by decide
 have f2:ll 2=15280:=by decide
 simp only[D.N9.f];refine aH.bind (aH.of (r:=S_) ⟨0,fun k _=>rfl⟩ (P:=fun z=>z=S_) rfl) fun z hz=> ?_
 subst hz;refine aH.bind (AL S_ hb h0 (by omega) (by decide)) fun r ⟨h1,h2⟩=> ?_
 obtain⟨s,q⟩:=r;simp only at h1 h2;subst h1;refine aH.bind (aH.of (XM h2) (P:=fun z=>z=(true,Wj s)) rfl) fun z hz=> ?_
 subst hz;have hsh:=List.all_eq_true.1 V5 s h2;unfold V4 at hsh;simp only[Bool.and_eq_true,decide_eq_true_eq]at hsh;obtain⟨s1,s2,s3,s4,s5,s6⟩:=hsh;have i1:(0:Int)<((Wj s).length:Int):=by omega
 have i2:(2:Int)<(((Wj s).getD 0 ah).aj.length:Int):=by omega
 dsimp only
 rw[show((Wj s).getD 0 ah).aj.getD 2 ah=Td s from rfl]
 generalize Td s=f at s3 s4 s5 s6;have hlf:=tJ f;simp only[if_pos i1,if_pos i2,if_pos (show 0≤2 by omega),aJ,ay]
 refine aH.bind (bT 8 hb (by omega) (by omega)) fun u ⟨g1,_,_,_⟩=> ?_
 rw[g1]
 dsimp only
 refine aH.ite (fun _=> ?_) (fun _=>aH.ite (fun _=> ?_) (fun _=>aH.ite (fun _=> ?_) (fun _=> ?_)))
 ·refine aH.bind (aH.and (Eg f (n:=100000) hb (by omega) (by omega) (by omega) (by omega)) (Tc f (n:=9500000) hb (by omega) (by omega) (by omega) (by omega))) fun v ⟨⟨⟨v1,v2,v3⟩,v4⟩,_,v5⟩=> ?_
  exact aH.now ⟨⟨v1,by show p≤v.2.2;omega,by show v.2.2≤_;omega⟩,by show wid v.1≤_;omega,v5.imp (fun h=>by show lk v.1≤_;omega) id⟩
 ·simp only[D.N9.d7];have w1:IntKind.i64.wrap ((f.aj.length:Int)-1)=(f.aj.length:Int)-1:=eu (by omega) (by have:=yP f.aj;omega)
  rw[w1];refine aH.bind (bT _ hb (by omega) (by omega)) fun v ⟨v1,v2,v3,_⟩=> ?_
  have v3:=v3 (by omega)
  have hlk:=yP f.aj;rw[v1];refine aH.bind (Mc hb 2 (by omega) _ (by show 0≤p+1+1+1;omega) (by show p+1+1+1+steps 2≤_;omega)) fun w ⟨⟨w1,w2,w3⟩,w4⟩=> ?_
  simp only at w1 w2 w3;have wr:IntKind.i64.wrap (1+v.1)=1+v.1:=eu (by omega) (by omega)
  have c1:(0:Int)≤1+v.1:=by omega
  have c2:1+v.1<(f.aj.length:Int):=by omega
  simp only[wr,if_pos c1,if_pos c2];have hset:=yS f.aj (1+v.1).toNat ⟨w.1,w.2.1,w.2.2.2.2.2.1,w.2.2.1,w.2.2.2.2.2.2⟩ (by omega)
  have hpos:=(iY (f.aj.getD (1+v.1).toNat ah)).2;have hw4:=w4.1;refine aH.now ⟨⟨w1,by show p≤w.2.2.2.2.1;omega,by show w.2.2.2.2.1≤_;omega⟩,XN.of ?_⟩
  rw[lH];omega
 ·have c1:(2:Int)<(f.aj.length:Int):=by omega
  have c2:(0:Int)<((f.aj.getD 2 ah).aj.length:Int):=by omega
  simp only[if_pos c1,if_pos c2];generalize hk2:f.aj.getD 2 ah=k2 at s6 c2;have hset:=fun y=>yS f.aj 2 y (by omega)
  rw[hk2]at hset;generalize hk0:k2.aj.getD 0 ah=k0;have Yp:=fun y=>yS k2.aj 0 y (by omega)
  rw[hk0]at Yp;have hl2:=tJ k2;have hl0:=tJ k0;have fin: ∀y:af,lk y≤lk k0+280→XN ⟨f.ak,f.aG,f.aB,f.aI,f.aj.set 2 ⟨k2.ak,k2.aG,k2.aB,k2.aI,k2.aj.set 0 y⟩⟩:=by
   intro y hy;have a1:=hset ⟨k2.ak,k2.aG,k2.aB,k2.aI,k2.aj.set 0 y⟩;have a2:=Yp y;rw[lH]at a1;refine XN.of ?_;rw[lH];omega
  by_cases hz:(0:Int)<(k0.aj.length:Int)
  ·have one:aH (fun k=>(D.q7.f k 0 b (p+1+1)).bind fun r7=>some ((⟨f.ak,f.aG,f.aB,f.aI,f.aj.set 2 ⟨k2.ak,k2.aG,k2.aB,k2.aI,k2.aj.set 0 ⟨k0.ak,k0.aG,k0.aB,k0.aI,k0.aj.set 0 ⟨r7.1,r7.2.1,r7.2.2.2.2.2.1,r7.2.2.1,r7.2.2.2.2.2.2⟩⟩⟩⟩:af),r7.2.2.2.1,r7.2.2.2.2.1)) (fun r=>On b p 200 r.2∧XN r.1):=by
    refine aH.bind (Mc hb 0 (by omega) _ (by omega) (by omega)) fun w ⟨⟨w1,w2,w3⟩,w4⟩=> ?_
    simp only at w1 w2 w3;have hw4:=w4.1;have adt:=yS k0.aj 0 ⟨w.1,w.2.1,w.2.2.2.2.2.1,w.2.2.1,w.2.2.2.2.2.2⟩ (by omega)
    have hpos:=(iY (k0.aj.getD 0 ah)).2;refine aH.now ⟨⟨w1,by show p≤w.2.2.2.2.1;omega,by show w.2.2.2.2.1≤_;omega⟩,fin _ ?_⟩
    rw[lH];omega
   simp only[if_pos hz];obtain⟨r,hr,hev⟩:=one;exact⟨r,hr,Es hev hev⟩
  ·simp only[if_neg hz];exact aH.now ⟨⟨rfl,by show p≤p+1+1;omega,by show p+1+1≤_;omega⟩,fin k0 (by omega)⟩
 ·exact aH.now ⟨⟨rfl,by show p≤p+1+1;omega,by show p+1+1≤_;omega⟩,XN.of (by show lk f≤_;omega)⟩
theorem XO: ∀(x:af) (d:Int),jl x d=true→OH x=true:=by
 refine dX fun x ih d hok=> ?_
 rw[OI];rcases bU hok with⟨h,k⟩|⟨h,k⟩|⟨h,k⟩
 ·rw[k];simp[nN];omega
 ·rw[k];simp[nN];omega
 ·have hs: ∀l:List af,(∀y∈l,OH y=true)→nN l=true:=by
   intro l
   induction l with
   |nil=>intro _;rfl
   |cons y l ihl=>intro hl;simp only[nN,Bool.and_eq_true];exact⟨hl y (by simp),ihl fun z hz=>hl z (List.mem_cons_of_mem _ hz)⟩
  rw[hs x.aj fun y hy=>ih y hy (d+1) (gI k y hy)]
  simp;omega
theorem Tf (l:List af):50*(l.length:Int)≤jA l:=by
 induction l with
 |nil=>simp[jA]
 |cons y l ih=>
  have:=(iY y).2;simp only[jA,List.length_cons,Int.natCast_add];omega
theorem Qx {l:List af} {x:af} (h:x∈l):lk x≤jA l:=by
 induction l with
 |nil=>cases h
 |cons y l ih=>
  have h1:=(iY y).2;have h2:=xB l;simp only[jA];rcases List.mem_cons.1 h with rfl|h
  ·omega
  ·have:=ih h;omega
theorem V6 (x:af) (i:Int) (h0:0≤i) (h:i<(x.aj.length:Int)):4*lk (kid x i)+50≤lk x:=by
 have:=Qx (dF ah x.aj i h0 h);have:=tJ x;unfold kid;omega
theorem Ti (p:af):lk (kP p)≤lk p+204:=by
 have hd:lk AZ=51:=by unfold AZ;rw[lH];rfl
 have h:jA (p.aj.set 0 AZ)≤jA p.aj+lk AZ:=by
  cases p.aj with
  |nil=>simp[jA];omega
  |cons x l=>have:=(iY x).2;simp only[List.set_cons_zero,jA];omega
 have:=tJ p;unfold kP;rw[lH];omega
def XP (r:bQ):Prop:=V3 r∧lk r.bz≤700000∧OH r.bz=true
theorem IX {lits:List af} {r:af} {a:bQ} (hw:lk r≤2500000) (h:xE lits r=some a):XP a:=by
 unfold xE at h
 split at h
 ·split at h
  ·rename_i h1 h2;have q0:=V6 r 0 (by omega) (by omega)
   have q1:=V6 r 1 (by omega) (by omega)
   have q2:=Ti (kid r 0)
   split at h
   ·split at h
    ·rename_i hp;injection h with h
     subst h;have hok:jl (kP (kid r 0)) 0=true:=by
      have:=(mX hp).1;unfold okb at this;simp only[Bool.and_eq_true]at this;exact this.1
     have w0:=(iY (kP (kid r 0))).1;have w1:=(iY (kid r 1)).1;exact⟨⟨by show wid (kP (kid r 0))≤_;omega,by show wid (kid r 1)≤_;omega⟩,by show lk (kP (kid r 0))≤_;omega,XO _ _ hok⟩
    ·cases h
   ·cases h
  ·cases h
 ·cases h
theorem EW {lits:List af}: ∀(l:List af) (b:List bQ),(∀x∈l,lk x≤2500000)→kJ lits l=some b→(∀r∈b,XP r)∧b.length=l.length:=by
 intro l
 induction l with
 |nil=>intro b _ h;simp only[kJ]at h;injection h with h;subst h;simp
 |cons x l ih=>
  intro b hl h;simp only[kJ]at h;cases hx:xE lits x with
  |none=>rw[hx]at h;cases h
  |some a=>
   rw[hx]at h;cases hc:kJ lits l with
   |none=>rw[hc]at h;cases h
   |some c=>
    rw[hc]at h;simp only[Option.bind_some,Option.map_some]at h;injection h with h
    subst h;have h1:=IX (hl x (by simp)) hx
    have h2:=ih c (fun y hy=>hl y (List.mem_cons_of_mem _ hy)) hc
    refine⟨fun r hr=> ?_,by simp[h2.2]⟩
    rcases List.mem_cons.1 hr with rfl|hr
    ·exact h1
    ·exact h2.1 r hr
theorem Me {x:af} (h:XN x):ug (wo x).1.bF∧((wo x).1.fK.length:Int)≤1000000∧ ∀r∈(wo x).1.fK,XP r:=by
 have none:ug ([]:List af)∧(([]:List bQ).length:Int)≤1000000∧ ∀r∈([]:List bQ),XP r:=⟨⟨by simp,by simp⟩,by simp,by simp⟩
 unfold wo
 by_cases ht:jw x=true
 ·rw[if_pos ht];have hlen: ¬(x.aj.length:Int)<2:=by
   intro hc;simp only[jw,hc,decide_true,Bool.not_true,Bool.false_and,Bool.and_false]at ht;cases ht
  obtain⟨hw,hl|hl⟩:=h
  ·have q1:=B_ x 1 (by omega) (by omega)
   have q2:=aW (kid x 1);have hm:=tJ x;have h5:=Tf x.aj;have sl:ug (kid x 1).aj:=ug.of (by omega)
   cases hr:kJ (kid x 1).aj (x.aj.drop 2) with
   |none=>exact none
   |some b=>
    have:=EW (x.aj.drop 2) b (fun y hy=>by have:=Qx (List.mem_of_mem_drop hy);omega) hr
    simp only[OY,List.nil_append];refine⟨sl,?_,this.1⟩;have:=this.2;rw[List.length_drop]at this;omega
  ·omega
 ·rw[if_neg ht];exact none
def ApS (r:dL×af×List aO):Prop:=ug r.1.bF∧(r.1.fK.length:Int)≤1000000∧(∀x∈r.1.fK,V3 x)∧wid r.2.1≤1000000∧tZ r.2.2
theorem IY (l:List Int) (hl: ∀x∈l,0≤x∧x≤255):aH (fun k=>yt.f k l) ApS:=by
 have e2:steps 2=117:=by decide
 have l2:lim 2=180:=by decide
 simp only[yt.f,ay];refine aH.bind (IL l hl) fun r ⟨hb,h0⟩=> ?_
 obtain⟨b,p⟩:=r;simp only at hb h0;subst h0;refine aH.bind (IW hb 0 (by omega) (by omega)) ?_
 rintro⟨x,b1,p1⟩ ⟨⟨r1,r2,r3⟩,hx⟩;simp only at r1 r2 r3 hx;subst r1
 dsimp only
 refine aH.bind (aH.of (O0 x (by have:=hx.1;omega)) (P:=fun z=>z=wo x) rfl) fun z hz=> ?_
 subst hz;obtain⟨m1,m2,m3⟩:=Me hx;generalize (wo x).1=m at m1 m2 m3;refine aH.bind (Qq hb (by omega) (by omega)) ?_
 rintro⟨d,b2,p2⟩ ⟨⟨s1,s2,s3⟩,s4⟩;simp only at s1 s2 s3 s4;subst s1
 dsimp only
 refine aH.bind (yJ hb 2 (by omega) p2 (by omega) (by omega)) ?_
 rintro⟨f,b3,p3⟩ ⟨⟨t1,t2,t3⟩,t4⟩;simp only at t1 t2 t3 t4;subst t1
 dsimp only
 have fin: ∀(y:af) (q:Int),0≤q→q≤10000000→wid y≤1000000→aH (fun k=>yt.d8 k b3 q m.bF m.fK y.ak y.aG y.aB y.aI y.aj) ApS:=by
  intro y q q0 q1 hy;simp only[yt.d8,aJ];refine aH.bind (VW hb q q0 (by omega)) fun r hr=> ?_
  exact aH.now ⟨m1,m2,fun x hx=>(m3 x hx).1,hy,hr⟩
 have j6: ∀(y:af) (q:Int),0≤q→q≤5000000→wid y≤700000→aH (fun k=>yt.j6 k b3 q m.bF m.fK y.ak y.aG y.aB y.aI y.aj) ApS:=by
  intro y q q0 q1 hy;simp only[yt.j6,aJ];refine aH.bind (bT 24 hb q0 (by omega)) fun r ⟨g1,_,_,_⟩=> ?_
  rw[g1];refine aH.ite (fun _=> ?_) (fun _=> ?_)
  ·refine aH.bind (Eg y (n:=700000) hb (by omega) (by omega) hy (by omega)) ?_
   rintro⟨g,b4,p4⟩ ⟨⟨u1,u2,u3⟩,u4⟩;simp only at u1 u2 u3 u4;subst u1;exact fin g p4 (by omega) (by omega) (by omega)
  ·exact fin y (q+1) (by omega) (by omega) (by omega)
 have base: ∀q:Int,0≤q→q≤5000000→aH (fun k=>yt.j6 k b3 q m.bF m.fK 3 ByteArray.empty [] 0 [d,f]) ApS:=by
  intro q q0 q1;refine j6 ⟨3,ByteArray.empty,[],0,[d,f]⟩ q q0 q1 ?_;simp only[gU,bG,List.length_nil,show ByteArray.empty.size=0 from rfl];omega
 by_cases hr:(0:Int)<(m.fK.length:Int)
 ·simp only[if_pos hr];refine aH.bind (bT 6 hb (by omega) (by omega)) fun r ⟨g1,_,_,_⟩=> ?_
  rw[g1];refine aH.ite (fun _=> ?_) (fun _=> ?_)
  ·simp only[yt.d5,ay];refine aH.bind (bT (m.fK.length:Int) hb (by omega) (by omega)) fun u ⟨k1,k2,k3,_⟩=> ?_
   have k3:=k3 (by omega)
   rw[k1];simp only[if_pos k2,if_pos k3];obtain⟨_,n2,n3⟩:=m3 _ (dF kH m.fK u.1 k2 k3);refine aH.bind (Qv hb _ n3 _ (by show 0≤p3+1+1;omega) (by omega) (by show p3+1+1+_≤_;omega)) ?_
   rintro⟨g,b4,p4⟩ ⟨⟨u1,u2,u3⟩,u4⟩;simp only at u1 u2 u3 u4;subst u1;exact j6 g p4 (by omega) (by omega) (by omega)
  ·exact base (p3+1) (by omega) (by omega)
 ·simp only[if_neg hr];exact base p3 (by omega) (by omega)
theorem any_ok {b:List Int} {p:Int} (hb:yY b) (h0:0≤p) (hp:p≤10000000000):aH (fun k=>Ro.f k b p) (fun r=>On b p 400 r.2∧wid r.1≤1000):=by
 have h9:steps 3=360:=by decide
 have h8:lim 3=724:=by decide
 simp only[Ro.f];refine aH.bind (yJ hb 3 (by omega) p h0 (by omega)) fun r ⟨⟨g1,g2,g3⟩,g4⟩=> ?_
 rw[g1];refine aH.bind (bT 20 hb (by omega) (by omega)) fun s ⟨e1,_⟩=> ?_
 rw[e1];simp only[ay];refine aH.ite (fun _=> ?_) (fun _=>aH.now ⟨⟨rfl,by show p≤r.2.2+1;omega,by show r.2.2+1≤_;omega⟩,by show wid r.1≤_;omega⟩)
 refine aH.bind (Eg r.1 (n:=724) hb (by omega) (by omega) (by omega) (by omega)) fun s ⟨⟨g1,g2,g3⟩,g4⟩=> ?_
 exact aH.now ⟨⟨g1,by show p≤s.2.2;omega,by show s.2.2≤_;omega⟩,by show wid s.1≤_;omega⟩
theorem Tj (l:List Int) (hl: ∀x∈l,0≤x∧x≤255):aH (fun k=>Vf.f k l) (fun r=>wid r≤1000∧AX r=true):=by
 simp only[Vf.f,ay];refine aH.bind (IL l hl) fun r ⟨hb,h0⟩=> ?_
 obtain⟨b,p⟩:=r;simp only at hb h0;subst h0;refine aH.bind (aH.and (any_ok hb (by omega) (by omega)) (XG hb (by omega) (by omega))) fun r ⟨⟨_,h1⟩,⟨_,h2⟩⟩=> ?_
 exact aH.now ⟨h1,h2⟩
theorem Qy (l:List Int) (hl: ∀x∈l,0≤x∧x≤255):Ev (fun k=>A8.j12 k l) true:=by
 simp only[A8.j12,ay];obtain⟨r,⟨h1,h2,h3,h4,h5⟩,hev⟩:=IY l hl;refine Ev.bind hev ?_;refine Ev.bind (O4 r.1 r.2.1 r.2.2 h1 h5 h4 h2 h3) ?_;refine Ev.bind (O5 r.1 r.2.1 r.2.2 h1 h5 h4 h2 h3) ?_;simp only[if_true];refine Ev.bind (vw _ (O3 _ _ _ h4 _ h3)) ?_;simp only[if_true];refine Ev.eq (Ev.now _) ?_;rw[L_];simp
theorem V7 (l:List Int) (hl: ∀x∈l,0≤x∧x≤255):Ev (fun k=>A8.j8 k l) true:=by
 simp only[A8.j8,ay];obtain⟨t,⟨h1,h2⟩,hev⟩:=Tj l hl;refine Ev.bind hev ?_;have g:=vk t [] (by omega) (by simp) (by simp) (by simp)
 rw[LW t h2]at g;refine Ev.bind g ?_;refine Ev.bind (iL t (by omega)) ?_
 cases hok:okb t with
 |false=>simp only[not_true,Bool.false_eq_true,if_false];exact Qy l hl
 |true=>
  simp only[not_true,if_false,if_true];refine Ev.bind (vw t (by omega)) ?_
  simp only[not_true,if_false];exact Qy l hl
theorem TD (x0 x1:List Int) (w0: ∀x∈x0,0≤x∧x≤255) (w1: ∀x∈x1,0≤x∧x≤255): ∃k,A8.f k x0 x1=some true:=by
 refine Ev.some ?_;simp only[A8.f];refine Ev.ite (fun _=>Ev.now _) fun _=>Ev.ite (fun _=>Ev.now _) fun _=> ?_
 simp only[A8.j3,ay];obtain⟨r,⟨h1,h2,h3,h4⟩,hev⟩:=L9 x0 w0;refine Ev.bind hev ?_;have hG:gW (-1) r.2=true→iW r.2:=fun hg=>⟨hg,h3,h4,h2⟩
 refine Ev.bind (vk r.1 r.2 h1 h2 h3 h4) ?_;refine Ev.bind (yM r.1 r.2 h1 hG h2 h3 h4) ?_;simp only[not_true_eq_false,if_false];have hw:=GK r.1 r.2 h1 hG;refine Ev.bind (vw _ hw) ?_;simp only[not_true,if_false];cases h:(mG r.1 r.2).2 with
 |false=>simp only[Bool.false_eq_true,if_false];exact V7 x1 w1
 |true=>
  simp only[if_true];refine Ev.bind (jF _ hw) ?_;rw[LU r.1 r.2 h];simp only[not_true,if_false];exact V7 x1 w1
end
end Go.Proofs.YtmcbhnbemhfifaaGreatDoor.RX
