/- Part of a proof that a law holds at every input. -/
import Derived.Test.YtmcbhnbemhfifaaGreatDoorFzPartE
set_option autoImplicit false
set_option linter.unusedVariables false
set_option linter.unusedSimpArgs false
namespace Go.Proofs.YtmcbhnbemhfifaaGreatDoor.RX
section
open Go K
def rE (i r:Int):List af→Int
 | []=>r
 |x::l=>rE (i+1) (if aN x then i-1 else r) l
structure Vt (l:List af) (r:Int):Prop where
 hit: ∀(i:Int) (x:af) (t:List af),0≤i→l.drop i.toNat=x::t→(i=r↔aS t=true)
 pos:0≤r↔1≤bM l
 low: -1≤r
theorem zK {l:List af} (h:bM l=0): ∀y∈l,aN y=false:=by
 induction l with
 |nil=>intro y hy;cases hy
 |cons x l ih=>
  have hp:=(jr l).1;simp only[bM]at h;cases hx:aN x with
  |true=>rw[if_pos hx]at h;omega
  |false=>
   rw[hx]at h;simp only[Bool.false_eq_true,if_false]at h;intro y hy;rcases List.mem_cons.1 hy with rfl|hy
   ·exact hx
   ·exact ih (by omega) y hy
theorem qH {l:List af} (h: ∀y∈l,aN y=false):aS l=false:=by
 cases l with
 |nil=>rfl
 |cons x l=>exact h x (by simp)
theorem Ql {l:List af} (h:bM l=0): ∀i r,rE i r l=r:=by
 induction l with
 |nil=>intro i r;rfl
 |cons x l ih=>
  intro i r;have hx:=zK h x (by simp)
  simp only[bM,hx,Bool.false_eq_true,if_false]at h;simp only[rE,hx,Bool.false_eq_true,if_false];exact ih (by omega) _ _
theorem K_: ∀(l:List af),bM l=1→ ∃a d b,l=a++d::b∧aN d=true∧bM a=0∧bM b=0∧ ∀i r,rE i r l=i+(a.length:Int)-1
 | [],h=>by simp[bM]at h
 |x::l,h=>by
  cases hx:aN x with
  |true=>
   simp only[bM,hx,if_true]at h;refine⟨[],x,l,rfl,hx,rfl,by omega,fun i r=> ?_⟩
   simp only[rE,hx,if_true,Ql (show bM l=0 by omega),List.length_nil]
   omega
  |false=>
   simp only[bM,hx,Bool.false_eq_true,if_false]at h;obtain⟨a,d,b,h1,h2,h3,h4,h5⟩:=K_ l (by omega)
   refine⟨x::a,d,b,by rw[h1];rfl,h2,by simp only[bM,hx,Bool.false_eq_true,if_false];omega,h4,fun i r=> ?_⟩
   simp only[rE,h5,List.length_cons];omega
theorem IG {l:List af} (h1:bM l≤1) (h0:aS l=false):Vt l (rE 0 (-1) l):=by
 have hp:=(jr l).1
 by_cases h:bM l=0
 ·rw[Ql h];refine⟨fun i x t hi hd=>⟨fun e=>by omega,fun e=> ?_⟩,⟨fun e=>by omega,fun e=>by omega⟩,by omega⟩
  have:aS t=false:=qH fun y hy=>zK h y (List.mem_of_mem_drop (by rw[hd];exact List.mem_cons_of_mem _ hy))
  rw[this]at e;cases e
 ·obtain⟨a,d,b,e1,e2,e3,e4,e5⟩:=K_ l (by omega)
  rw[e5];have ha:a≠ []:=by
   intro e;rw[e1,e]at h0;simp[aS,e2]at h0
  have hal:1≤a.length:=by
   rcases a with _|⟨y,a⟩
   ·exact absurd rfl ha
   ·simp
  refine⟨fun i x t hi hd=> ?_,⟨fun _=>by omega,fun _=>by omega⟩,by omega⟩
  have ht:t=l.drop (i.toNat+1):=by
   have:=congrArg (List.drop 1) hd;rw[List.drop_drop]at this
   simpa using this.symm
  rw[ht,e1];rcases Nat.lt_trichotomy (i.toNat+1) a.length with hlt|heq|hgt
  ·refine⟨fun e=>by omega,fun e=> ?_⟩
   rw[List.drop_append_of_le_length (by omega),List.drop_eq_getElem_cons hlt]at e
   have:=zK e3 a[i.toNat+1] (List.getElem_mem _);simp only[List.cons_append,aS]at e;rw[this]at e;cases e
  ·refine⟨fun _=> ?_,fun _=>by omega⟩
   rw[heq,List.drop_left];exact e2
  ·refine⟨fun e=>by omega,fun e=> ?_⟩
   have:aS ((a++d::b).drop (i.toNat+1))=false:=by
    refine qH fun y hy=>zK e4 y ?_
    rw[List.drop_append,List.drop_eq_nil_of_le (by omega),List.nil_append,show i.toNat+1-a.length=(i.toNat-a.length)+1 by omega,List.drop_succ_cons]at hy
    exact List.mem_of_mem_drop hy
   rw[this]at e;cases e
theorem Vu (parts:List af) (hl:(parts.length:Int)≤1000000000) (eF:Option af) (x14:List af) (x15:Option af) (lits:List af) (binds:List aO) (s:Int) (q:Bool×List af×List aO×GL)
  (hend:Ev (fun k=>q8.EE k parts eF x14 x15 (rE 0 (-1) parts) parts (parts.length:Int) (parts.length:Int) lits binds s) q):
  Ev (fun k=>q8.EE k parts eF x14 x15 (-1) parts (parts.length:Int) 0 lits binds s) q:=by
 refine dG parts (P:=fun i suf=> ∀r,rE i r suf=rE 0 (-1) parts→Ev (fun k=>q8.EE k parts eF x14 x15 r parts (parts.length:Int) i lits binds s) q) ?_ ?_ (-1) rfl
 ·intro r hr;rw[show r=rE 0 (-1) parts from hr]
  exact hend
 ·intro i x t h0 h1 hx hm hl' _ _ ih r hr;refine Ev.shift ?_;simp (disch:=omega) only[q8.EE,if_pos,hx,eu,ay];refine Ev.bind (mZ x) ?_;cases hd:aN x with
  |true=>
   simp only[if_true];exact ih _ (by rw[←hr];simp only[rE,hd,if_true])
  |false=>
   simp only[Bool.false_eq_true,if_false];exact ih _ (by rw[←hr];simp only[rE,hd,Bool.false_eq_true,if_false])
theorem D_ {α:Type} (l:List α) (z y:α):(l++ [z]).set ((l.length:Int).toNat) y=l++ [y]:=by simp
theorem Vw (parts:List af) (eF:Option af) (own:List af) (x15:Option af) (rep Ea at' vI n:Int) (hn:0<n) (hat:0≤at') (aeb:at'≤1000000000) (hnb:n≤1000000000) (lits:List af) (binds:List aO) (a1:GL) (q:Bool×List af×List aO×GL):
  ∀(todo done gd g:GL) (i:Int),(done.length:Int)=i→(gd.length:Int)=i→todo.length≤g.length→((done++todo).length:Int)≤1000000000→(∀y∈todo,(y.aP.length:Int)≤1000000000)→
  Ev (fun k=>q8.l46 k parts eF own x15 rep Ea (at'+1) vI (n-1) lits binds a1 (done++rD todo g)) q→
  Ev (fun k=>q8.KT k parts eF own x15 rep Ea at' vI n ((done++todo).length:Int) i lits binds a1 (done++todo) (gd++g)) q:=by
 intro todo
 induction todo with
 |nil=>
  intro done gd g i h1 h2 h3 h4 h5 hk;refine Ev.shift ?_;rw[List.append_nil]at h4⊢;simp (disch:=omega) only[q8.KT,if_neg,eu];have:rD [] g= []:=by cases g<;>rfl
  rw[this,List.append_nil]at hk;exact hk
 |cons t todo ih=>
  intro done gd g i h1 h2 h3 h4 h5 hk;cases g with
  |nil=>simp at h3
  |cons y g=>
   have ht:=h5 t (by simp)
   have hlen:((done++t::todo).length:Int)=i+1+(todo.length:Int):=by rw[List.length_append,List.length_cons];omega
   have hlen2:((gd++y::g).length:Int)=i+1+(g.length:Int):=by rw[List.length_append,List.length_cons];omega
   have i0:0≤i:=by omega
   refine Ev.shift ?_;have e1:(done++t::todo).getD i.toNat az=t:=uH h1;have e2:(gd++y::g).getD i.toNat az=y:=uH h2;rw[hlen]at h4;simp (disch:=first|omega|(simp only[List.length_append,List.length_singleton];omega)) only[q8.KT,q8.Zo,if_pos,e1,e2,ay,uO,D_,hlen,hlen2,Ia h1,eu]
   have:=ih (done++ [{t with aP:=t.aP++ [y]}]) (gd++ [y]) g (i+1) (by rw[List.length_append,List.length_singleton];omega) (by rw[List.length_append,List.length_singleton];omega) (by simpa using h3) (by simp only[List.length_append,List.length_singleton];omega) (fun z hz=>h5 z (by simp[hz])) (by simpa [rD]using hk)
   have hlen3:((done++ [{t with aP:=t.aP++ [y]}]++todo).length:Int)=i+1+(todo.length:Int):=by simp only[List.length_append,List.length_singleton];omega
   rw[hlen3]at this
   simpa using this
theorem zL (n:Int): ∀(a g:GL),(∀y∈a,(y.aP.length:Int)≤n)→ ∀y∈rD a g,(y.aP.length:Int)≤n+1
 | [],g,h,y,hy=>by cases g<;>cases hy
 |x::a,[],h,y,hy=>by have:=h y hy;omega
 |x::a,z::g,h,y,hy=>by
  simp only[rD]at hy;rcases List.mem_cons.1 hy with rfl|hy
  ·have:=h x (by simp)
   simp only[List.length_append,List.length_singleton];omega
  ·exact zL n a g (fun w hw=>h w (by simp[hw])) y hy
def ends (lits:List af) (binds:List aO) {α:Type} (E:α→Bool×List af×List aO×GL):Option α→Bool×List af×List aO×GL
 |some a=>E a
 |none=>(false,lits,binds,[])
theorem RN (parts:List af) (eF:Option af) (own:List af) (x15:Option af) (rep Ea vI:Int) (lits:List af) (binds:List aO) (a1:GL) (hown:(own.length:Int)≤500000000) (h0:0≤rep) (h1:rep<(parts.length:Int)) (p:af) (hp:aF ah parts rep=p)
  (m:af→Option GL) (N:Nat) (hN:(N:Int)≤1000000000) (hm: ∀f∈own,Ev (fun k=>q8.f k p f lits binds) ((lQ (m f)).1,lits,binds,(lQ (m f)).2)) (hlen: ∀f g,m f=some g→g.length=N)
  (E:GL→Bool×List af×List aO×GL):
  ∀(xs:List af) (at':Int) (ns:GL) (n:Int),0≤at'→(∃r,own.drop at'.toNat=xs++r)→(xs.length:Int)=n→ns.length=N→(∀y∈ns,(y.aP.length:Int)≤at')→
  (∀g:GL,g.length=N→Ev (fun k=>q8.l46 k parts eF own x15 rep Ea (at'+n) vI 0 lits binds a1 g) (E g))→
  Ev (fun k=>q8.l46 k parts eF own x15 rep Ea at' vI n lits binds a1 ns) (ends lits binds E (kX m ns xs)):=by
 intro xs
 induction xs with
 |nil=>
  intro at' ns n ha hr hn hns hmm hk;simp only[kX,ends];have:=hk ns hns;have e:n=0:=by simp at hn;omega
  subst e
  simpa using this
 |cons x xs ih=>
  intro at' ns n ha hr hn hns hmm hk;obtain⟨r,hr⟩:=hr;have hlt:at'.toNat<own.length:=by
   rcases Nat.lt_or_ge at'.toNat own.length with h|h
   ·exact h
   ·rw[List.drop_eq_nil_of_le h]at hr;simp at hr
  have hx:aF ah own at'=x:=by
   rw[List.drop_eq_getElem_cons hlt]at hr;rw[show at'=((at'.toNat:Nat):Int) by omega,g_ _ _ _ hlt]
   exact(List.cons.inj hr).1
  have hxm:x∈own:=by rw[←hx];exact dF _ _ _ ha (by omega)
  rw[List.length_cons]at hn;have hxl:at'+n≤(own.length:Int):=by
   have:=congrArg List.length hr;simp only[List.length_drop,List.length_append,List.length_cons]at this;omega
  refine Ev.shift ?_;simp (disch:=omega) only[q8.l46,if_pos,hp,hx,ay];refine Ev.bind (hm x hxm) ?_;simp only[kX];cases hmx:m x with
  |none=>simp only[lQ,Bool.false_eq_true,not_false_eq_true,if_true,Option.bind_none,ends];exact Ev.now _
  |some g=>
   simp only[lQ,not_true,if_false,Option.bind_some];have hg:=hlen x g hmx;have:=Vw parts eF own x15 rep Ea at' vI n (by omega) ha (by omega) (by omega) lits binds a1 (ends lits binds E (kX m (rD ns g) xs)) ns [] [] g 0 rfl rfl (by omega) (by simp;omega) (fun y hy=>by have:=hmm y hy;omega) (by
    simp only[List.nil_append];refine ih (at'+1) (rD ns g) (n-1) (by omega) ⟨r,?_⟩ (by omega) (by rw[yB];exact hns) (zL at' ns g hmm) ?_
    ·rw[show(at'+1).toNat=at'.toNat+1 by omega,←List.drop_drop,hr];rfl
    ·intro g' hg';have:=hk g' hg'
     rwa [show at'+1+(n-1)=at'+n by omega])
   simpa using this
abbrev EH (lits:List af):af→GL:=fun x=>iT lits x 1
theorem BR {α:Type} {d:α} {l:List α} {i:Int} (h0:0≤i) (h1:i<(l.length:Int)):l.drop i.toNat=aF d l i::l.drop (i.toNat+1):=by
 have h8:i.toNat<l.length:=by omega
 have:=g_ d l i.toNat h8;rw[show((i.toNat:Nat):Int)=i by omega]at this
 rw[List.drop_eq_getElem_cons h8,this]
theorem Vx {l:List af} (h:aS l=false) (h1:1≤bM l):1≤nP l:=by
 cases l with
 |nil=>simp[bM]at h1
 |cons x l=>
  simp only[aS]at h;simp only[nP,h,Bool.false_eq_true,if_false];omega
theorem Vy (parts:List af) (eF:Option af) (own:List af) (x15:Option af) (rep Ea:Int) (lits:List af) (binds:List aO) (m:af→af→Option GL)
  (hown:(own.length:Int)≤500000000) (hpl:(parts.length:Int)≤500000000) (hrep:Vt parts rep) (hd1:bM parts≤1) (hd0:aS parts=false) (hoth:Ea=(parts.length:Int)-(if 0≤rep then 2 else 0))
  (hm: ∀p∈parts,aN p=false→ ∀f∈own,Ev (fun k=>q8.f k p f lits binds) ((lQ (m p f)).1,lits,binds,(lQ (m p f)).2))
  (hn: ∀p∈parts,Ev (fun k=>qk.f k p 1 lits binds) (lits,binds,iT lits p 1))
  (hlen: ∀p∈parts,aN p=false→ ∀f g,m p f=some g→g.length=(dV lits p).length)
  (hs:((dY lits parts).length:Int)≤500000000) (E:GL×List af→Bool×List af×List aO×GL)
  (hend: ∀(at':Int) (a1:GL),0≤at'→at'≤(own.length:Int)→(a1.length:Int)≤1000000000→Ev (fun k=>q8.BP k parts eF own x15 rep Ea at' (parts.length:Int) lits binds a1) (E (a1,own.drop at'.toNat)))
  (hle:(nP parts:Int)-bM parts≤(own.length:Int)):
  Ev (fun k=>q8.BP k parts eF own x15 rep Ea 0 0 lits binds []) (ends lits binds E (kN m (EH lits) parts own)):=by
 let Q:Int→List af→Prop:=fun i suf=> ∀(at':Int) (a1:GL),0≤at'→at'≤(own.length:Int)→(1≤bM suf→at'=i)→(nP suf:Int)-bM suf≤(own.length:Int)-at'→(a1.length:Int)+((dY lits suf).length:Int)≤1000000000→
  Ev (fun k=>q8.BP k parts eF own x15 rep Ea at' i lits binds a1) (ends lits binds E ((kN m (EH lits) suf (own.drop at'.toNat)).map (pre a1)))
 have key: ∀(d:aS parts=false),bM parts≤1→Q 0 parts:=by
  intro d h1;have:=dG parts (P:=fun i suf=>bM suf≤1→if aS suf=true then Q (i+1) suf.tail else Q i suf) ?_ ?_ h1
  ·rw[d]at this;simpa using this
  ·intro _;simp only[aS,Bool.false_eq_true,if_false];intro at' a1 h2 h3 _ _ h6;simp only[kN,Option.map_some,pre,List.append_nil,ends];exact hend at' a1 h2 h3 (by simp only[dY,List.length_nil]at h6;omega)
  ·intro i x t i0 i1 hx hxm hl hdr _ ih hds;have hdp:=(jr t).1;have hit:=hrep.hit i x t i0 hdr;have hnp:=yA t;have hnm:=kW lits x 1;cases Bv:aN x with
   |true=>
    simp only[aS,Bv,if_true,List.tail_cons];simp only[bM,Bv,if_true]at hds;have hz:aS t=false:=qH (zK (by omega))
    have:=ih (by omega)
    rw[hz]at this
    simpa using this
   |false=>
    simp only[aS,Bv,Bool.false_eq_true,if_false];simp only[bM,Bv,Bool.false_eq_true,if_false]at hds;have ih:=ih (by omega)
    intro at' a1 h2 h3 h4 h5 h6;simp only[bM,nP,Bv,Bool.false_eq_true,if_false]at h4 h5;simp only[dY,List.length_append]at h6;refine Ev.shift ?_;cases hdt:aS t with
    |true=>
     obtain⟨dd,ps,ht⟩: ∃dd ps,t=dd::ps:=by
      cases t with
      |nil=>simp[aS]at hdt
      |cons dd ps=>exact⟨dd,ps,rfl⟩
     subst ht;have hdd:aN dd=true:=hdt;rw[if_pos hdt]at ih;simp only[List.tail_cons]at ih;simp only[bM,nP,hdd,if_true]at hds h4 h5 hnp hdp;have hps:=(jr ps).1;have z:bM ps=0:=by omega
     have hir:i=rep:=hit.2 hdt;have hai:at'=i:=h4 (by omega)
     simp only[List.length_cons]at hl hnp;rw[if_pos (show 0≤rep by omega)]at hoth
     have aec:=yA ps;simp (disch:=omega) only[q8.BP,if_pos,if_neg (bg hir),eu,ay];rw[show aF ah parts rep=x by rw[←hir];exact hx _]
     refine Ev.bind (hn x hxm) ?_;have hrl:(own.drop at'.toNat).length-nP (dd::ps)=((own.length:Int)-Ea).toNat:=by
      rw[List.length_drop];simp only[nP,hdd,if_true];omega
     have:=RN parts eF own x15 rep Ea (i+1) lits binds a1 hown (by omega) (by omega) x (by rw[←hir];exact hx _) (m x) (dV lits x).length (by omega) (hm x hxm Bv) (hlen x hxm Bv)
      (fun g=>ends lits binds E ((kN m (EH lits) ps (own.drop (at'+((own.length:Int)-Ea)).toNat)).map (pre (a1++g)))) ((own.drop at'.toNat).take ((own.length:Int)-Ea).toNat) at' (iT lits x 1) ((own.length:Int)-Ea) (by omega) ⟨_,(List.take_append_drop _ _).symm⟩ (by rw[List.length_take,List.length_drop];omega) hnm
      (fun y hy=>by rw[vK lits x 1 y hy];simp;omega) ?_
     ·refine this.eq ?_;simp only[kN,Bv,hdt,hdd,Bool.false_eq_true,if_false,if_true];rw[hrl,List.drop_drop];rw[show(at'+((own.length:Int)-Ea)).toNat=at'.toNat+((own.length:Int)-Ea).toNat by omega]
      cases kX (m x) (iT lits x 1) ((own.drop at'.toNat).take ((own.length:Int)-Ea).toNat) with
      |none=>rfl
      |some g=>
       simp only[ends,Option.bind_some];cases kN m (EH lits) ps (own.drop (at'.toNat+((own.length:Int)-Ea).toNat)) with
       |none=>rfl
       |some q=>simp only[Option.map_some,pre,List.append_assoc]
     ·intro g hg;refine Ev.shift ?_;simp (disch:=omega) only[q8.l46,if_neg,if_pos,eu];have e:=ih (at'+((own.length:Int)-Ea)) (a1++g) (by omega) (by omega) (fun h=>by omega) (by omega) (by
       have hn2:((dV lits dd).length:Int)=0:=by
        rw[iQ]
        split
        ·simp[hdd]
        ·unfold aN at hdd;simp at hdd;omega
       simp only[dY,List.length_append]at h6;rw[List.length_append];omega)
      rwa [show i+1+1=i+1+1 from rfl]at e
    |false=>
     rw[if_neg (by rw[hdt];decide)]at ih
     have hir: ¬i=rep:=fun e=>by rw[hit.1 e]at hdt;cases hdt
     have hlt:at'<(own.length:Int):=by
      by_cases z:1≤bM t
      ·have:=Vx hdt z;omega
      ·omega
     have hdo:=BR (d:=ah) (l:=own) h2 hlt;have hym:aF ah own at'∈own:=dF _ _ _ h2 hlt;generalize hy:aF ah own at'=y at hdo hym;simp (disch:=omega) only[q8.BP,if_pos,if_pos hir,hx,hy,eu,ay];have hb:=hm x hxm Bv y hym;rw[hdo];simp only[kN,Bv,hdt,Bool.false_eq_true,if_false];cases hmx:m x y with
     |none=>
      rw[hmx]at hb;have hb:Ev (fun k=>q8.f k x y lits binds) (false,lits,binds,[]):=hb
      refine Ev.bind hb ?_;simp only[Bool.false_eq_true,not_false_eq_true,if_true,Option.bind_none,Option.map_none,ends];exact Ev.now _
     |some g=>
      rw[hmx]at hb;have hb:Ev (fun k=>q8.f k x y lits binds) (true,lits,binds,g):=hb
      refine Ev.bind hb ?_;have hg:=hlen x hxm Bv y g hmx;simp only[not_true,if_false,Option.bind_some];simp (disch:=omega) only[if_pos];have e:=ih (at'+1) (a1++g) (by omega) (by omega) (fun h=>by have:=h4 (by omega);omega) (by omega) (by rw[List.length_append];omega)
      refine e.eq ?_;rw[show(at'+1).toNat=at'.toNat+1 by omega]
      cases kN m (EH lits) t (own.drop (at'.toNat+1)) with
      |none=>rfl
      |some q=>simp only[Option.map_some,pre,List.append_assoc]
 have:=key hd0 hd1 0 [] (by omega) (by omega) (fun _=>rfl) (by omega) (by simp;omega)
 simp only[Int.toNat_zero,List.drop_zero]at this;refine this.eq ?_;cases kN m (EH lits) parts own with
 |none=>rfl
 |some q=>rfl
structure acH (lits:List af) (p:af) (e:Int):Prop where
 head:aS (partsOf p)=false
 one:bM (partsOf p)≤1
 fin:p.ak=4→aN (lastOf p)=false∧lastOf p∈p.aj∧((lastOf p).ak=1∨(lastOf p).ak=2)∧partsOf p++ [lastOf p]=p.aj
 kids: ∀x∈p.aj,jl x (e+1)=true∧l9 x=true
 sub: ∀x∈partsOf p,x∈p.aj
 XB:((partsOf p).length:Int)≤(p.aj.length:Int)
 aa9:bG (partsOf p)≤bG p.aj
 nm:dV lits p=dY lits (partsOf p)++(if p.ak=4 then dV lits (lastOf p) else [])
 sh:p.ak=3∨(p.ak=4∧2≤(p.aj.length:Int))
theorem RP {l:List af} (h:jv l=true): ∀x∈l,l9 x=true:=by
 intro x hx
 induction l with
 |nil=>cases hx
 |cons y l ihl=>
  simp only[jv,Bool.and_eq_true]at h;rcases List.mem_cons.1 hx with rfl|hx
  ·exact h.1
  ·exact ihl h.2 hx
theorem Vz (lits:List af) {p:af} {e:Int} (hok:jl p e=true) (hst:l9 p=true) (h1: ¬p.ak=1) (h2: ¬p.ak=2):acH lits p e:=by
 rcases bU hok with⟨h,_⟩|⟨h,_⟩|⟨hsh,hks⟩
 ·exact absurd h h1
 ·exact absurd h h2
 rw[oK,if_neg (by omega)]at hst
 simp only[Bool.and_eq_true,Bool.or_eq_true,Bool.not_eq_true',decide_eq_false_iff_not,Je,decide_eq_true_eq]at hst;obtain⟨⟨g1,g2⟩,hle,hsk⟩:=hst;have hsub: ∀x∈partsOf p,x∈p.aj:=by
  intro x hx;unfold partsOf at hx
  split at hx
  ·exact List.mem_of_mem_take hx
  ·exact hx
 have hfin:p.ak=4→aN (lastOf p)=false∧lastOf p∈p.aj∧((lastOf p).ak=1∨(lastOf p).ak=2)∧partsOf p++ [lastOf p]=p.aj:=by
  intro h4;have h5:2≤(p.aj.length:Int):=by omega
  exact⟨hle.resolve_left (by omega),dF _ _ _ (by omega) (by omega),lK hok h4,ng h5 h4⟩
 refine⟨g1,by omega,hfin,fun x hx=>⟨gI hks x hx,RP hsk x hx⟩,hsub,?_,?_,?_,hsh⟩
 ·unfold partsOf;split
  ·rw[List.length_take];omega
  ·omega
 ·unfold partsOf;split
  ·exact oJ _ _
  ·exact Int.le_refl _
 ·rw[iQ,if_neg h1];rcases hsh with h3|⟨h4,h5⟩
  ·have n4: ¬p.ak=4:=by omega
   simp only[partsOf,if_neg n4,List.append_nil]
  ·rw[if_pos h4];have:=(hfin h4).2.2.2;rw[←this,Aw];simp[dY]
theorem La (lits:List af) {x:af} (h:aN x=true):dV lits x= []:=by
 rw[iQ]
 split
 ·simp[h]
 ·unfold aN at h;simp at h;omega
theorem Lc (lits:List af) (m:af→af→Option GL): ∀(suf own:List af) (q:GL×List af),(∀p∈suf,aN p=false→ ∀f g,m p f=some g→g.length=(dV lits p).length)→kN m (EH lits) suf own=some q→q.1.length=(dY lits suf).length
 | [],own,q,_,h=>by simp only[kN,Option.some.injEq]at h;rw[←h];rfl
 |p::ps,own,q,hm,h=>by
  have ih:=fun own q=>Lc lits m ps own q (fun x hx=>hm x (List.mem_cons_of_mem _ hx))
  simp only[kN]at h;simp only[dY,List.length_append];cases hd:aN p with
  |true=>
   rw[hd]at h;simp only[if_true]at h;rw[La lits hd]
   simpa using ih own q h
  |false=>
   rw[hd]at h;simp only[Bool.false_eq_true,if_false]at h;have hp:=hm p (by simp) hd
   split at h
   ·simp only[Option.bind_eq_some_iff,Option.map_eq_some_iff]at h;obtain⟨g,h1,q',h2,h3⟩:=h;rw[←h3];simp only[pre,List.length_append];rw[ih _ _ h2,zJ _ _ _ _ h1,kW]
   ·cases own with
    |nil=>cases h
    |cons x own=>
     simp only[Option.bind_eq_some_iff,Option.map_eq_some_iff]at h;obtain⟨g,h1,q',h2,h3⟩:=h;rw[←h3];simp only[pre,List.length_append];rw[ih _ _ h2,hp x g h1]
theorem BU (lits:List af) (binds:List aO): ∀(n:Nat) (p:af) (e:Int) (f:af) (g:GL),jl p e=true→l9 p=true→aN p=false→mM lits binds n p f=some g→g.length=(dV lits p).length:=by
 intro n
 induction n with
 |zero=>intro p e f g _ _ _ h;cases h
 |succ n ih=>
  intro p e f g hok hst hd h;simp only[mM]at h
  by_cases h1:p.ak=1
  ·rw[if_pos h1]at h;rw[iQ,if_pos h1,hd];unfold KZ at h;cases hl:inB lits p with
   |true=>
    rw[hl]at h;simp only[if_true]at h
    split at h
    ·split at h
     ·injection h with h;subst h;simp
     ·cases h
    ·cases h
   |false=>
    rw[hl]at h;simp only[Bool.false_eq_true,if_false]at h;cases hb:fE p with
    |true=>rw[hb]at h;simp only[if_true,Option.some.injEq]at h;subst h;simp
    |false=>rw[hb]at h;simp only[Bool.false_eq_true,if_false,Option.some.injEq]at h;subst h;simp
  rw[if_neg h1]at h
  by_cases h2:p.ak=2
  ·rw[if_pos h2]at h;have hk:p.aj= []:=by
    rcases bU hok with⟨h',k⟩|⟨_,k⟩|⟨h',_⟩
    ·exact k
    ·exact k
    ·omega
   rw[iQ,if_neg h1,hk]
   split at h
   ·split at h
    ·injection h with h;subst h;rfl
    ·cases h
   ·cases h
  rw[if_neg h2]at h;have P:=Vz lits hok hst h1 h2;unfold D9 at h
  split at h
  ·cases h
  simp only[Option.bind_eq_some_iff]at h;obtain⟨q,hq,h⟩:=h;have hl:=Lc lits _ _ _ _ (fun x hx Bv f' g' hg'=>ih x (e+1) f' g' (P.kids x (P.sub x hx)).1 (P.kids x (P.sub x hx)).2 Bv hg') hq
  rw[P.nm,List.length_append]
  split at h
  ·rename_i h4;rw[if_pos h4];obtain⟨f1,f2,_⟩:=P.fin h4;simp only[Option.map_eq_some_iff]at h;obtain⟨g',hg',rfl⟩:=h;rw[List.length_append,hl,ih _ _ _ _ (P.kids _ f2).1 (P.kids _ f2).2 f1 hg']
  ·rename_i h4;rw[if_neg h4];injection h with h
   rw[←h,hl]
   rfl
theorem l_ {l:List af} {x:af} (h:x∈l):cnt x≤cnts l:=by
 induction l with
 |nil=>cases h
 |cons y l ih=>
  simp only[cnts];have:=(dQ l).1;have hy:=(dm y).1;rcases List.mem_cons.1 h with rfl|h
  ·omega
  ·have:=ih h;omega
def zM (lits:List af) (binds:List aO) (o:Option GL):Bool×List af×List aO×GL:=((lQ o).1,lits,binds,(lQ o).2)
theorem rF (ks:List af) (e:af):wid (d_ ks e)≤1+bG ks+wid e:=by
 have:=dO ks;have hp:=aW e;unfold d_
 split
 ·omega
 ·split
  ·rw[gU,dh];simp;omega
  ·rw[gU,dh,iD];simp;omega
theorem Ld (a b:ByteArray×Int) (t u:ByteArray) (lits:List af) (binds:List aO):
  (if(b.2=(1:Int)) then(if(a.2=(1:Int)) then(if(b.1.toList=a.1.toList) then(some (true,lits,binds,([]:GL))) else(if(b.2=(0:Int)) then(if(a.2=(0:Int)) then(some ((decide (u.toList=t.toList)),lits,binds,[])) else(some (false,lits,binds,[]))) else(some (false,lits,binds,[])))) else(if(b.2=(0:Int)) then(if(a.2=(0:Int)) then(some ((decide (u.toList=t.toList)),lits,binds,[])) else(some (false,lits,binds,[]))) else(some (false,lits,binds,[])))) else(if(b.2=(0:Int)) then(if(a.2=(0:Int)) then(some ((decide (u.toList=t.toList)),lits,binds,[])) else(some (false,lits,binds,[]))) else(some (false,lits,binds,[]))))
   =some (zM lits binds (if st2 a b t u=true then some [] else none)):=by
 unfold st2
 by_cases b1:b.2=1
 ·have b0: ¬b.2=0:=by omega
  by_cases a1:a.2=1
  ·by_cases n:b.1.toList=a.1.toList<;>simp[b1,a1,n,zM,lQ]
  ·simp[b1,a1,zM,lQ]
 ·by_cases b0:b.2=0
  ·by_cases a0:a.2=0
   ·by_cases n:u.toList=t.toList<;>simp[b0,a0,n,zM,lQ]
   ·simp[b0,a0,zM,lQ]
  ·simp[b1,b0,zM,lQ]
def Oo (lits:List af) (binds:List aO) (m:af→af→Option GL) (eo lo:Option af) (q:GL×List af):Bool×List af×List aO×GL:=
 zM lits binds (match eo with|some y=>(m y (gm q.2 lo)).map (q.1++ ·)|none=>some q.1)
theorem VA (parts own:List af) (eo lo:Option af) (rep Ea:Int) (lits:List af) (binds:List aO) (m:af→af→Option GL) (at':Int) (a1:GL) (h0:0≤at') (h1:at'≤(own.length:Int)) (ha:(a1.length:Int)≤1000000000)
  (hown:(own.length:Int)≤500000000) (how:bG own≤400000000) (hlo: ∀y,lo=some y→wid y≤400000000)
  (hm: ∀y,eo=some y→ ∀f',wid f'≤1000000000→Ev (fun k=>q8.f k y f' lits binds) (zM lits binds (m y f')))
  (hml: ∀y,eo=some y→ ∀f' g,m y f'=some g→(g.length:Int)≤100000000):
  Ev (fun k=>q8.BP k parts eo own lo rep Ea at' (parts.length:Int) lits binds a1) (Oo lits binds m eo lo (a1,own.drop at'.toNat)):=by
 have nl: ¬(parts.length:Int)<(parts.length:Int):=Int.lt_irrefl _;refine Ev.shift ?_;cases eo with
 |none=>
  simp only[q8.BP,if_neg nl,Option.isSome,if_true,Oo];exact Ev.now _
 |some y=>
  have hdrop:(own.take (own.length:Int).toNat).drop at'.toNat=own.drop at'.toNat:=by rw[Int.toNat_natCast,List.take_length]
  have ns: ¬(Option.isSome (some y)=false):=by simp
  have hdw:bG (own.drop at'.toNat)≤400000000∧((own.drop at'.toNat).length:Int)≤500000000:=by
   have:=dh (own.take at'.toNat) (own.drop at'.toNat);rw[List.take_append_drop]at this;have h9:=(dO (own.take at'.toNat)).1;rw[List.length_drop];omega
  have go: ∀z:af,wid z≤1000000000→z=gm (own.drop at'.toNat) lo→Ev (fun k=>q8.j63 k (some y) lits binds a1 z.ak z.aG z.aB z.aI z.aj) (Oo lits binds m (some y) lo (a1,own.drop at'.toNat)):=by
   intro z hz e;simp only[q8.j63,q8.Xt,Option.bind_some,ay,aJ,Oo];have hb:=hm y rfl z hz;have hl:=hml y rfl z;rw[←e];cases hmz:m y z with
   |none=>
    rw[hmz]at hb;have hb:Ev (fun k=>q8.f k y z lits binds) (false,lits,binds,[]):=hb
    refine Ev.bind hb ?_;simp only[Bool.false_eq_true,not_false_eq_true,if_true];exact Ev.now _
   |some g=>
    rw[hmz]at hb;have hb:Ev (fun k=>q8.f k y z lits binds) (true,lits,binds,g):=hb
    have hg:=hl g hmz;refine Ev.bind hb ?_;simp only[not_true,if_false];rw[if_pos (by omega)]
    exact Ev.now _
  have c1:at'≤(own.length:Int):=h1;have c2:(own.length:Int)≤(own.length:Int):=Int.le_refl _;simp only[q8.BP,if_neg nl,if_neg ns,if_pos h0,if_pos c1,if_pos c2,hdrop];cases lo with
  |none=>
   simp only[Option.isSome,Bool.false_eq_true,if_false];exact go ⟨3,ByteArray.empty,[],0,own.drop at'.toNat⟩ (by rw[gU];simp;omega) rfl
  |some l=>
   simp only[Option.isSome,if_true,Option.bind_some,ay];have hwl:=hlo l rfl;refine Ev.bind (Gj (own.drop at'.toNat) l (by omega) (by omega)) ?_
   exact go (d_ (own.drop at'.toNat) l) (by have:=rF (own.drop at'.toNat) l;omega) rfl
theorem Oq (lits:List af) (binds:List aO) (zI:ug lits) (hb:tZ binds): ∀(n:Nat) (p:af) (e:Int) (f:af),cnt p≤(n:Int)→jl p e=true→l9 p=true→(p.ak=3∨p.ak=4→ ∃d,jl f d=true∧wid f≤300000000)→wid p≤100000000→wid f≤1000000000→
  Ev (fun k=>q8.f k p f lits binds) (zM lits binds (mM lits binds n p f)):=by
 intro n
 induction n with
 |zero=>intro p e f hc;have:=(dm p).1;omega
 |succ n ih=>
  intro p e f hc hok hst hf hwp hwf;have hpp:=aW p;have hpf:=aW f;refine Ev.shift ?_
  by_cases h1:p.ak=1
  ·have b2:(p.aG.toList=(ByteArray.mk #[95]).toList)↔bytesOf p.aG= [95]:=lit_eq _ _ (by decide)
   have e2:fE p=decide (bytesOf p.aG= [95]):=by simp[fE,h1]
   simp only[q8.f,if_pos h1,ay,mM,KZ];refine Ev.bind (BQ lits p zI) ?_;cases inB lits p with
   |true=>
    simp only[if_true]
    by_cases f1:f.ak=1
    ·simp only[if_neg (bg f1),if_pos f1,q8.j8,aJ];refine Ev.bind (Gi binds hb f (by omega) f1) ?_
     refine Ev.bind (Gi binds hb p (by omega) h1) ?_
     simp only[Ld];exact Ev.now _
    ·simp only[if_pos f1,if_neg f1];exact Ev.now _
   |false=>
    simp only[Bool.false_eq_true,if_false];rw[e2]
    by_cases d2:bytesOf p.aG= [95]
    ·simp only[if_pos (b2.2 d2),decide_eq_true d2,if_true];exact Ev.now _
    ·have d2': ¬p.aG.toList=(ByteArray.mk #[95]).toList:=fun h=>d2 (b2.1 h)
     simp only[if_neg d2',decide_eq_false d2,Bool.false_eq_true,if_false,q8.d13,aJ];refine Ev.bind (Qk p (by omega)) ?_
     refine Ev.bind (Qk f (by omega)) ?_
     simp only[ay];exact Ev.now _
  by_cases h2:p.ak=2
  ·simp only[q8.f,if_neg h1,if_pos h2,mM]
   by_cases f2:f.ak=2
   ·simp only[if_pos f2]
    by_cases t:f.aG.toList=p.aG.toList
    ·simp only[if_pos t,decide_eq_true t];exact Ev.now _
    ·simp only[if_neg t,decide_eq_false t];exact Ev.now _
   ·simp only[if_neg f2];exact Ev.now _
  have P:=Vz lits hok hst h1 h2;obtain⟨d,sN,aed⟩:=hf (by have:=P.sh;omega)
  have acI:=yA (partsOf p);have hdp:=(jr (partsOf p)).1;have Le: ∀y∈bf f,jl y (d+1)=true∧wid y≤300000000:=by
   intro y hy;unfold bf at hy
   split at hy
   ·rename_i hs;have hmem:y∈f.aj:=by
     unfold partsOf at hy
     split at hy
     ·exact List.mem_of_mem_take hy
     ·exact hy
    have hwy:=bZ hmem;rcases bU sN with⟨h',_⟩|⟨h',_⟩|⟨_,h'⟩
    ·omega
    ·omega
    ·exact⟨gI h' y hmem,by omega⟩
   ·cases hy
  have hown:((bf f).length:Int)≤500000000∧bG (bf f)≤400000000:=by
   unfold bf
   split
   ·unfold partsOf
    split
    ·have:=oJ f.aj (f.aj.length-1);rw[List.length_take];omega
    ·omega
   ·simp[bG]
  have hrep:=IG P.one P.head;generalize hr:rE 0 (-1) (partsOf p)=rep at hrep;have hoth:least p=((partsOf p).length:Int)-(if 0≤rep then 2 else 0):=by
   unfold least;have:=hrep.pos;have:=P.one
   split<;>omega
  have hpl:=P.XB;have hpw:=P.aa9;have hnm:=(xk lits (partsOf p)).1;have hck:cnt p=1+cnts p.aj:=jh p;have hsub: ∀x∈p.aj,cnt x≤(n:Int)∧wid x≤100000000:=fun x hx=>⟨by have:=l_ hx;omega,by have:=bZ hx;omega⟩
  have Gl: ∀x∈p.aj,aN x=false→ ∀f' g,mM lits binds n x f'=some g→g.length=(dV lits x).length:=fun x hx hd f' g hg=>BU lits binds n x (e+1) f' g (P.kids x hx).1 (P.kids x hx).2 hd hg
  have hlo: ∀y,eP f=some y→wid y≤400000000:=by
   intro y hy;unfold eP at hy
   split at hy
   ·cases hy
   ·split at hy
    ·rename_i s4;injection hy with hy
     rw[←hy];rcases bU sN with⟨h',_⟩|⟨h',_⟩|⟨h',_⟩
     ·omega
     ·omega
     ·have hmem:lastOf f∈f.aj:=dF _ _ _ (by omega) (by omega)
      have:=bZ hmem;omega
    ·injection hy with hy
     rw[←hy];omega
  have fine:(nP (partsOf p):Int)-bM (partsOf p)≤((bf f).length:Int)→Ev (fun k=>q8.BP k (partsOf p) (if p.ak=4 then some (lastOf p) else none) (bf f) (eP f) rep (least p) 0 0 lits binds []) (ends lits binds (Oo lits binds (mM lits binds n) (if p.ak=4 then some (lastOf p) else none) (eP f)) (kN (mM lits binds n) (EH lits) (partsOf p) (bf f))):=by
   intro hle;have heo: ∀y,(if p.ak=4 then some (lastOf p) else none)=some y→p.ak=4∧y=lastOf p:=by
    intro y hy
    split at hy
    ·rename_i s4;injection hy with hy;exact⟨s4,hy.symm⟩
    ·cases hy
   refine Vy (partsOf p) _ (bf f) _ rep (least p) lits binds (mM lits binds n) hown.1 (by omega) hrep P.one P.head hoth (fun x hx hd y hy=> ?_) (fun x hx=> ?_) (fun x hx hd f' g hg=>Gl x (P.sub x hx) hd f' g hg) (by omega) _ (fun at' a1 g3 g4 g5=> ?_) hle
   ·have hk:=P.kids x (P.sub x hx);exact ih x (e+1) y (hsub x (P.sub x hx)).1 hk.1 hk.2 (fun _=>⟨d+1,Le y hy⟩) (hsub x (P.sub x hx)).2 (by have:=(Le y hy).2;omega)
   ·have hk:=P.kids x (P.sub x hx);exact RJ lits binds zI x (e+1) hk.1 hk.2 1 (by omega) (by have:=(hsub x (P.sub x hx)).2;omega)
   ·refine VA (partsOf p) (bf f) _ (eP f) rep (least p) lits binds (mM lits binds n) at' a1 g3 g4 g5 hown.1 hown.2 hlo (fun y hy f' hf'=> ?_) (fun y hy f' g hg=> ?_)
    ·obtain⟨s4,rfl⟩:=heo y hy;obtain⟨l1,l2,l3,_⟩:=P.fin s4;exact ih (lastOf p) (e+1) f' (hsub _ l2).1 (P.kids _ l2).1 (P.kids _ l2).2 (fun h=>by omega) (hsub _ l2).2 hf'
    ·obtain⟨s4,rfl⟩:=heo y hy;obtain⟨l1,l2,l3,_⟩:=P.fin s4;rw[Gl _ l2 l1 f' g hg];have:=(fF lits (lastOf p)).1;have:=(hsub _ l2).2;omega
  have same:ends lits binds (Oo lits binds (mM lits binds n) (if p.ak=4 then some (lastOf p) else none) (eP f)) (kN (mM lits binds n) (EH lits) (partsOf p) (bf f))=zM lits binds ((kN (mM lits binds n) (EH lits) (partsOf p) (bf f)).bind fun q=>if p.ak=4 then(mM lits binds n (lastOf p) (gm q.2 (eP f))).map (q.1++ ·) else some q.1):=by
   cases kN (mM lits binds n) (EH lits) (partsOf p) (bf f) with
   |none=>rfl
   |some q=>
    simp only[ends,Oo,Option.bind_some]
    by_cases s4:p.ak=4
    ·simp only[if_pos s4]
    ·simp only[if_neg s4]
  rw[same]at fine;have loop: ∀s:Int,s=p.ak→ ¬(p.ak=3∧ ¬f.ak=3)→Ev (fun k=>q8.EE k (partsOf p) (if p.ak=4 then some (lastOf p) else none) (bf f) (eP f) (-1) (partsOf p) ((partsOf p).length:Int) 0 lits binds s) (zM lits binds (mM lits binds (n+1) p f)):=by
   intro s hs hns;subst hs;refine Vu (partsOf p) (by omega) _ _ _ lits binds p.ak _ ?_
   rw[hr];refine Ev.shift ?_;have nl: ¬((partsOf p).length:Int)<((partsOf p).length:Int):=Int.lt_irrefl _;have step:Ev (fun k=>q8.j30 k (partsOf p) (if p.ak=4 then some (lastOf p) else none) (bf f) (eP f) rep (least p) lits binds p.ak) (zM lits binds (mM lits binds (n+1) p f)):=by
    have hm1:mM lits binds (n+1) p f=if badL p f=true then none else(kN (mM lits binds n) (EH lits) (partsOf p) (bf f)).bind fun q=>if p.ak=4 then(mM lits binds n (lastOf p) (gm q.2 (eP f))).map (q.1++ ·) else some q.1:=by
     simp only[mM,if_neg h1,if_neg h2,D9]
    have b1:(decide (p.ak=3)&& !decide (f.ak=3))=false:=by
     by_cases u:p.ak=3<;>by_cases v:f.ak=3<;>simp_all
    have hbad:badL p f=(decide (((bf f).length:Int)<least p)||(decide (p.ak=3)&&(decide (bM (partsOf p)=0)&&decide (least p<((bf f).length:Int))))):=by
     unfold badL;rw[b1,Bool.false_or]
    rw[hm1];simp only[q8.j30,q8.Xq,q8.Vl]
    by_cases c1:((bf f).length:Int)<least p
    ·have bt:badL p f=true:=by rw[hbad,decide_eq_true c1,Bool.true_or]
     simp only[if_pos c1,if_pos bt];exact Ev.now _
    have fin:=fine (by unfold least at c1;omega)
    simp only[if_neg c1]
    by_cases s3:p.ak=3
    ·by_cases c2:rep<0
     ·have z:bM (partsOf p)=0:=by
       have:=hrep.pos;omega
      by_cases c3:least p<((bf f).length:Int)
      ·have bt:badL p f=true:=by rw[hbad,decide_eq_true s3,decide_eq_true z,decide_eq_true c3];simp
       simp only[if_pos s3,if_pos c2,if_pos c3,if_pos bt];exact Ev.now _
      ·have bt: ¬badL p f=true:=by rw[hbad,decide_eq_false c1,decide_eq_false c3];simp
       simp only[if_pos s3,if_pos c2,if_neg c3,if_neg bt];exact fin
     ·have z: ¬bM (partsOf p)=0:=by
       have:=hrep.pos;omega
      have bt: ¬badL p f=true:=by rw[hbad,decide_eq_false c1,decide_eq_false z];simp
      simp only[if_pos s3,if_neg c2,if_neg bt];exact fin
    ·have bt: ¬badL p f=true:=by rw[hbad,decide_eq_false c1,decide_eq_false s3];simp
     simp only[if_neg s3,if_neg bt]at fin⊢;exact fin
   by_cases c0:0≤rep
   ·rw[if_pos c0]at hoth;simp only[q8.EE,if_neg nl,if_pos c0];rw[hoth]at step;rw[eu (by omega) (by omega)]
    exact step
   ·rw[if_neg c0,Int.sub_zero]at hoth;simp only[q8.EE,if_neg nl,if_neg c0];rw[hoth]at step;exact step
  simp only[q8.f,if_neg h1,if_neg h2,ay];refine Ev.bind (pz p (by omega) P.sh) ?_
  refine Ev.bind (ER f (by omega) sN) ?_
  by_cases s3:p.ak=3
  ·simp only[if_pos s3]
   by_cases f3:f.ak=3
   ·simp only[if_neg (bg f3)];exact loop _ rfl (fun h=>h.2 f3)
   ·simp only[if_pos f3];have:mM lits binds (n+1) p f=none:=by
     simp[mM,h1,h2,D9,badL,s3,f3]
    rw[this];exact Ev.now _
  ·simp only[if_neg s3];exact loop _ rfl (fun h=>s3 h.1)
theorem Ot (a:af):iV a a=true:=by simp[iV]
theorem Eb {a b:af} (h:iV a b=true):iV b a=true:=by
 unfold iV at h⊢;simp only[Bool.and_eq_true,decide_eq_true_eq]at h⊢;exact⟨h.1.symm,h.2.symm⟩
theorem uY {a b c:af} (h:iV a b=true) (h':iV b c=true):iV a c=true:=by
 unfold iV at h h'⊢;simp only[Bool.and_eq_true,decide_eq_true_eq]at h h'⊢;exact⟨h.1.trans h'.1,h.2.trans h'.2⟩
theorem oL {l:List af} {p:af}:inB l p=true↔ ∃x∈l,iV x p=true:=by simp[inB]
theorem xq: ∀(l s s':List af),(∀x∈s',x∈s)→fO s l=true→fO s' l=true
 | [],s,s',_,_=>rfl
 |x::l,s,s',h,hd=>by
  simp only[fO,Bool.and_eq_true,Bool.not_eq_true']at hd⊢;refine⟨?_,xq l _ _ ?_ hd.2⟩
  ·cases e:inB s' x with
   |false=>rfl
   |true=>
    obtain⟨y,hy,hs⟩:=oL.1 e;have:=oL.2 ⟨y,h y hy,hs⟩;rw[hd.1]at this;cases this
  ·intro y hy;rcases List.mem_append.1 hy with hy|hy
   ·exact List.mem_append_left _ (h y hy)
   ·exact List.mem_append_right _ hy
theorem Lh {l:List af} {s:List af} {x y:af} (h:fO s l=true) (hx:x∈s) (hy:y∈l):iV x y=false:=by
 induction l generalizing s with
 |nil=>cases hy
 |cons z l ih=>
  simp only[fO,Bool.and_eq_true,Bool.not_eq_true']at h;rcases List.mem_cons.1 hy with rfl|hy
  ·cases e:iV x y with
   |false=>rfl
   |true=>rw[oL.2 ⟨x,hx,e⟩]at h;cases h.1
  ·exact ih h.2 (List.mem_append_left _ hx) hy
theorem Lj (parts:List af) (hl:(parts.length:Int)≤1000000000) (h1:bM parts≤1) (h0:aS parts=false):Ev (fun k=>q16.l4 k (-1) parts 0) (rE 0 (-1) parts):=by
 refine dG parts (P:=fun i suf=> ∀r,(1≤bM suf→r= -1∧bM suf≤1∧(i=0→aS suf=false))→Ev (fun k=>q16.l4 k r parts i) (rE i r suf)) ?_ ?_ (-1) (fun _=>⟨rfl,h1,fun _=>h0⟩)
 ·intro r _;refine Ev.shift ?_;simp (disch:=omega) only[q16.l4,if_neg];exact Ev.now _
 ·intro i x t i0 i1 hx hm hl' _ _ ih r hr;have hp:=(jr t).1;refine Ev.shift ?_;simp (disch:=omega) only[q16.l4,if_pos,hx,eu,ay];refine Ev.bind (gG x) ?_;cases hd:aN x with
  |true=>
   simp only[bM,aS,hd,if_true]at hr;obtain⟨r1,r2,r3⟩:=hr (by omega)
   have hi: ¬i=0:=fun e=>by have:=r3 e;cases this
   have hn: ¬(0:Int)≤r:=by omega
   simp only[if_true,if_neg hn,if_neg hi,rE,hd];exact ih _ (fun h=>by omega)
  |false=>
   simp only[bM,hd,Bool.false_eq_true,if_false]at hr;simp only[Bool.false_eq_true,if_false,rE,hd];exact ih r (fun h=>by
    obtain⟨r1,r2,_⟩:=hr (by omega)
    exact⟨r1,by omega,fun e=>by omega⟩)
def sink (n:Int) (g:aV):aV:={g with bu:=g.bu+n}
theorem Gm (lits:List af): ∀x:af,∀a b,iT lits x (a+b)=(iT lits x a).map (sink b):=by
 refine dX fun x ih a b=> ?_
 rw[jX,jX]
 split
 ·split<;>rfl
 ·generalize hl:x.aj=l;rw[hl]at ih
  clear hl
  induction l with
  |nil=>simp[gV]
  |cons y l ihl=>
   simp only[gV,List.map_append];rw[ihl (fun z hz=>ih z (by simp[hz]))]
   cases aS l with
   |true=>simp only[if_true];rw[show a+b+1=(a+1)+b by omega,ih y (by simp)]
   |false=>simp only[Bool.false_eq_true,if_false];rw[ih y (by simp)]
theorem ES {l:List af} {e:af} (h:aN e=false):aS (l++ [e])=aS l:=by
 cases l with
 |nil=>simp[aS,h]
 |cons x l=>rfl
theorem XC (lits:List af): ∀(x:af),∀y∈dV [] x,inB lits y=true∨y∈dV lits x:=by
 refine dX fun x ih y hy=> ?_
 rw[iQ]at hy;rw[iQ]
 split at hy
 ·rename_i h1;rw[if_pos h1];have e:inB [] x=false:=rfl;rw[e,Bool.or_false]at hy
  split at hy
  ·cases hy
  ·rename_i hb;have:=List.mem_singleton.1 hy;subst this;cases hl:inB lits y with
   |true=>exact .inl rfl
   |false=>
    right;rw[Bool.or_false,if_neg hb];simp
 ·rename_i h1;rw[if_neg h1];generalize x.aj=l at hy ih
  induction l with
  |nil=>simp[dY]at hy
  |cons z l ihl=>
   simp only[dY]at hy⊢;rcases List.mem_append.1 hy with h|h
   ·rcases ih z (by simp) y h with h|h
    ·exact .inl h
    ·exact .inr (List.mem_append_left _ h)
   ·rcases ihl h (fun w hw=>ih w (by simp[hw])) with h|h
    ·exact .inl h
    ·exact .inr (List.mem_append_right _ h)
theorem Qm (lits:List af): ∀(x:af),∀y∈dV lits x,y∈dV [] x∧inB lits y=false:=by
 refine dX fun x ih y hy=> ?_
 rw[iQ]at hy;rw[iQ]
 split at hy
 ·rename_i h1;rw[if_pos h1];have e:inB [] x=false:=rfl;rw[e,Bool.or_false]
  split at hy
  ·cases hy
  ·rename_i hb;have:=List.mem_singleton.1 hy;subst this;cases hl:inB lits y with
   |true=>rw[hl,Bool.or_true]at hb;exact absurd rfl hb
   |false=>
    rw[hl,Bool.or_false]at hb;rw[if_neg hb];simp
 ·rename_i h1;rw[if_neg h1];generalize x.aj=l at hy ih
  induction l with
  |nil=>simp[dY]at hy
  |cons z l ihl=>
   simp only[dY]at hy⊢;rcases List.mem_append.1 hy with h|h
   ·have:=ih z (by simp) y h
    exact⟨List.mem_append_left _ this.1,this.2⟩
   ·have:=ihl h (fun w hw=>ih w (by simp[hw]))
    exact⟨List.mem_append_right _ this.1,this.2⟩
theorem uZ {lits:List af} {x:af} {d:Int} {g:aV} (h:g∈iT lits x d):g.aZ∈dV lits x:=by
 rw[←rC lits x d];exact List.mem_map_of_mem h
theorem RQ {lits:List af} {x:List af} {d:Int} {g:aV} (h:g∈gV lits x d):g.aZ∈dY lits x:=by
 rw[←Ol lits x d];exact List.mem_map_of_mem h
theorem zN (lits:List af): ∀x:af,∀d,∀g∈iT lits x d,d≤g.bu∧g.bu≤d+wid x:=by
 refine dX fun x ih d g hg=> ?_
 have hp:=aW x;rw[jX]at hg
 split at hg
 ·split at hg
  ·cases hg
  ·rw[List.mem_singleton.1 hg];show d≤d∧d≤d+wid x;omega
 ·have: ∀l:List af,(∀y∈l,y∈x.aj)→g∈gV lits l d→d≤g.bu∧g.bu≤d+1+bG l:=by
   intro l
   induction l with
   |nil=>intro _ h;simp[gV]at h
   |cons y l ihl=>
    intro hs h;simp only[gV]at h;have h0:=(dO l).1;have hy:=lY y;rcases List.mem_append.1 h with h|h
    ·have:=ih y (hs y (by simp)) _ g h
     simp only[bG]
     split at this<;>omega
    ·have:=ihl (fun z hz=>hs z (by simp[hz])) h
     simp only[bG];omega
  have:=this x.aj (fun _ h=>h) hg
  omega
theorem RS (x nm:af) (h4: ¬x.ak=4) (hk:x.aj= []):Ev (fun k=>qw.f k x nm) 0:=by
 refine Ev.shift ?_;simp only[qw.f,ay,hk];have hp:Ev (fun k=>wS.f k x) []:=by
  simp only[wS.f,if_neg h4,hk];exact Ev.now _
 have hr:Ev (fun k=>q16.f k x) (-1):=by
  simp only[q16.f,ay];refine Ev.bind hp ?_;refine Ev.shift ?_;simp (disch:=simp) only[q16.l4,if_neg];exact Ev.now _
 refine Ev.bind hp ?_;refine Ev.bind hr ?_;refine Ev.shift ?_;simp (disch:=simp) only[qw.l4,if_neg];exact Ev.now _
theorem Gn (lits:List af): ∀(p:af) (e:Int),jl p e=true→l9 p=true→wid p≤500000000→fO [] (dV lits p)=true→ ∀g∈iT lits p 0,Ev (fun k=>qw.f k p g.aZ) g.bu:=by
 refine dX fun p ih e hok hst hw hnd g hg=> ?_
 have hp:=aW p
 by_cases h1:p.ak=1
 ·have hk:p.aj= []:=by
   rcases bU hok with⟨_,k⟩|⟨_,k⟩|⟨h',_⟩
   ·exact k
   ·exact k
   ·omega
  have hz:g.bu=0:=by
   rw[jX,if_pos h1]at hg
   split at hg
   ·cases hg
   ·rw[List.mem_singleton.1 hg]
  rw[hz];exact RS p g.aZ (by omega) hk
 by_cases h2:p.ak=2
 ·have hk:p.aj= []:=by
   rcases bU hok with⟨_,k⟩|⟨_,k⟩|⟨h',_⟩
   ·exact k
   ·exact k
   ·omega
  rw[jX,if_neg h1,hk]at hg;simp[gV]at hg
 have P:=Vz lits hok hst h1 h2;have hrep:=IG P.one P.head;have hrs:=Lj (partsOf p) (by have:=P.XB;omega) P.one P.head
 generalize rE 0 (-1) (partsOf p)=rep at hrep hrs;have hgw:wid g.aZ≤500000000:=by have:=(fF lits p).2 _ (uZ hg);omega
 have hg1:g.aZ.ak=1:=((fF lits p).2 _ (uZ hg)).1;have hgl:inB lits g.aZ=false:=(Qm lits p _ (uZ hg)).2;rw[jX,if_neg h1]at hg;rw[iQ,if_neg h1]at hnd;have hpr:=pF p (by omega) P.sh
 refine Ev.shift ?_;simp only[qw.f,ay];refine Ev.bind hpr ?_;refine Ev.bind (r:=rep) ?_ ?_
 ·simp only[q16.f,ay];exact Ev.bind hpr hrs
 have mark: ∀(i:Int) (x:af) (r:List af),0≤i→p.aj.drop i.toNat=x::r→(aS r=true↔i=rep∧i<((partsOf p).length:Int)):=by
  intro i x r i0 hd;rcases P.sh with s3|⟨s4,_⟩
  ·have n4: ¬p.ak=4:=by omega
   have e:partsOf p=p.aj:=by simp only[partsOf,if_neg n4]
   have:=hrep.hit i x r i0 (by rw[e];exact hd)
   have hlt:i.toNat<p.aj.length:=by
    rcases Nat.lt_or_ge i.toNat p.aj.length with h|h
    ·exact h
    ·rw[List.drop_eq_nil_of_le h]at hd;cases hd
   rw[e];constructor
   ·intro h;exact⟨this.2 h,by omega⟩
   ·intro h;exact this.1 h.1
  ·obtain⟨l1,l2,l3,l4⟩:=P.fin s4;rw[←l4]at hd;rcases Nat.lt_or_ge i.toNat (partsOf p).length with h|h
   ·rw[List.drop_append_of_le_length (by omega),List.drop_eq_getElem_cons h]at hd
    obtain⟨e1,e2⟩:=List.cons.inj hd;have e2:(partsOf p).drop (i.toNat+1)++ [lastOf p]=r:=e2;have:=hrep.hit i (partsOf p)[i.toNat] ((partsOf p).drop (i.toNat+1)) i0 (List.drop_eq_getElem_cons h);rw[←e2,ES l1];constructor
    ·intro h';exact⟨this.2 h',by omega⟩
    ·intro h';exact this.1 h'.1
   ·have:r= []:=by
     have:=congrArg List.length hd;simp only[List.length_drop,List.length_append,List.length_cons,List.length_nil]at this;exact List.eq_nil_of_length_eq_zero (by omega)
    subst this;constructor
    ·intro h';cases h'
    ·intro h';omega
 have fin:=dG p.aj (P:=fun i suf=>g∈gV lits suf 0→fO [] (dY lits suf)=true→Ev (fun k=>qw.l4 k (partsOf p) rep i p.aj g.aZ.ak g.aZ.aG g.aZ.aB g.aZ.aI g.aZ.aj) g.bu) ?_ ?_ hg hnd
 ·exact fin
 ·intro h;simp[gV]at h
 ·intro i x r i0 i1 hx hm hl hdr _ ihr hgs RU;have hk:=P.kids x hm;have hwx:=bZ hm;have Qn:=mark i x r i0 hdr;simp only[dY]at RU;rw[lZ,List.nil_append,Bool.and_eq_true]at RU;refine Ev.shift ?_;simp (disch:=omega) only[qw.l4,qw.NP,if_pos,hx,eu,ay,aJ];refine Ev.bind (pG [] ⟨by simp,by simp⟩ (by simp) x (by omega)) ?_
  have hfx:=fF [] x;refine Ev.bind (pq (dV [] x) g.aZ ⟨by omega,fun y hy=>by have:=(hfx.2 y hy).2;omega⟩ (fun y hy=>(hfx.2 y hy).1) hg1) ?_
  simp only[gV]at hgs;rcases List.mem_append.1 hgs with h|h
  ·have hin:inB (dV [] x) g.aZ=true:=oL.2 ⟨g.aZ,(Qm lits x _ (uZ h)).1,Ot _⟩;rw[hin];simp only[if_true];cases hh:aS r with
   |true=>
    rw[hh]at h Qn;simp only[if_true]at h;rw[Gm lits x 0 1]at h;obtain⟨g0,hg0,e0⟩:=List.mem_map.1 h;have hn:g.aZ=g0.aZ:=by rw[←e0];rfl
    have hdp:g.bu=g0.bu+1:=by rw[←e0];rfl
    have hd0:=zN lits x 0 g0 hg0;rw[hn,hdp];refine Ev.bind (ih x hm (e+1) hk.1 hk.2 (by omega) RU.1 g0 hg0) ?_
    obtain⟨m1,m2⟩:=Qn.1 rfl;simp (disch:=omega) only[if_pos m1,if_pos m2,eu];exact Ev.now _
   |false=>
    rw[hh]at h Qn;simp only[Bool.false_eq_true,if_false]at h;refine Ev.bind (ih x hm (e+1) hk.1 hk.2 (by omega) RU.1 g h) ?_
    by_cases m1:i=rep
    ·have m2: ¬i<((partsOf p).length:Int):=fun m2=>by have:=Qn.2 ⟨m1,m2⟩;cases this
     simp only[if_pos m1,if_neg m2];exact Ev.now _
    ·simp only[if_neg m1];exact Ev.now _
  ·have hin:inB (dV [] x) g.aZ=false:=by
    cases hb:inB (dV [] x) g.aZ with
    |false=>rfl
    |true=>
     obtain⟨y,hy,hs⟩:=oL.1 hb;rcases XC lits x y hy with hl'|hl'
     ·obtain⟨z,hz,hzs⟩:=oL.1 hl';rw[oL.2 ⟨z,hz,uY hzs hs⟩]at hgl;cases hgl
     ·rw[Lh RU.2 hl' (RQ h)]at hs;cases hs
   rw[hin];simp only[Bool.false_eq_true,if_false];exact ihr h (xq _ _ _ (by simp) RU.2)
def dM:Int→GL→af→Int
 |_,[],_=> -1
 |i,g::l,x=>if iV g.aZ x then i else dM (i+1) l x
def RV (l:GL):Prop:=(l.length:Int)≤1000000000∧ ∀g∈l,wid g.aZ≤1000000000
theorem Ll (l:GL) (x:af) (hl:RV l):Ev (fun k=>EO.f k l x) (dM 0 l x):=by
 obtain⟨hn,hs⟩:=hl;simp only[EO.f];refine dG l (P:=fun i suf=>Ev (fun k=>EO.l2 k l (l.length:Int) i x.ak x.aG x.aB x.aI x.aj) (dM i suf x)) ?_ ?_
 ·refine Ev.shift ?_;simp (disch:=omega) only[EO.l2,if_neg];exact Ev.now _
 ·intro i y r i0 i1 hx hm _ _ _ ih;refine Ev.shift ?_;simp (disch:=omega) only[EO.l2,if_pos,eu,hx,ay,aJ,dM];refine Ev.bind (F_ y.aZ x (hs y hm)) ?_;cases iV y.aZ x with
  |true=>simp only[if_true];exact Ev.now _
  |false=>simp only[Bool.false_eq_true,if_false];exact ih
theorem Gp: ∀(l m:GL) (i:Int) (x:af),l.map (fun g=>g.aZ)=m.map (fun g=>g.aZ)→dM i l x=dM i m x
 | [],[],_,_,_=>rfl
 | [],_::_,_,_,h=>by simp at h
 |_::_,[],_,_,h=>by simp at h
 |a::l,b::m,i,x,h=>by
  simp only[List.map_cons,List.cons.injEq]at h;simp only[dM,h.1,Gp l m (i+1) x h.2]
theorem Ou: ∀(x:af),wid x≤1000000000→Ev (fun k=>Ak.f k x.aj) (cnts x.aj):=by
 refine dX fun x ih hw=> ?_
 have hp:=aW x;refine Ev.shift ?_;simp only[Ak.f];refine Ev.eq (dG x.aj (P:=fun i suf=> ∀c:Int,0≤c→c+bG suf≤1000000000→Ev (fun k=>Ak.l3 k c x.aj (x.aj.length:Int) i) (c+cnts suf)) ?_ ?_ 0 (by omega) (by omega)) (by omega)
 ·intro c _ _;refine Ev.shift ?_;simp (disch:=omega) only[Ak.l3,if_neg,cnts,Int.add_zero];exact Ev.now _
 ·intro i y r i0 i1 hx hm _ _ _ ihr c c0 hc;have hy:=bZ hm;have hyp:=aW y;have hcy:=dQ y.aj;have hwr:=(dO r).1;simp only[bG]at hc;refine Ev.shift ?_;simp (disch:=omega) only[Ak.l3,if_pos,hx];refine Ev.bind (ih y hm (by omega)) ?_
  simp (disch:=omega) only[eu];refine(ihr (c+(1+cnts y.aj)) (by omega) (by omega)).eq ?_
  simp only[cnts,jh];omega
theorem Lm (x:af) (c:Int) (hw:wid x≤1000000000) (h0:0≤c) (hc:c≤1000000000000000000):Ev (fun k=>I7.f k x c false) (x,c+cnt x,decide (6000<c+cnt x)):=by
 have hp:=aW x;have hcx:=dm x;have hk:=dQ x.aj;have hm:=jh x;simp only[I7.f,I7.d1,aJ];refine Ev.bind (r:=cnt x) ?_ ?_
 ·refine Ev.shift ?_;simp only[Ak.f];refine Ev.shift ?_;simp (disch:=simp) only[Ak.l3,if_pos,List.length_singleton];rw[show aF ah [x] 0=x from rfl]
  refine Ev.bind (Ou x hw) ?_;simp (disch:=omega) only[eu];refine Ev.shift ?_;simp (disch:=simp) only[Ak.l3,if_neg,List.length_singleton];refine Ev.eq (Ev.now _) (by omega)
 ·simp (disch:=omega) only[Bool.false_eq_true,if_false,eu];exact Ev.now _
def Ov:List Int→List Int→List Int
 |ks,[]=>ks
 |ks,i::l=>Ov (MN (nY ks i) ks i) l
theorem zO: ∀(ks:List Int) (i:Int),(nY ks i=none∧i∉ks)∨((∃n,nY ks i=some n)∧i∈ks)
 | [],i=> .inl ⟨rfl,by simp⟩
 |x::l,i=>by
  simp only[nY]
  by_cases h:x=i
  ·rw[if_pos h];exact .inr ⟨⟨0,rfl⟩,by simp[h]⟩
  ·rw[if_neg h];rcases zO l i with⟨h1,h2⟩|⟨⟨n,h1⟩,h2⟩
   ·refine .inl ⟨by rw[h1];rfl,?_⟩
    rw[List.mem_cons];rintro(e|e)
    ·exact h e.symm
    ·exact h2 e
   ·exact .inr ⟨⟨n+1,by rw[h1];rfl⟩,List.mem_cons_of_mem _ h2⟩
theorem XD (ks:List Int) (i j:Int):j∈MN (nY ks i) ks i↔j∈ks∨j=i:=by
 rcases zO ks i with⟨h1,h2⟩|⟨⟨n,h1⟩,h2⟩
 ·rw[h1];simp[MN]
 ·rw[h1];simp only[MN];constructor
  ·exact fun h=> .inl h
  ·rintro(h|h)
   ·exact h
   ·rw[h];exact h2
theorem RY (ks:List Int) (i:Int) (h:ks.Nodup):(MN (nY ks i) ks i).Nodup:=by
 rcases zO ks i with⟨h1,h2⟩|⟨⟨n,h1⟩,h2⟩
 ·rw[h1];simp only[MN];rw[List.nodup_append];refine⟨h,by simp,?_⟩
  intro a ha b hb;rw[List.mem_singleton.1 hb];intro e;exact h2 (e▸ha)
 ·rw[h1];exact h
theorem Lp: ∀(l ks:List Int) (j:Int),j∈Ov ks l↔j∈ks∨j∈l
 | [],ks,j=>by simp[Ov]
 |i::l,ks,j=>by
  simp only[Ov,Lp l,XD,List.mem_cons];constructor
  ·rintro((h|h)|h)
   ·exact .inl h
   ·exact .inr (.inl h)
   ·exact .inr (.inr h)
  ·rintro(h|h|h)
   ·exact .inl (.inl h)
   ·exact .inl (.inr h)
   ·exact .inr h
theorem Ec: ∀(l ks:List Int),ks.Nodup→(Ov ks l).Nodup
 | [],ks,h=>h
 |i::l,ks,h=>Ec l _ (RY ks i h)
def mo (R jQ:Int):List af→Int
 | []=>jQ
 |_::_=>R
theorem Ox {α:Type} {r:α} (rest:List Int) (hne:rest≠ []) (F:Nat→Int→List Int→Option α) (h: ∀c∈rest,Ev (fun k=>F k c (rest.filter fun x=>decide (x≠c))) r):Ev (fun k=>kY rest (F k)) r:=by
 have all: ∀l:List Int,(∀c∈l,Ev (fun k=>F k c (rest.filter fun x=>decide (x≠c))) r)→ ∃K,∀k,K≤k→ ∀c∈l,F k c (rest.filter fun x=>decide (x≠c))=some r:=by
  intro l
  induction l with
  |nil=>exact fun _=>⟨0,fun _ _ c hc=>by cases hc⟩
  |cons a l ih=>
   intro hl;obtain⟨K1,h1⟩:=hl a (by simp)
   obtain⟨K2,h2⟩:=ih fun c hc=>hl c (by simp[hc])
   refine⟨max K1 K2,fun k hk c hc=> ?_⟩
   rcases List.mem_cons.1 hc with rfl|hc
   ·exact h1 k (by omega)
   ·exact h2 k (by omega) c hc
 obtain⟨K,hK⟩:=all rest h;refine⟨K,fun k hk=> ?_⟩
 have hh:=hK k hk;have ex: ∃q,rest≠ []∧ ∀c,c∈rest→F k c (rest.filter fun x=>decide (x≠c))=some q:=⟨r,hne,hh⟩
 show kY rest (F k)=some r;unfold kY;rw[dif_pos ex];obtain⟨c,hc⟩:=List.exists_mem_of_ne_nil rest hne;have:=(Classical.choose_spec ex).2 c hc;rw[hh c hc]at this;exact this.symm
def zQ (K:Int) (g:aV):aV:={aF az g.aP K with aZ:=g.aZ}
def dZ (ks:List Int) (K:Int) (G:GL):GL:=G.mapIdx fun j g=>if(j:Int)∈ks then zQ K g else g
theorem u_ (ks:List Int) (K:Int) (G:GL):(dZ ks K G).length=G.length:=by simp[dZ]
theorem Gq (ks:List Int) (K:Int) (G:GL):(dZ ks K G).map (fun g=>g.aZ)=G.map (fun g=>g.aZ):=by
 refine List.ext_getElem (by simp[dZ]) ?_
 intro n h1 h2;simp only[dZ,List.getElem_map,List.getElem_mapIdx]
 split<;>rfl
theorem II (ks:List Int) (K:Int) (G:GL) (i:Int) (h0:0≤i) (h1:i<(G.length:Int)):aF az (dZ ks K G) i=if i∈ks then zQ K (aF az G i) else aF az G i:=by
 obtain⟨n,rfl⟩:=Int.eq_ofNat_of_zero_le h0;have hn:n<G.length:=by omega
 have e1:=g_ az (dZ ks K G) n (by rw[u_];exact hn)
 have e2:=g_ az G n hn;rw[show((n:Nat):Int)=(Int.ofNat n) from rfl]at*
 rw[e1,e2];simp only[dZ,List.getElem_mapIdx]
 rfl
theorem Ed {ks ks':List Int} (K:Int) (G:GL) (h: ∀j,j∈ks↔j∈ks'):dZ ks K G=dZ ks' K G:=by
 unfold dZ
 congr 1
 funext j g
 simp only[h]
theorem VB (K:Int) (G:GL):dZ [] K G=G:=by
 refine List.ext_getElem (by simp[dZ]) ?_
 intro n h1 h2;simp[dZ]
theorem VC (ks:List Int) (K:Int) (G:GL) (i:Int) (h0:0≤i) (hi:i∉ks):(dZ ks K G).set i.toNat (zQ K (aF az G i))=dZ (i::ks) K G:=by
 refine List.ext_getElem (by simp[dZ]) ?_
 intro n h1 h2;have hn:n<G.length:=by simpa [dZ]using h2
 simp only[dZ,List.getElem_set,List.getElem_mapIdx,List.mem_cons]
 by_cases e:i.toNat=n
 ·have e':(n:Int)=i:=by omega
  rw[if_pos e,if_pos (Or.inl e')];have e3:=g_ az G n hn;rw[e']at e3;rw[e3]
 ·have e': ¬(n:Int)=i:=by omega
  rw[if_neg e];simp only[e',false_or]
theorem Oy (p:af) (x2:Int) (G:GL) (jQ c R K:Int) (a6:List af) (ks:List Int) (vs:List Bool) (hk0:0≤K) (hkR:K<R) (res:Int×Bool×List af)
  (hks: ∀j∈ks,0≤j∧j<(G.length:Int)∧((aF az G j).aP.length:Int)=R) (hnd:ks.Nodup)
  (hend:Ev (fun k=>qb.Ez k x2 false K c false p.ak p.aG p.aB p.aI p.aj G jQ a6 (dZ ks K G) (ks.length:Int) [] ks vs) res):
  ∀(m:Nat) (rest ds:List Int),rest.length=m→rest.Nodup→(∀q∈rest,0≤q∧q<(ks.length:Int)∧aF 0 ks q∉ds)→(∀j∈ds,j∈ks)→(∀j∈ks,j∈ds∨ ∃q∈rest,aF 0 ks q=j)→
  Ev (fun k=>qb.Ez k x2 false K c false p.ak p.aG p.aB p.aI p.aj G jQ a6 (dZ ds K G) (ks.length:Int) rest ks vs) res:=by
 intro m
 induction m with
 |zero=>
  intro rest ds hm _ _ hd hk;have:rest= []:=List.eq_nil_of_length_eq_zero hm;subst this;rw[Ed (ks:=ds) (ks':=ks) K G]
  ·exact hend
  ·intro j;refine⟨hd j,fun h=> ?_⟩
   rcases hk j h with h|⟨q,hq,_⟩
   ·exact h
   ·cases hq
 |succ m ih=>
  intro rest ds hm hrn hr hd hk;have hne: ¬rest= []:=by intro e;rw[e]at hm;cases hm
  refine Ev.shift ?_;simp only[qb.Ez,if_true,if_neg hne];refine Ox rest hne _ fun q hq=> ?_
  obtain⟨q0,q1,q2⟩:=hr q hq;have hjm:aF 0 ks q∈ks:=dF _ _ _ q0 q1;obtain⟨j0,j1,j2⟩:=hks _ hjm;have hinj: ∀q'∈rest,aF 0 ks q'=aF 0 ks q→q'=q:=by
   intro q' hq' e;obtain⟨a0,a1,_⟩:=hr q' hq';obtain⟨x,rfl⟩:=Int.eq_ofNat_of_zero_le a0;obtain⟨y,rfl⟩:=Int.eq_ofNat_of_zero_le q0;have hx:x<ks.length:=by omega
   have hy:y<ks.length:=by omega
   have e1:=g_ 0 ks x hx;have e2:=g_ 0 ks y hy;have e:ks[x]=ks[y]:=by rw[←e1,←e2];exact e
   have hp:=List.pairwise_iff_getElem.1 hnd;rcases Nat.lt_trichotomy x y with h|h|h
   ·exact absurd e (hp x y hx hy h)
   ·rw[h]
   ·exact absurd e.symm (hp y x hy hx h)
  generalize hj:aF 0 ks q=j at*;have hat:(dZ ds K G).getD j.toNat az=aF az G j:=by
   have:=II ds K G j j0 j1;rw[if_neg q2]at this;exact this
  have hlen:=u_ ds K G;have l1:j<((dZ ds K G).length:Int):=by omega
  have l2:K<((aF az G j).aP.length:Int):=by omega
  have l3: ∀z,j<(((dZ ds K G).set j.toNat z).length:Int):=fun z=>by rw[List.length_set];exact l1
  have l4: ∀z,((dZ ds K G).set j.toNat z).getD j.toNat az=z:=fun z=>by
   rw[List.getD_eq_getElem?_getD,List.getElem?_set_self (by omega)];rfl
  simp only[if_pos j0,if_pos l1,hat,if_pos hk0,if_pos l2,if_pos (l3 _),l4,ay,List.set_set];have hset:=VC ds K G j j0 q2;have hrep:(⟨(aF az G j).aZ,(aF az (aF az G j).aP K).bu,(aF az (aF az G j).aP K).bY,(aF az (aF az G j).aP K).aP⟩:aV)=zQ K (aF az G j):=rfl;rw[hrep,hset];refine ih (rest.filter fun x=>decide (x≠q)) (j::ds) ?_ (hrn.filter _) ?_ ?_ ?_
  ·have h1:(rest.filter fun x=>decide (x≠q))=rest.erase q:=by
    rw[hrn.erase_eq_filter]
    congr 1
    funext x
    by_cases h:x=q<;>simp[h,bne]
   rw[h1,List.length_erase_of_mem hq];omega
  ·intro q' hq';simp only[List.mem_filter,decide_eq_true_eq]at hq';obtain⟨b0,b1,b2⟩:=hr q' hq'.1;refine⟨b0,b1,?_⟩;rw[List.mem_cons];rintro(e|e)
   ·exact hq'.2 (hinj q' hq'.1 e)
   ·exact b2 e
  ·intro y hy;rcases List.mem_cons.1 hy with rfl|hy
   ·exact hjm
   ·exact hd y hy
  ·intro y hy;rcases hk y hy with h|⟨q',hq',e⟩
   ·exact .inl (List.mem_cons_of_mem _ h)
   ·by_cases h:q'=q
    ·rw[h,hj]at e;exact .inl (by rw[e];simp)
    ·exact .inr ⟨q',by simp[hq',h],e⟩
theorem RZ {α:Type} {l m:List α} {i:Nat} {d:α} (h:i<l.length):(l++m).getD i d=l.getD i d:=by
 rw[List.getD_eq_getElem?_getD,List.getD_eq_getElem?_getD,List.getElem?_append_left h]
theorem VD {α:Type} {l:List α} {y:α} {i:Nat} {d:α} (h:l.length=i):(l++ [y]).getD i d=y:=by
 rw[List.getD_eq_getElem?_getD,List.getElem?_append_right (by omega),show i-l.length=0 by omega]
 rfl
theorem Lr: ∀(a b:GL) (j:Nat),j<a.length→a.length≤b.length→(rD a b).getD j az={a.getD j az with aP:=(a.getD j az).aP++ [b.getD j az]}
 | [],b,j,h,_=>by simp at h
 |x::a,[],j,_,h=>by simp at h
 |x::a,y::b,0,_,_=>rfl
 |x::a,y::b,j+1,h,h'=>by
  simp only[rD,List.getD_cons_succ];exact Lr a b j (by simpa using h) (by simpa using h')
theorem Gs (m:af→Option GL) (N:Nat) (hlen: ∀f g,m f=some g→g.length=N): ∀(xs:List af) (ns r:GL) (L:Nat),ns.length=N→(∀j,j<N→(ns.getD j az).aP.length=L)→kX m ns xs=some r→
  (∀j,j<N→(r.getD j az).aZ=(ns.getD j az).aZ∧(r.getD j az).bu=(ns.getD j az).bu∧(r.getD j az).bY=(ns.getD j az).bY∧(r.getD j az).aP.length=L+xs.length∧ ∀i,i<L→(r.getD j az).aP.getD i az=(ns.getD j az).aP.getD i az)∧
  ∀K,(hK:K<xs.length)→ ∃g,m xs[K]=some g∧ ∀j,j<N→(r.getD j az).aP.getD (L+K) az=g.getD j az
 | [],ns,r,L,h1,h2,h=>by
  simp only[kX,Option.some.injEq]at h;subst h;exact⟨fun j hj=>⟨rfl,rfl,rfl,by rw[h2 j hj];rfl,fun _ _=>rfl⟩,fun K hK=>by simp at hK⟩
 |x::xs,ns,r,L,h1,h2,h=>by
  simp only[kX,Option.bind_eq_some_iff]at h;obtain⟨g,hg,h⟩:=h;have hgl:=hlen x g hg;have hget:=fun j (hj:j<N)=>Lr ns g j (by omega) (by omega)
  obtain⟨k1,k2⟩:=Gs m N hlen xs (rD ns g) r (L+1) (by rw[yB];exact h1) (fun j hj=>by rw[hget j hj];simp only[List.length_append,List.length_singleton,h2 j hj]) h
  refine⟨fun j hj=> ?_,fun K hK=> ?_⟩
  ·obtain⟨a1,a2,a3,a4,a5⟩:=k1 j hj;rw[hget j hj]at a1 a2 a3 a5;refine⟨a1,a2,a3,by rw[a4,List.length_cons];omega,fun i hi=> ?_⟩
   rw[a5 i (by omega)]
   exact RZ (by rw[h2 j hj];exact hi)
  ·cases K with
   |zero=>
    refine⟨g,hg,fun j hj=> ?_⟩
    obtain⟨a1,a2,a3,a4,a5⟩:=k1 j hj;rw[Nat.add_zero,a5 L (by omega),hget j hj]
    exact VD (h2 j hj)
   |succ K=>
    obtain⟨g',b1,b2⟩:=k2 K (by simpa using hK)
    refine⟨g',b1,fun j hj=> ?_⟩
    rw[show L+(K+1)=L+1+K by omega]
    exact b2 j hj
def R_ (G gs:GL):Prop:= ∀g∈gs,0≤dM 0 G g.aZ∧dM 0 G g.aZ<(G.length:Int)∧(aF az G (dM 0 G g.aZ)).bu=g.bu∧(aF az G (dM 0 G g.aZ)).bY=g.bY∧(aF az G (dM 0 G g.aZ)).aP=g.aP
theorem RV.upd {G:GL} (h:RV G) (ks:List Int) (K:Int):RV (dZ ks K G):=by
 refine⟨by rw[u_];exact h.1,fun g hg=> ?_⟩
 have:g.aZ∈(dZ ks K G).map (fun g=>g.aZ):=List.mem_map_of_mem hg
 rw[Gq]at this;obtain⟨g',hg',e⟩:=List.mem_map.1 this;rw[←e];exact h.2 g' hg'
theorem Ls (n:Nat) (q:Int):q∈upTo n↔0≤q∧q<(n:Int):=by
 simp only[upTo,List.mem_map,List.mem_range];constructor
 ·rintro⟨a,h,rfl⟩;exact⟨by simp,by simp;omega⟩
 ·rintro⟨h0,h1⟩;exact⟨q.toNat,by omega,by simp;omega⟩
theorem Oz (n:Nat):(upTo n).Nodup:=by
 unfold upTo;rw[List.nodup_iff_pairwise_ne,List.pairwise_map];have:=List.nodup_range (n:=n);rw[List.nodup_iff_pairwise_ne]at this;exact this.imp fun h e=>h (Int.ofNat.inj e)
theorem OA {P:aV→Prop} (h: ∀x:aV,(∀y∈x.aP,P y)→P x): ∀x,P x:=by
 have key: ∀n (x:aV),SizeOf.sizeOf x<n→P x:=by
  intro n
  induction n with
  |zero=>intro x hx;omega
  |succ n ih=>
   intro x hx;refine h x (fun y hy=>ih y ?_)
   have h1:=List.sizeOf_lt_of_mem hy;cases x;simp at h1 hx⊢;omega
 exact fun x=>key _ x (Nat.lt_succ_self _)
mutual
def gv:aV→Int
 |⟨_,_,_,m⟩=>yC m
def yC:List aV→Int
 | []=>0
 |x::l=>1+gv x+yC l
end
mutual
def yD:aV→Bool
 |⟨n,d,f,m⟩=>decide (n.ak=1)&&(okb n&&(decide (0≤d)&&(decide (d≤60)&&(if d=0 then decide ((m.length:Int)=0)&&okb f else gW (d-1) m))))
def gW:Int→List aV→Bool
 |_,[]=>true
 |d,x::l=>((decide (d<0)||decide (x.bu=d))&&yD x)&&gW d l
end
mutual
def Gt:aV→Prop
 |⟨n,_,f,m⟩=>wid n≤2000000∧(wid f≤2000000∧Si m)
def Si:List aV→Prop
 | []=>True
 |x::l=>Gt x∧Si l
end
theorem pJ (x:aV):gv x=yC x.aP:=by cases x;simp only[gv]
theorem BV (x:aV):yD x=(decide (x.aZ.ak=1)&&(okb x.aZ&&(decide (0≤x.bu)&&(decide (x.bu≤60)&&(if x.bu=0 then decide ((x.aP.length:Int)=0)&&okb x.bY else gW (x.bu-1) x.aP))))):=by cases x;simp only[yD]
theorem mg (x:aV):Gt x↔wid x.aZ≤2000000∧(wid x.bY≤2000000∧Si x.aP):=by cases x;simp only[Gt]
theorem sO (l:List aV):0≤yC l∧(l.length:Int)≤yC l:=by
 have key: ∀x:aV,0≤gv x:=by
  refine OA fun x ih=> ?_
  rw[pJ];have: ∀l:List aV,(∀y∈l,0≤gv y)→0≤yC l:=by
   intro l
   induction l with
   |nil=>intro _;simp[yC]
   |cons y l ihl=>
    intro h;have:=h y (by simp)
    have:=ihl fun z hz=>h z (List.mem_cons_of_mem _ hz)
    simp only[yC];omega
  exact this _ ih
 induction l with
 |nil=>simp[yC]
 |cons x l ih=>
  have:=key x;simp only[yC,List.length_cons];omega
theorem VE (x:aV):0≤gv x:=by rw[pJ];exact(sO _).1
theorem IJ {l:List aV} {x:aV} (h:x∈l):1+gv x≤yC l:=by
 induction l with
 |nil=>cases h
 |cons y l ih=>
  have h1:=VE y;have h2:=(sO l).1;simp only[yC];rcases List.mem_cons.1 h with rfl|h
  ·omega
  ·have:=ih h;omega
theorem yE {l:List aV} (h:Si l): ∀x∈l,Gt x:=by
 intro x hx
 induction l with
 |nil=>cases hx
 |cons y l ih=>
  simp only[Si]at h;rcases List.mem_cons.1 hx with rfl|hx
  ·exact h.1
  ·exact ih h.2 hx
theorem Gu {d:Int} {l:List aV} (h:gW d l=true): ∀x∈l,(d<0∨x.bu=d)∧yD x=true:=by
 intro x hx
 induction l with
 |nil=>cases hx
 |cons y l ih=>
  simp only[gW,Bool.and_eq_true,Bool.or_eq_true,decide_eq_true_eq]at h;rcases List.mem_cons.1 hx with rfl|hx
  ·exact h.1
  ·exact ih h.2 hx
theorem Gv (l:GL) (d:Int) (hd: -1≤d) (hd2:d≤60) (hl:(l.length:Int)≤1000000000) (hw: ∀x∈l,Gt x)
  (hx: ∀x∈l,0<x.bu→x.bu≤60→Ev (fun k=>qq.f k x.aP (x.bu-1)) (gW (x.bu-1) x.aP)):Ev (fun k=>qq.f k l d) (gW d l):=by
 refine Ev.shift ?_;simp only[qq.f];refine dG l (P:=fun i suf=>Ev (fun k=>qq.l2 k l d i) (gW d suf)) ?_ ?_
 ·refine Ev.shift ?_;simp (disch:=omega) only[qq.l2,if_neg,gW];exact Ev.now _
 ·intro i x r i0 i1 hxi hxm _ _ _ ih;obtain⟨w1,w2,_⟩:=(mg x).1 (hw x hxm);refine Ev.shift ?_;simp (disch:=omega) only[qq.l2,if_pos,hxi,ay,gW];have w3:IntKind.i64.wrap (i+1)=i+1:=eu (by omega) (by omega)
  have A:Ev (fun k=>(Rn.f k x.bu (0:Int) (60:Int)).bind fun r3=>(if(¬r3=true) then(some false) else(if(¬x.aZ.ak=(1:Int)) then(some false) else((q13.f k x.aZ).bind fun r4=>(if(¬r4=true) then(some false) else(qq.uP k (qq.f k) (qq.l2 k) l d i x.bu x.bY.ak x.bY.aG x.bY.aB x.bY.aI x.bY.aj x.aP)))))) (yD x&&gW d r):=by
   rw[BV]
   by_cases d0:0≤x.bu
   ·simp only[Rn.f,if_pos d0,Option.bind_some]
    by_cases d1:x.bu≤60
    ·simp only[decide_eq_true d1,not_true,if_false,decide_eq_true d0,Bool.true_and]
     by_cases s1:x.aZ.ak=1
     ·simp only[s1,not_true,if_false,decide_true,Bool.true_and];refine Ev.bind (iL x.aZ (by omega)) ?_
      cases hok:okb x.aZ with
      |false=>simp only[Bool.false_eq_true,not_false_eq_true,if_true,Bool.false_and];exact Ev.now _
      |true=>
       simp only[not_true,if_false,Bool.true_and,qq.uP,aJ,w3]
       by_cases z:x.bu=0
       ·have nz: ¬0<x.bu:=by omega
        simp only[if_pos z,if_neg nz]
        by_cases ml:(0:Int)<(x.aP.length:Int)
        ·have: ¬(x.aP.length:Int)=0:=by omega
         simp only[if_pos ml,decide_eq_false this,Bool.false_and];exact Ev.now _
        ·have e:(x.aP.length:Int)=0:=by omega
         simp only[if_neg ml,decide_eq_true e,Bool.true_and];refine Ev.bind (iL x.bY (by omega)) ?_
         cases okb x.bY with
         |false=>simp only[Bool.false_eq_true,not_false_eq_true,if_true,Bool.false_and];exact Ev.now _
         |true=>simp only[not_true,if_false,Bool.true_and];exact ih
       ·have nz:0<x.bu:=by omega
        have w4:IntKind.i64.wrap (x.bu-1)=x.bu-1:=eu (by omega) (by omega)
        simp only[if_neg z,if_pos nz,w4];refine Ev.bind (hx x hxm nz d1) ?_;cases gW (x.bu-1) x.aP with
        |false=>simp only[Bool.false_eq_true,not_false_eq_true,if_true,Bool.false_and];exact Ev.now _
        |true=>simp only[not_true,if_false,Bool.true_and];exact ih
     ·simp only[s1,not_false_eq_true,if_true,decide_false,Bool.false_and];exact Ev.now _
    ·simp only[decide_eq_false d1,Bool.false_eq_true,not_false_eq_true,if_true,Bool.false_and,Bool.and_false];exact Ev.now _
   ·simp only[Rn.f,if_neg d0,Option.bind_some,Bool.false_eq_true,not_false_eq_true,if_true,decide_eq_false d0,Bool.false_and,Bool.and_false];exact Ev.now _
  by_cases dn:0≤d
  ·have n: ¬d<0:=by omega
   simp only[if_pos dn,decide_eq_false n,Bool.false_or]
   by_cases e:x.bu=d
   ·simp only[if_neg (not_not_intro e),decide_eq_true e,Bool.true_and];exact A
   ·simp only[if_pos e,decide_eq_false e,Bool.false_and];exact Ev.now _
  ·have n:d<0:=by omega
   simp only[if_neg dn,decide_eq_true n,Bool.true_or,Bool.true_and];exact A
theorem Sj: ∀(g:aV),Gt g→gv g≤1000000000→0<g.bu→g.bu≤60→Ev (fun k=>qq.f k g.aP (g.bu-1)) (gW (g.bu-1) g.aP):=by
 refine OA fun g ih hw hv h0 h1=> ?_
 have hm:=((mg g).1 hw).2.2;rw[pJ]at hv;have hl:=(sO g.aP).2;exact Gv _ _ (by omega) (by omega) (by omega) (yE hm) fun x hx=>ih x hx (yE hm x hx) (by have:=IJ hx;omega)
theorem Sl: ∀(g:aV),Gt g→gv g≤1000000000→Ev (fun k=>qt.f k g) (yD g):=by
 refine OA fun g ih hw hv=> ?_
 obtain⟨w1,w2,hm⟩:=(mg g).1 hw;rw[pJ]at hv;have hl:=(sO g.aP).2;refine Ev.shift ?_;rw[BV];simp only[qt.f,ay]
 by_cases s1:g.aZ.ak=1
 ·simp only[s1,not_true,if_false,decide_true,Bool.true_and];refine Ev.bind (jF g.aZ (by omega)) ?_
  cases hok:okb g.aZ with
  |false=>simp only[Bool.false_eq_true,not_false_eq_true,if_true,Bool.false_and];exact Ev.now _
  |true=>
   simp only[not_true,if_false,Bool.true_and]
   by_cases d0:g.bu<0
   ·have: ¬0≤g.bu:=by omega
    simp only[if_pos d0,decide_eq_false this,Bool.false_and];exact Ev.now _
   have d0':0≤g.bu:=by omega
   simp only[if_neg d0,decide_eq_true d0',Bool.true_and]
   by_cases d1:60<g.bu
   ·have: ¬g.bu≤60:=by omega
    simp only[if_pos d1,decide_eq_false this,Bool.false_and];exact Ev.now _
   have d1':g.bu≤60:=by omega
   simp only[if_neg d1,decide_eq_true d1',Bool.true_and,qt.BK,aJ]
   by_cases z:g.bu=0
   ·simp only[if_pos z]
    by_cases ml:(g.aP.length:Int)=0
    ·simp only[if_pos ml,decide_eq_true ml,Bool.true_and];exact Ev.bind (jF g.bY (by omega)) (Ev.now _)
    ·simp only[if_neg ml,decide_eq_false ml,Bool.false_and];exact Ev.now _
   ·simp only[if_neg z];refine dG g.aP (P:=fun i suf=>Ev (fun k=>qt.l6 k g.aP (g.aP.length:Int) i g.bu) (gW (g.bu-1) suf)) ?_ ?_
    ·refine Ev.shift ?_;simp (disch:=omega) only[qt.l6,if_neg,gW];exact Ev.now _
    ·intro i x r i0 i1 hxi hxm _ _ _ ihr;refine Ev.shift ?_;have n: ¬g.bu-1<0:=by omega
     simp (disch:=omega) only[qt.l6,if_pos,hxi,ay,uO,gW,eu,decide_eq_false n,Bool.false_or]
     by_cases e:x.bu=g.bu-1
     ·simp only[if_neg (not_not_intro e),decide_eq_true e,Bool.true_and];refine Ev.bind (ih x hxm (yE hm x hxm) (by have:=IJ hxm;omega)) ?_
      cases yD x with
      |false=>simp only[Bool.false_eq_true,not_false_eq_true,if_true,Bool.false_and];exact Ev.now _
      |true=>simp only[not_true,if_false,Bool.true_and];exact ihr
     ·simp only[if_pos e,decide_eq_false e,Bool.false_and];exact Ev.now _
 ·simp only[s1,not_false_eq_true,if_true,decide_false,Bool.false_and];exact Ev.now _
theorem Sm {a b:ByteArray} (h:a.toList=b.toList):a=b:=by
 rw[toList_data,toList_data]at h;cases a;cases b;simp only[ByteArray.mk.injEq];exact Array.ext' h
theorem yF {f:af} {d:Int} (h:jl f d=true) (h1: ¬f.ak=1) (h2: ¬f.ak=2):f=⟨f.ak,ByteArray.empty,[],0,f.aj⟩:=by
 rw[qP,if_neg h1,if_neg h2]at h;simp only[Bool.and_eq_true,decide_eq_true_eq]at h;obtain⟨_,_,ht,hfr,hsc,_⟩:=h;have ht':f.aG=ByteArray.empty:=by
  refine Sm ?_;have:=(lit_eq (s:=f.aG) #[] [] (by decide)).2 ht
  exact this
 have hs':f.aB= []:=List.eq_nil_of_length_eq_zero (by omega)
 cases f;simp only at ht' hs' hfr;rw[ht',hs',hfr]
theorem dw (a b:List af):cnts (a++b)=cnts a+cnts b:=by
 induction a with
 |nil=>simp[cnts]
 |cons x a ih=>simp only[List.cons_append,cnts,ih];omega
theorem Ee (a:Int) (t:ByteArray) (sc:List Int) (d:Int) (ks:List af):cnt ⟨a,t,sc,d,ks⟩=1+cnts ks:=by simp only[cnt]
theorem Gw {f:af} {d:Int} (hok:jl f d=true) (mid rest:List af) (h:mid++rest=bf f):d_ mid (gm rest (eP f))=f∧cnts mid+cnt (gm rest (eP f))≤cnt f:=by
 rcases bU hok with⟨s,_⟩|⟨s,_⟩|⟨s,_⟩
 ·have n: ¬(f.ak=3∨f.ak=4):=by omega
  have n3: ¬f.ak=3:=by omega
  have n4: ¬f.ak=4:=by omega
  simp only[bf,if_neg n,List.append_eq_nil_iff]at h;rw[h.1,h.2];simp[eP,if_neg n3,if_neg n4,gm,d_,cnts]
 ·have n: ¬(f.ak=3∨f.ak=4):=by omega
  have n3: ¬f.ak=3:=by omega
  have n4: ¬f.ak=4:=by omega
  simp only[bf,if_neg n,List.append_eq_nil_iff]at h;rw[h.1,h.2];simp[eP,if_neg n3,if_neg n4,gm,d_,cnts]
 ·have y:f.ak=3∨f.ak=4:=by omega
  have ho:bf f=partsOf f:=by unfold bf;rw[if_pos y]
  have hf:=yF hok (by omega) (by omega)
  have hm:=jh f;rw[ho]at h;rcases s with h3|⟨h4,h5⟩
  ·have n4: ¬f.ak=4:=by omega
   simp only[partsOf,if_neg n4]at h;simp only[eP,if_pos h3,gm];rw[Ee];have hc:=dw mid rest;rw[h]at hc;refine⟨?_,by omega⟩
   unfold d_
   split
   ·rename_i hz;have:mid= []:=List.eq_nil_of_length_eq_zero hz;rw[this,List.nil_append]at h;rw[h,←h3];exact hf.symm
   ·rw[if_pos (Or.inl rfl)];rw[h,←h3];exact hf.symm
  ·have n3: ¬f.ak=3:=by omega
   have hks:=ng h5 h4;have hls:=lK hok h4;have nl: ¬((lastOf f).ak=3∨(lastOf f).ak=4):=by omega
   have hcl:=(dm (lastOf f)).1;have hck:cnts f.aj=cnts mid+cnts rest+cnt (lastOf f):=by
    rw[←hks,←h,dw,dw];simp[cnts]
   have hpl:1≤(partsOf f).length:=by simp only[partsOf,if_pos h4,List.length_take];omega
   simp only[eP,if_neg n3,if_pos h4,gm]
   by_cases hr:rest.length=0
   ·have:rest= []:=List.eq_nil_of_length_eq_zero hr;subst this;rw[List.append_nil]at h;have hm0: ¬mid.length=0:=by rw[h];omega
    have e:d_ [] (lastOf f)=lastOf f:=by simp[d_]
    rw[e];refine⟨?_,by simp only[cnts]at hck;omega⟩
    unfold d_;rw[if_neg hm0,if_neg nl,h,hks,←h4];exact hf.symm
   ·have e:d_ rest (lastOf f)=⟨4,ByteArray.empty,[],0,rest++ [lastOf f]⟩:=by
     unfold d_;rw[if_neg hr,if_neg nl]
    rw[e,Ee,dw];refine⟨?_,by simp[cnts];omega⟩
    unfold d_
    split
    ·rename_i hz;have:mid= []:=List.eq_nil_of_length_eq_zero hz;rw[this,List.nil_append]at h;rw[h,hks,←h4];exact hf.symm
    ·rw[if_pos (Or.inr rfl),←List.append_assoc,h,hks,←h4];exact hf.symm
def xu (G:GL) (x:af):Option af:=
 if dM 0 G x<0 then some x else if(aF az G (dM 0 G x)).bu=0 then some (aF az G (dM 0 G x)).bY else none
def mD (x:af) (ks:List af):af:=if x.ak=4 then d_ (ks.take (ks.length-1)) (aF ah ks ((ks.length:Int)-1)) else⟨x.ak,x.aG,x.aB,x.aI,ks⟩
mutual
def iJ (G:GL):af→Option af
 |⟨s,t,sc,fr,ks⟩=>if s=1 then xu G ⟨s,t,sc,fr,ks⟩ else(dN G ks).map (mD ⟨s,t,sc,fr,ks⟩)
def dN (G:GL):List af→Option Jq
 | []=>some []
 |x::l=>(iJ G x).bind fun y=>(dN G l).map (y:: ·)
end
theorem oQ (G:GL) (x:af):iJ G x=if x.ak=1 then xu G x else(dN G x.aj).map (mD x):=by cases x;simp only[iJ]
def nK (G:GL) (x:af):Bool:= !decide (dM 0 G x<0)&& !decide ((aF az G (dM 0 G x)).bu=0)
def oM (G:GL) (x:af):Int:=((aF az G (dM 0 G x)).aP.length:Int)
def iR (G:GL):List af→Int→Option Int
 | [],m=>some m
 |x::l,m=>if nK G x then(if 0≤m then(if m=oM G x then iR G l (oM G x) else none) else iR G l (oM G x)) else iR G l m
def mF (G:GL) (l:List af):List Int:=(l.filter (nK G)).map (dM 0 G)
def sQ {α:Type} (f:Nat→Option (List α)):Nat→Option (List α)
 |0=>some []
 |n+1=>(sQ f n).bind fun a=>(f n).map (a++ ·)
def gp (m:GL→Option af) (l:List af):Nat→GL→Option Jq
 |0,G=>(m G).map ([·])
 |d+1,G=>(iR G l (-1)).bind fun R=>if R<0 then none else sQ (fun K=>gp m l d (dZ (mF G l) (K:Int) G)) R.toNat
def lead:List af→Nat
 | []=>0
 |x::l=>if aN x then lead l+1 else 0
def iq (m:af→GL→Option af) (G:GL):Nat→List af→Option Jq
 |_,[]=>some []
 |k+1,_::ps=>iq m G k ps
 |0,p::ps=>if aN p then none else(gp (m p) (dV [] p) (lead ps) G).bind fun a=>(iq m G (lead ps) ps).map (a++ ·)
def gQ:Nat→af→GL→Option af
 |0,_,_=>none
 |n+1,t,G=>
  if t.ak=1 then xu G t
  else if t.ak=2 then some t
  else if t.ak=3∧(t.aj.length=2∧aS t.aj=true) then iJ G (aF ah t.aj 1)
  else(iq (gQ n) G 0 (partsOf t)).bind fun out=>if t.ak=4 then(gQ n (lastOf t) G).map (d_ out) else some ⟨3,ByteArray.empty,[],0,out⟩
def mG (t:af) (G:GL):af×Bool:=
 if okb t then(if gW (-1) G then(match gQ (cnt t).toNat t G with
  |some f=>if okb f then(f,true) else(ah,false)
  |none=>(ah,false)) else(ah,false)) else(ah,false)
theorem IK: ∀(l:GL) (i:Int) (x:af),dM i l x= -1∨(i≤dM i l x∧dM i l x<i+(l.length:Int))
 | [],i,x=> .inl rfl
 |g::l,i,x=>by
  simp only[dM]
  split
  ·right;simp;omega
  ·rcases IK l (i+1) x with h|h
   ·exact .inl h
   ·right;simp;omega
theorem qI {G:GL} {x:af} (h: ¬dM 0 G x<0):0≤dM 0 G x∧dM 0 G x<(G.length:Int):=by
 rcases IK G 0 x with h'|h'<;>omega
theorem zS: ∀(l:GL) (i:Int) (x:af),0≤i→0≤dM i l x→iV (aF az l (dM i l x-i)).aZ x=true
 | [],i,x,_,h=>by simp[dM]at h
 |g::l,i,x,h0,h=>by
  simp only[dM]at h⊢
  split
  ·rename_i hs;rw[show i-i=0 by omega];exact hs
  ·rename_i hs;rw[if_neg hs]at h;have:=zS l (i+1) x (by omega) h
   rcases IK l (i+1) x with h'|⟨h',_⟩
   ·omega
   ·have e:aF az (g::l) (dM (i+1) l x-i)=aF az l (dM (i+1) l x-(i+1)):=by
     unfold aF;rw[show(dM (i+1) l x-i).toNat=(dM (i+1) l x-(i+1)).toNat+1 by omega]
     rfl
    rw[e];exact this
theorem xw: ∀(l:GL) (i:Int) (x y:af),iV x y=true→dM i l x=dM i l y
 | [],_,_,_,_=>rfl
 |g::l,i,x,y,h=>by
  simp only[dM];have:iV g.aZ x=iV g.aZ y:=by
   cases h1:iV g.aZ x with
   |true=>rw[uY h1 h]
   |false=>
    cases h2:iV g.aZ y with
    |false=>rfl
    |true=>rw[uY h2 (Eb h)]at h1;cases h1
  rw[this,xw l (i+1) x y h]
theorem jP {G:GL} {x:af}:nK G x=true↔(0≤dM 0 G x∧dM 0 G x<(G.length:Int))∧ ¬(aF az G (dM 0 G x)).bu=0:=by
 unfold nK;simp only[Bool.and_eq_true,Bool.not_eq_true',decide_eq_false_iff_not];constructor
 ·rintro⟨h1,h2⟩;exact⟨qI h1,h2⟩
 ·rintro⟨⟨h1,_⟩,h2⟩;exact⟨by omega,h2⟩
theorem qJ {G:GL} {l:List af} {i:Int} (h:i∈mF G l): ∃x∈l,nK G x=true∧dM 0 G x=i:=by
 unfold mF at h;obtain⟨x,hx,e⟩:=List.mem_map.1 h;obtain⟨h1,h2⟩:=List.mem_filter.1 hx;exact⟨x,h1,h2,e⟩
theorem OB {G:GL} {l:List af} {x:af} (h:x∈l) (ha:nK G x=true):dM 0 G x∈mF G l:=List.mem_map_of_mem (List.mem_filter.2 ⟨h,ha⟩)
theorem lM (G:GL): ∀(l:List af) (m R:Int),iR G l m=some R→(m<0∨m=R∨True)∧(0≤m→R=m)∧(∀x∈l,nK G x=true→oM G x=R)∧(R=m∨ ∃x∈l,nK G x=true)
 | [],m,R,h=>by simp only[iR,Option.some.injEq]at h;exact⟨.inr (.inr trivial),fun _=>h.symm,fun x hx=>(by cases hx),.inl h.symm⟩
 |x::l,m,R,h=>by
  simp only[iR]at h;cases ha:nK G x with
  |false=>
   rw[ha]at h;simp only[Bool.false_eq_true,if_false]at h;obtain⟨_,h2,h3,h4⟩:=lM G l m R h;refine⟨.inr (.inr trivial),h2,fun y hy hay=> ?_,?_⟩
   ·rcases List.mem_cons.1 hy with rfl|hy
    ·rw[ha]at hay;cases hay
    ·exact h3 y hy hay
   ·rcases h4 with h4|⟨y,hy,hay⟩
    ·exact .inl h4
    ·exact .inr ⟨y,List.mem_cons_of_mem _ hy,hay⟩
  |true=>
   rw[ha]at h;simp only[if_true]at h;have h0:0≤oM G x:=by unfold oM;omega
   have key:iR G l (oM G x)=some R∧(0≤m→m=oM G x):=by
    split at h
    ·split at h
     ·rename_i h2;exact⟨h,fun _=>h2⟩
     ·cases h
    ·rename_i h1;exact⟨h,fun h=>absurd h h1⟩
   obtain⟨_,h2,h3,_⟩:=lM G l _ R key.1;have e:=h2 h0;refine⟨.inr (.inr trivial),fun hm=>by rw[e,←key.2 hm],fun y hy hay=> ?_,.inr ⟨x,by simp,ha⟩⟩
   rcases List.mem_cons.1 hy with rfl|hy
   ·exact e.symm
   ·exact h3 y hy hay
structure iW (G:GL):Prop where
 ok:gW (-1) G=true
 wd: ∀g∈G,Gt g
 sz: ∀g∈G,gv g≤1500
 len:(G.length:Int)≤1000000000
theorem iW.got {G:GL} (h:iW G): ∀g∈G,yD g=true:=fun g hg=>(Gu h.ok g hg).2
theorem Lt {d:Int}: ∀{l:GL},(∀x∈l,(d<0∨x.bu=d)∧yD x=true)→gW d l=true
 | [],_=>by simp only[gW]
 |x::l,h=>by
  obtain⟨h1,h2⟩:=h x (by simp)
  simp only[gW,h2,Lt (l:=l) fun y hy=>h y (List.mem_cons_of_mem _ hy),Bool.and_true,Bool.or_eq_true,decide_eq_true_eq]
  exact h1
theorem pK {g:aV} (h:yD g=true):g.aZ.ak=1∧okb g.aZ=true∧0≤g.bu∧g.bu≤60∧(g.bu=0→g.aP= []∧okb g.bY=true)∧(¬g.bu=0→gW (g.bu-1) g.aP=true):=by
 rw[BV]at h;simp only[Bool.and_eq_true,decide_eq_true_eq]at h;obtain⟨h1,h2,h3,h4,h5⟩:=h;refine⟨h1,h2,h3,h4,fun z=> ?_,fun z=> ?_⟩
 ·rw[if_pos z]at h5;simp only[Bool.and_eq_true,decide_eq_true_eq]at h5;exact⟨List.eq_nil_of_length_eq_zero (by omega),h5.2⟩
 ·rw[if_neg z]at h5;exact h5
theorem Qo {g:aV} (hc:yD g=true) (hw:Gt g) (hd: ¬g.bu=0) {K:Int} (h0:0≤K) (h1:K<(g.aP.length:Int)):
  yD (zQ K g)=true∧Gt (zQ K g)∧gv (zQ K g)=gv (aF az g.aP K)∧gv (zQ K g)≤gv g∧(zQ K g).bu=g.bu-1:=by
 obtain⟨c1,c2,c3,c4,_,c6⟩:=pK hc;obtain⟨w1,w2,w3⟩:=(mg g).1 hw;have hm:aF az g.aP K∈g.aP:=dF _ _ _ h0 h1;obtain⟨d1,d2⟩:=Gu (c6 hd) _ hm;obtain⟨e1,e2,e3⟩:=(mg _).1 (yE w3 _ hm);have d1:(aF az g.aP K).bu=g.bu-1:=by
  rcases d1 with d1|d1
  ·omega
  ·exact d1
 have hv:gv (zQ K g)=gv (aF az g.aP K):=by rw[pJ,pJ];rfl
 refine⟨?_,(mg _).2 ⟨w1,e2,e3⟩,hv,?_,d1⟩
 ·rw[BV]at d2⊢;simp only[Bool.and_eq_true,decide_eq_true_eq]at d2⊢;exact⟨c1,c2,d2.2.2⟩
 ·rw[hv,pJ g];have:=IJ hm;omega
theorem VF {ks:List Int} {K:Int} {G:GL} {y:aV} (h:y∈dZ ks K G): ∃i:Nat,∃hi:i<G.length,(((i:Int)∈ks∧y=zQ K G[i])∨((i:Int)∉ks∧y=G[i])):=by
 unfold dZ at h;obtain⟨i,hi,e⟩:=List.getElem_of_mem h;have hi':i<G.length:=by simpa using hi
 rw[List.getElem_mapIdx]at e;refine⟨i,hi',?_⟩
 split at e
 ·rename_i hm;exact .inl ⟨hm,e.symm⟩
 ·rename_i hm;exact .inr ⟨hm,e.symm⟩
theorem iW.upd {G:GL} (h:iW G) {l:List af} {R:Int} (ht:iR G l (-1)=some R) {K:Int} (h0:0≤K) (h1:K<R):iW (dZ (mF G l) K G):=by
 obtain⟨_,_,t3,_⟩:=lM G l _ _ ht;have each: ∀y∈dZ (mF G l) K G,yD y=true∧Gt y∧gv y≤1500:=by
  intro y hy;obtain⟨i,hi,⟨hm,e⟩|⟨_,e⟩⟩:=VF hy
  ·obtain⟨x,hx,ha,hgi⟩:=qJ hm;have hl:=t3 x hx ha;obtain⟨_,a2⟩:=jP.1 ha;unfold oM at hl;rw[hgi,g_ _ _ _ hi]at hl a2;have hg:=List.getElem_mem hi;obtain⟨q1,q2,_,q4,_⟩:=Qo (h.got _ hg) (h.wd _ hg) a2 h0 (by omega)
   subst e;exact⟨q1,q2,by have:=h.sz _ hg;omega⟩
  ·subst e;have hg:=List.getElem_mem hi;exact⟨h.got _ hg,h.wd _ hg,h.sz _ hg⟩
 refine⟨Lt fun y hy=>⟨.inl (by omega),(each y hy).1⟩,fun y hy=>(each y hy).2.1,fun y hy=>(each y hy).2.2,?_⟩
 rw[u_];exact h.len
def xx (G:GL) (x:af):Int:=if dM 0 G x<0 then 0 else gv (aF az G (dM 0 G x))
def zT (G:GL):List af→Int
 | []=>0
 |x::l=>xx G x+zT G l
def jy (f:Nat→Int):Nat→Int
 |0=>0
 |n+1=>jy f n+f n
theorem Lu {G:GL} (h:iW G) (x:af):0≤xx G x∧xx G x≤1500:=by
 unfold xx
 split
 ·omega
 ·rename_i hn;obtain⟨a,b⟩:=qI hn;exact⟨VE _,h.sz _ (dF _ _ _ a b)⟩
theorem BX {G:GL} (h:iW G): ∀l:List af,0≤zT G l∧zT G l≤1500*(l.length:Int)
 | []=>by simp[zT]
 |x::l=>by
  have h1:=Lu h x;have h2:=BX h l;simp only[zT,List.length_cons];omega
theorem OC (G:GL) (a b:List af):zT G (a++b)=zT G a+zT G b:=by
 induction a with
 |nil=>simp[zT]
 |cons x a ih=>simp only[List.cons_append,zT,ih];omega
theorem LD (l:GL): ∀n:Nat,n≤l.length→jy (fun K=>gv (aF az l (K:Int))) n+(n:Int)=yC (l.take n)
 |0,_=>by simp[jy,yC]
 |n+1,h=>by
  have ih:=LD l n (by omega)
  have hn:n<l.length:=by omega
  have key: ∀a:GL,∀y,yC (a++ [y])=yC a+(1+gv y):=by
   intro a y
   induction a with
   |nil=>simp[yC]
   |cons z a ih=>simp only[List.cons_append,yC,ih];omega
  rw[List.take_succ_eq_append_getElem hn,key];simp only[jy,g_ _ _ _ hn];omega
theorem Ef (f g:Nat→Int): ∀n,jy (fun K=>f K+g K) n=jy f n+jy g n
 |0=>rfl
 |n+1=>by simp only[jy,Ef f g n];omega
theorem xy {f g:Nat→Int}: ∀n,(∀K,K<n→f K=g K)→jy f n=jy g n
 |0,_=>rfl
 |n+1,h=>by simp only[jy,xy n fun K hK=>h K (by omega),h n (by omega)]
theorem yG (c:Int) (f:Nat→Int): ∀n,jy (fun K=>c*f K) n=c*jy f n
 |0=>by simp[jy]
 |n+1=>by simp only[jy,yG c f n,Int.mul_add]
theorem sS (c:Int): ∀n:Nat,jy (fun _=>c) n=(n:Int)*c
 |0=>by simp[jy]
 |n+1=>by simp only[jy,sS c n,Int.natCast_add,Int.add_mul];omega
theorem Gx {G:GL} (h:iW G) {l:List af} {R:Int} (ht:iR G l (-1)=some R) (n:Nat) (hn:(n:Int)≤R): ∀l':List af,(∀x∈l',x∈l)→
  jy (fun K=>zT (dZ (mF G l) (K:Int) G) l') n+(if l'.any (nK G) then(n:Int) else 0)≤zT G l'
 | [],_=>by
  have:jy (fun K=>zT (dZ (mF G l) (K:Int) G) []) n=0:=by
   have:=sS 0 n
   simpa [zT]using this
  rw[this];simp[zT]
 |x::l',hs=>by
  have ih:=Gx h ht n hn l' fun y hy=>hs y (List.mem_cons_of_mem _ hy)
  obtain⟨_,_,t3,_⟩:=lM G l _ _ ht;have e1:jy (fun K=>zT (dZ (mF G l) (K:Int) G) (x::l')) n=jy (fun K=>xx (dZ (mF G l) (K:Int) G) x) n+jy (fun K=>zT (dZ (mF G l) (K:Int) G) l') n:=Ef _ _ n
  have name: ∀K,dM 0 (dZ (mF G l) K G) x=dM 0 G x:=fun K=>Gp _ _ _ _ (Gq _ _ _)
  rw[e1];simp only[zT,List.any_cons]
  by_cases ha:nK G x=true
  ·simp only[ha,Bool.true_or,if_true];obtain⟨⟨i0,i1⟩,hd⟩:=jP.1 ha;have hl:=t3 x (hs x (by simp)) ha
   have nn: ¬dM 0 G x<0:=by omega
   have hin:=OB (hs x (by simp)) ha
   have hgm:aF az G (dM 0 G x)∈G:=dF _ _ _ i0 i1;have e2:jy (fun K=>xx (dZ (mF G l) (K:Int) G) x) n=jy (fun K=>gv (aF az (aF az G (dM 0 G x)).aP (K:Int))) n:=xy n fun K hK=>by
    show xx _ _=_;unfold xx;rw[name,if_neg nn,II _ _ _ _ i0 i1,if_pos hin];unfold oM at hl;exact(Qo (h.got _ hgm) (h.wd _ hgm) hd (by omega) (by omega)).2.2.1
   unfold oM at hl;have e3:=LD (aF az G (dM 0 G x)).aP n (by omega)
   have e4:yC ((aF az G (dM 0 G x)).aP.take n)≤xx G x:=by
    unfold xx;rw[if_neg nn,pJ];have key: ∀(a b:GL),yC a≤yC (a++b):=by
     intro a b
     induction a with
     |nil=>simp only[List.nil_append,yC];exact(sO b).1
     |cons z a ih=>simp only[List.cons_append,yC];omega
    have:=key ((aF az G (dM 0 G x)).aP.take n) ((aF az G (dM 0 G x)).aP.drop n)
    rwa [List.take_append_drop]at this
   split at ih<;>omega
  ·have ha:nK G x=false:=by simpa using ha
   simp only[ha,Bool.false_or];have e2:jy (fun K=>xx (dZ (mF G l) (K:Int) G) x) n≤xx G x:=by
    have hz: ∀K:Nat,(K:Int)<R→xx (dZ (mF G l) (K:Int) G) x=0:=by
     intro K hK;unfold xx;rw[name]
     split
     ·rfl
     ·rename_i nn;obtain⟨i0,i1⟩:=qI nn;have hd:(aF az G (dM 0 G x)).bu=0:=by
       by_cases hd:(aF az G (dM 0 G x)).bu=0
       ·exact hd
       ·rw[jP.2 ⟨⟨i0,i1⟩,hd⟩]at ha;cases ha
      have hnot:dM 0 G x∉mF G l:=by
       intro hm;obtain⟨y,_,hay,e⟩:=qJ hm;have:=(jP.1 hay).2;rw[e]at this;exact this hd
      rw[II _ _ _ _ i0 i1,if_neg hnot,pJ];have:=(pK (h.got _ (dF _ _ _ i0 i1))).2.2.2.2.1 hd;rw[this.1];simp only[yC]
    have:jy (fun K=>xx (dZ (mF G l) (K:Int) G) x) n=jy (fun _=>0) n:=xy n fun K hK=>hz K (by omega)
    rw[this,sS];have:=(Lu h x).1;omega
   omega
def vb (G:GL) (l:List af):Int:=1+zT G l
theorem jK {G:GL} (h:iW G) (l:List af):1≤vb G l∧vb G l≤1+1500*(l.length:Int):=by
 have:=BX h l;unfold vb;omega
theorem yH {G:GL} (h:iW G) {l:List af} {R:Int} (ht:iR G l (-1)=some R) (hR:0≤R) (n:Nat) (hn:(n:Int)≤R):jy (fun K=>vb (dZ (mF G l) (K:Int) G) l) n≤zT G l:=by
 obtain⟨_,_,_,t4⟩:=lM G l _ _ ht;have ha:l.any (nK G)=true:=by
  rcases t4 with t4|⟨x,hx,ha⟩
  ·omega
  ·exact List.any_eq_true.2 ⟨x,hx,ha⟩
 have h1:=Gx h ht n hn l fun _ hx=>hx
 rw[if_pos ha]at h1;have h2:jy (fun K=>vb (dZ (mF G l) (K:Int) G) l) n=jy (fun _=>1) n+jy (fun K=>zT (dZ (mF G l) (K:Int) G) l) n:=Ef (fun _=>1) _ n
 rw[h2,sS];omega
theorem yI {f:Nat→Option Jq} {g h:Nat→Int}: ∀(n:Nat) (a:List af),sQ f n=some a→(∀K,K<n→ ∀b,f K=some b→bG b≤g K∧(b.length:Int)≤h K)→bG a≤jy g n∧(a.length:Int)≤jy h n
 |0,a,e,_=>by
  simp only[sQ,Option.some.injEq]at e;subst e;simp[bG,jy]
 |n+1,a,e,hb=>by
  simp only[sQ,Option.bind_eq_some_iff,Option.map_eq_some_iff]at e;obtain⟨a0,e1,b,e2,e3⟩:=e;obtain⟨h1,h2⟩:=yI n a0 e1 fun K hK=>hb K (by omega)
  obtain⟨h3,h4⟩:=hb n (by omega) b e2
  subst e3;rw[dh,List.length_append,Int.natCast_add];simp only[jy];omega
theorem nM {m:GL→Option af} {l:List af} {C:Int} (hC:0≤C) (hm: ∀G,iW G→ ∀x,m G=some x→wid x≤C*vb G l): ∀(d:Nat) (G:GL),iW G→ ∀out,gp m l d G=some out→bG out≤C*vb G l∧(out.length:Int)≤vb G l
 |0,G,hG,out,h=>by
  simp only[gp,Option.map_eq_some_iff]at h;obtain⟨x,h1,h2⟩:=h;subst h2;rw[iD];exact⟨hm G hG x h1,by have:=(jK hG l).1;simp;omega⟩
 |d+1,G,hG,out,h=>by
  simp only[gp,Option.bind_eq_some_iff]at h;obtain⟨R,h1,h2⟩:=h
  split at h2
  ·cases h2
  ·rename_i hR;have hR:0≤R:=by omega
   obtain⟨a1,a2⟩:=yI (g:=fun K=>C*vb (dZ (mF G l) (K:Int) G) l) (h:=fun K=>vb (dZ (mF G l) (K:Int) G) l) R.toNat out h2 fun K hK b hb=>
    nM hC hm d _ (hG.upd h1 (by omega) (by omega)) b hb
   rw[yG]at a1;have h3:=yH hG h1 hR R.toNat (by omega)
   have hvb:vb G l=1+zT G l:=rfl;have h4:C*jy (fun K=>vb (dZ (mF G l) (K:Int) G) l) R.toNat≤C*vb G l:=Int.mul_le_mul_of_nonneg_left (by omega) hC
   exact⟨by omega,by omega⟩
theorem Qp {G:GL} (h:iW G) {l:List af} {p:af} (hp:p∈l):zT G (dV [] p)≤zT G (dY [] l):=by
 induction l with
 |nil=>cases hp
 |cons x l ih=>
  simp only[dY,OC];have h1:=(BX h (dV [] x)).1;have h2:=(BX h (dY [] l)).1;rcases List.mem_cons.1 hp with rfl|hp
  ·omega
  ·have:=ih hp;omega
theorem zU {m:af→GL→Option af} {G:GL} (hG:iW G) {V:Int} (hV:1≤V): ∀(l:List af) (k:Nat),(∀p∈l,vb G (dV [] p)≤V∧ ∀G',iW G'→ ∀x,m p G'=some x→wid x≤(2000000*cnt p)*vb G' (dV [] p))→ ∀out,iq m G k l=some out→bG out≤(2000000*cnts l)*V∧(out.length:Int)≤V*(l.length:Int)
 | [],k,_,out,h=>by
  have:out= []:=by cases k<;>simpa [iq]using h.symm
  subst this;simp[bG,cnts]
 |x::l,k+1,hp,out,h=>by
  obtain⟨h1,h2⟩:=zU hG hV l k (fun p hp'=>hp p (List.mem_cons_of_mem _ hp')) out h
  have hc:=(dm x).1;have e1:(2000000*cnts l)*V≤(2000000*cnts (x::l))*V:=Int.mul_le_mul_of_nonneg_right (by simp only[cnts];omega) (by omega)
  have e2:V*(l.length:Int)≤V*((x::l).length:Int):=Int.mul_le_mul_of_nonneg_left (by simp only[List.length_cons,Int.natCast_add];omega) (by omega)
  omega
 |p::ps,0,hp,out,h=>by
  simp only[iq]at h
  split at h
  ·cases h
  ·simp only[Option.bind_eq_some_iff,Option.map_eq_some_iff]at h;obtain⟨a,h1,b,h2,h3⟩:=h;obtain⟨v1,v2⟩:=hp p (by simp)
   have hc:=(dm p).1;obtain⟨q1,q2⟩:=nM (by omega) v2 _ G hG a h1
   obtain⟨q3,q4⟩:=zU hG hV ps _ (fun p' hp'=>hp p' (List.mem_cons_of_mem _ hp')) b h2
   subst h3;have e1:(2000000*cnt p)*vb G (dV [] p)≤(2000000*cnt p)*V:=Int.mul_le_mul_of_nonneg_left v1 (by omega)
   have e2:(2000000*cnts (p::ps))*V=(2000000*cnt p)*V+(2000000*cnts ps)*V:=by simp only[cnts];rw[Int.mul_add,Int.add_mul]
   have e3:V*((p::ps).length:Int)=V+V*(ps.length:Int):=by simp only[List.length_cons,Int.natCast_add,Int.mul_add];omega
   rw[dh,List.length_append,Int.natCast_add];omega
theorem OD {G:GL} (hG:iW G) {x y:af} (hw:wid x≤2000000) (h:xu G x=some y):wid y≤2000000:=by
 unfold xu at h
 split at h
 ·injection h with h;subst h;exact hw
 ·rename_i hn;obtain⟨i0,i1⟩:=qI hn
  split at h
  ·injection h with h
   subst h;exact((mg _).1 (hG.wd _ (dF _ _ _ i0 i1))).2.1
  ·cases h
theorem rG {x:af} {d:Int} (h:jl x d=true) (h1: ¬x.ak=1):x.ak=2∨((x.ak=3∨(x.ak=4∧2≤(x.aj.length:Int)))∧(∀y∈x.aj,jl y (d+1)=true)∧x=⟨x.ak,ByteArray.empty,[],0,x.aj⟩):=by
 rcases bU h with⟨h',_⟩|⟨h',_⟩|⟨h',hk⟩
 ·exact absurd h' h1
 ·exact .inl h'
 ·refine .inr ⟨h',gI hk,yF h h1 (by omega)⟩
theorem zV {G:GL}: ∀(l:List af) (ks:List af),dN G l=some ks→ks.length=l.length
 | [],ks,h=>by simp only[dN,Option.some.injEq]at h;rw[←h]
 |x::l,ks,h=>by
  simp only[dN,Option.bind_eq_some_iff,Option.map_eq_some_iff]at h;obtain⟨y,_,ks',h2,h3⟩:=h;rw[←h3,List.length_cons,List.length_cons,zV l ks' h2]
theorem Sr (x:af) (ks:List af) (hx:x=⟨x.ak,ByteArray.empty,[],0,x.aj⟩) (h4:x.ak=4→1≤(ks.length:Int)):wid (mD x ks)≤1+bG ks:=by
 unfold mD
 split
 ·rename_i h;have h1:=rF (ks.take (ks.length-1)) (aF ah ks ((ks.length:Int)-1));have h2:=ry (h4 h);have h3:bG ks=bG (ks.take (ks.length-1))+wid (aF ah ks ((ks.length:Int)-1)):=by
   conv=>lhs;rw[←h2]
   rw[dh,iD]
  omega
 ·have e1:x.aG=ByteArray.empty:=by rw[hx]
  have e2:x.aB= []:=by rw[hx]
  rw[gU,e1,e2];simp only[List.length_nil,show ByteArray.empty.size=0 from rfl];omega
theorem LG {G:GL} (hG:iW G): ∀(t:af) (e:Int),jl t e=true→wid t≤2000000→ ∀x,iJ G t=some x→wid x≤2000000*cnt t:=by
 refine dX fun t ih e hok hw x hx=> ?_
 have hc:=jh t;have hcp:=(dm t).1;have hp:=aW t;rw[oQ]at hx
 by_cases h1:t.ak=1
 ·rw[if_pos h1]at hx;have:=OD hG hw hx;omega
 rw[if_neg h1]at hx;simp only[Option.map_eq_some_iff]at hx;obtain⟨ks,hks,rfl⟩:=hx;rcases rG hok h1 with h2|⟨h3,hk,he⟩
 ·have:t.aj= []:=by
   rcases bU hok with⟨h',_⟩|⟨_,k⟩|⟨h',_⟩
   ·omega
   ·exact k
   ·omega
  rw[this]at hks;simp only[dN,Option.some.injEq]at hks;subst hks;have n4: ¬t.ak=4:=by omega
  unfold mD;rw[if_neg n4,gU];have:=nX t;simp only[bG];omega
 ·have key: ∀(l:List af),(∀y∈l,y∈t.aj)→ ∀ks,dN G l=some ks→bG ks≤2000000*cnts l:=by
   intro l
   induction l with
   |nil=>intro _ ks h;simp only[dN,Option.some.injEq]at h;rw[←h];simp[bG,cnts]
   |cons y l ihl=>
    intro hs ks h;simp only[dN,Option.bind_eq_some_iff,Option.map_eq_some_iff]at h;obtain⟨z,e1,ks',e2,e3⟩:=h;have hy:=hs y (by simp)
    have:=ih y hy (e+1) (hk y hy) (by have:=bZ hy;omega) z e1
    have:=ihl (fun z hz=>hs z (List.mem_cons_of_mem _ hz)) ks' e2
    rw[←e3];simp only[bG,cnts];omega
  have k1:=key t.aj (fun _ h=>h) ks hks
  have k2:=zV _ _ hks;have k3:=Sr t ks he (fun h4=>by omega)
  omega
theorem sU: ∀(n:Nat) (t:af) (e:Int) (G:GL),jl t e=true→wid t≤2000000→iW G→ ∀x,gQ n t G=some x→wid x≤(2000000*cnt t)*vb G (dV [] t)
 |0,t,e,G,_,_,_,x,h=>by cases h
 |n+1,t,e,G,hok,hw,hG,x,h=>by
  have hc:=jh t;have hcp:=(dm t).1;have hp:=aW t;have hv:=(jK hG (dV [] t)).1;have mul: ∀a:Int,a≤2000000*cnt t→a≤(2000000*cnt t)*vb G (dV [] t):=by
   intro a ha;have:(2000000*cnt t)*1≤(2000000*cnt t)*vb G (dV [] t):=Int.mul_le_mul_of_nonneg_left hv (by omega)
   omega
  simp only[gQ]at h
  split at h
  ·exact mul _ (by have:=OD hG hw h;omega)
  rename_i h1
  split at h
  ·injection h with h;subst h;exact mul _ (by omega)
  rename_i h2;rcases rG hok h1 with h2'|⟨h3,hk,he⟩
  ·exact absurd h2' h2
  split at h
  ·rename_i hd;have hm:aF ah t.aj 1∈t.aj:=dF _ _ _ (by omega) (by have:=hd.2.1;omega)
   have:=LG hG _ (e+1) (hk _ hm) (by have:=bZ hm;omega) x h
   have hcm:=l_ hm;exact mul _ (by omega)
  ·simp only[Option.bind_eq_some_iff]at h;obtain⟨out,h4,h5⟩:=h;have hn:dV [] t=dY [] t.aj:=by rw[iQ,if_neg h1]
   have hsub: ∀p∈partsOf t,p∈t.aj:=by
    intro p hp';unfold partsOf at hp'
    split at hp'
    ·exact List.mem_of_mem_take hp'
    ·exact hp'
   have hvb: ∀p∈t.aj,vb G (dV [] p)≤vb G (dV [] t):=fun p hp'=>by
    have:=Qp hG hp';rw[hn];unfold vb;omega
   obtain⟨q1,q2⟩:=zU hG hv (partsOf t) 0 (fun p hp'=>⟨hvb p (hsub p hp'),fun G' hG' y hy=>sU n p (e+1) G' (hk p (hsub p hp')) (by have:=bZ (hsub p hp');omega) hG' y hy⟩) out h4
   generalize hV:vb G (dV [] t)=V at*
   by_cases h6:t.ak=4
   ·rw[if_pos h6]at h5;simp only[Option.map_eq_some_iff]at h5;obtain⟨z,e1,e2⟩:=h5;have h7:2≤(t.aj.length:Int):=by omega
    have hl:lastOf t∈t.aj:=dF _ _ _ (by omega) (by omega)
    have r1:=sU n (lastOf t) (e+1) G (hk _ hl) (by have:=bZ hl;omega) hG z e1
    have r2:(2000000*cnt (lastOf t))*vb G (dV [] (lastOf t))≤(2000000*cnt (lastOf t))*V:=Int.mul_le_mul_of_nonneg_left (hvb _ hl) (by have:=(dm (lastOf t)).1;omega)
    have r3:cnts t.aj=cnts (partsOf t)+cnt (lastOf t):=by
     conv=>lhs;rw[←ng h7 h6]
     rw[dw];simp[cnts]
    have r4:(2000000*cnt t)*V=2000000*V+((2000000*cnts (partsOf t))*V+(2000000*cnt (lastOf t))*V):=by
     rw[hc,r3,Int.mul_add,Int.add_mul,Int.mul_add,Int.add_mul];omega
    have r5:=rF out z;rw[←e2,r4];omega
   ·rw[if_neg h6]at h5;injection h5 with h5
    subst h5;have e3:partsOf t=t.aj:=by unfold partsOf;rw[if_neg h6]
    rw[e3]at q1;have r4:(2000000*cnt t)*V=2000000*V+(2000000*cnts t.aj)*V:=by rw[hc,Int.mul_add,Int.add_mul];omega
    rw[gU,r4];simp only[List.length_nil,show ByteArray.empty.size=0 from rfl];omega
theorem ve (ks:List af) (e:af):cnts ks+cnt e≤cnt (d_ ks e):=by
 unfold d_
 split
 ·rename_i h;have:ks= []:=List.eq_nil_of_length_eq_zero h;subst this;simp[cnts]
 ·split
  ·rw[Ee,dw,jh e];omega
  ·rw[Ee,dw];simp only[cnts];omega
theorem je: ∀x:af,wid x≤1000000000→Ev (fun k=>qu.f k x) (x.ak,x.aG,x.aI,x.aB,x.aj):=by
 refine dX fun x ih hw=> ?_
 have hp:=aW x;refine Ev.shift ?_;simp (disch:=omega) only[qu.f,if_pos,List.length_nil,Nat.zero_add,List.nil_append];refine Ev.bind (r:=x.aj) (Ev.shift ?_) (Ev.now _);simp only[Bj.f];refine Ev.eq (dG x.aj (P:=fun i suf=> ∀out:List af,(out.length:Int)=i→Ev (fun k=>Bj.l3 k x.aj i out) (out++suf)) ?_ ?_ [] rfl) (by simp)
 ·intro out ho;refine Ev.shift ?_;simp (disch:=omega) only[Bj.l3,if_neg,List.append_nil];exact Ev.now _
 ·intro i y r h0 h1 hx hm hl _ _ ihr out ho;have hy:=bZ hm;refine Ev.shift ?_;simp (disch:=omega) only[Bj.l3,if_pos,hx,ay,eu,List.length_singleton];refine Ev.bind (ih y hm (by omega)) ?_
  simp (disch:=omega) only[if_pos,aJ];exact Ev.eq (ihr (out++ [y]) (by simp;omega)) (by simp)
theorem OE (l:List af) (hw:bG l≤1000000000):Ev (fun k=>Bj.f k l) l:=by
 refine Ev.shift ?_;simp only[Bj.f];have hlen:=dO l;refine Ev.eq (dG l (P:=fun i suf=> ∀out:List af,(out.length:Int)=i→Ev (fun k=>Bj.l3 k l i out) (out++suf)) ?_ ?_ [] rfl) (by simp)
 ·intro out ho;refine Ev.shift ?_;simp (disch:=omega) only[Bj.l3,if_neg,List.append_nil];exact Ev.now _
 ·intro i y r h0 h1 hx hm hl _ _ ihr out ho;have hy:=bZ hm;refine Ev.shift ?_;simp (disch:=omega) only[Bj.l3,if_pos,hx,ay,eu,List.length_singleton];refine Ev.bind (je y (by omega)) ?_
  simp (disch:=omega) only[if_pos,aJ];exact Ev.eq (ihr (out++ [y]) (by simp;omega)) (by simp)
def yY (b:List Int):Prop:=b.length≤2000∧ ∀x∈b,0≤x∧x≤255
theorem yY.rd {b:List Int} (h:yY b) (i:Int):0≤aF 0 b i∧aF 0 b i≤255:=by
 unfold aF;rw[List.getD_eq_getElem?_getD];cases hi:b[i.toNat]? with
 |none=>simp
 |some x=>exact h.2 x (List.mem_of_getElem? hi)
theorem bT {b:List Int} {p:Int} (n:Int) (hb:yY b) (h0:0≤p) (hp:p≤1099511627776):
  aH (fun k=>qi.f k n b p) (fun r=>r.2=(b,p+1)∧0≤r.1∧(1≤n→r.1<n)∧(n<1→r.1=0)):=by
 by_cases hn:n<1
 ·simp (disch:=omega) only[qi.f,if_pos,eu];exact aH.now ⟨rfl,by omega,by omega,fun _=>rfl⟩
 by_cases hl:(b.length:Int)=0
 ·simp (disch:=omega) only[qi.f,if_pos,if_neg,eu];exact aH.now ⟨rfl,by omega,by omega,by omega⟩
 have hL:(0:Int)<(b.length:Int):=by omega
 by_cases hlt:p<(b.length:Int)
 ·have:=hb.rd p;simp (disch:=omega) only[qi.f,qi.j4,if_pos,if_neg,eu,Int.add_sub_cancel];obtain⟨h1,h2⟩:=wQ (x:=aF 0 b p) (n:=n) (by omega) (by omega)
  exact aH.now ⟨rfl,h1,fun _=>h2,by omega⟩
 ·obtain⟨a1,a2⟩:=wQ (x:=p) (n:=(b.length:Int)) h0 hL;obtain⟨b1,b2⟩:=wQ (x:=p*7+3) (n:=(b.length:Int)) (by omega) hL
  obtain⟨c1,c2⟩:=hb.rd (p.tmod (b.length:Int));obtain⟨d1,d2⟩:=hb.rd ((p*7+3).tmod (b.length:Int));obtain⟨e1,e2⟩:=Dx (x:=p) (n:=(b.length:Int)) h0 (by omega)
  simp (disch:=omega) only[qi.f,qi.j4,if_pos,if_neg,eu,Int.add_sub_cancel];refine aH.now ⟨rfl,Int.tmod_nonneg _ ?_,fun _=>Int.tmod_lt_of_pos _ (by omega),by omega⟩
  generalize aF 0 b (p.tmod (b.length:Int))=A at c1 c2⊢;generalize aF 0 b ((p*7+3).tmod (b.length:Int))=C at d1 d2⊢;generalize p.tdiv (b.length:Int)=D at e1 e2⊢;obtain⟨f1,f2⟩:=Dx (x:=A*131+C*1117+p*29+D*53) (n:=64) (by omega) (by omega)
  simp (disch:=omega) only[eu];exact QV (by omega) (by omega) f1 (by omega)
theorem AL {b:List Int} {p:Int} (l:List ByteArray) (hb:yY b) (h0:0≤p) (hp:p≤1099511627776) (hl:1≤(l.length:Int)):
  aH (fun k=>Aj.f k l b p) (fun r=>r.2=(b,p+1)∧r.1∈l):=by
 simp only[Aj.f];refine aH.bind (bT (l.length:Int) hb h0 hp) fun r ⟨h1,h2,h3,_⟩=> ?_
 have:=h3 hl;simp (disch:=omega) only[if_pos];exact aH.now ⟨h1,dF _ _ _ h2 this⟩
theorem IL (l:List Int) (hw: ∀x∈l,0≤x∧x≤255):aH (fun k=>IZ.f k l) (fun r=>yY r.1∧r.2=0):=by
 by_cases h:2000<(l.length:Int)
 ·simp (disch:=omega) only[IZ.f,if_pos,List.drop_zero];exact aH.now ⟨⟨by rw[List.length_take];omega,fun x hx=>hw x (List.mem_of_mem_take hx)⟩,rfl⟩
 ·simp (disch:=omega) only[IZ.f,if_neg];exact aH.now ⟨⟨by show l.length≤2000;omega,hw⟩,rfl⟩
def On (b:List Int) (p n:Int) (q:List Int×Int):Prop:=q.1=b∧p≤q.2∧q.2≤p+n
theorem Qq {b:List Int} {p:Int} (hb:yY b) (h0:0≤p) (hp:p≤1000000000000):aH (fun k=>qn.f k b p) (fun r=>On b p 5 r.2∧wid r.1≤10):=by
 simp only[qn.f];refine aH.bind (AL _ hb h0 (by omega) (by decide)) fun r ⟨h1,h2⟩=> ?_
 have hs:r.1.size≤4:=by
  simp only[List.mem_cons,List.not_mem_nil,or_false]at h2;rcases h2 with h|h|h|h<;>rw[h]<;>decide
 rw[h1];refine aH.bind (bT 9 hb (by show 0≤p+1;omega) (by show p+1≤_;omega)) fun q ⟨h3,h4,_⟩=> ?_
 rw[h3];refine goUp 3 (P:=fun i=>0≤i→i≤3→ ∀(p':Int) (a:List Int),(a.length:Int)≤i→p'=p+2+i→aH (fun k=>qn.l3 k i b p' 1 r.1 q.1 [] a) (fun r=>On b p 5 r.2∧wid r.1≤10)) ?_ ?_ 0 (by omega) (by omega) _ [] (by simp) (by show p+1+1=_;omega)
 ·intro i hi _ hi3 p' a ha hp';refine aH.shift ?_;simp (disch:=omega) only[qn.l3,if_neg];refine aH.now ⟨⟨rfl,?_,?_⟩,?_⟩
  ·show p≤p';omega
  ·show p'≤p+5;omega
  ·rw[gU];simp only[bG];omega
 ·intro i hi ih h0i _ p' a ha hp';refine aH.shift ?_;simp (disch:=omega) only[qn.l3,if_pos];refine aH.bind (bT 3 hb (by omega) (by omega)) fun s ⟨h5,h6,_⟩=> ?_
  rw[h5];refine aH.ite (fun _=> ?_) (fun _=> ?_)
  ·simp (disch:=omega) only[if_pos,List.length_singleton,eu];exact ih (by omega) (by omega) _ _ (by simp;omega) (by show p'+1=_;omega)
  ·simp (disch:=omega) only[eu];exact ih (by omega) (by omega) _ _ (by omega) (by show p'+1=_;omega)
def lim:Nat→Int
 |0=>10
 |d+1=>4*lim d+4
def steps:Nat→Int
 |0=>9
 |d+1=>3*steps d+9
theorem qQ (d:Nat):10≤lim d∧9≤steps d:=by
 induction d with
 |zero=>decide
 |succ d ih=>simp only[lim,steps];omega
def OG (b:List Int) (d:Nat):Prop:= ∀p:Int,0≤p→p+steps d≤1000000000000→aH (fun k=>q7.f k (d:Int) b p) (fun r=>On b p (steps d) r.2∧wid r.1≤lim d)
theorem VG {b:List Int} (hb:yY b) (d:Nat) (hd:d≤1000) (ih:OG b d) (p0:Int) (h00:0≤p0) (hp0:p0+3*steps d+9≤1000000000000): ∀(n:Int) (p:Int) (a:List af),p0≤p→n≤2→0≤n→
  (a.length:Int)+n≤2→bG a≤(a.length:Int)*lim d→p≤p0+2+(2-n)*steps d→aH (fun k=>q7.l12 k ((d:Int)+1) n b p 4 ByteArray.empty [] 0 a) (fun r=>On b p0 (steps (d+1)) r.2∧wid r.1≤lim (d+1)):=by
 have hl:=qQ d;intro n;refine goDown (P:=fun n=> ∀(p:Int) (a:List af),p0≤p→n≤2→0≤n→(a.length:Int)+n≤2→bG a≤(a.length:Int)*lim d→p≤p0+2+(2-n)*steps d→aH (fun k=>q7.l12 k ((d:Int)+1) n b p 4 ByteArray.empty [] 0 a) (fun r=>On b p0 (steps (d+1)) r.2∧wid r.1≤lim (d+1))) ?_ ?_ n
 ·intro i hi p a h1 h2 h3 h4 h5 h6;obtain rfl:i=0:=by omega
  refine aH.shift ?_;simp (disch:=omega) only[q7.l12,if_neg,q7.d15];refine aH.bind (Qq hb (by omega) (by omega)) fun r ⟨⟨g1,g2,g3⟩,g4⟩=> ?_
  simp (disch:=omega) only[if_pos,List.length_singleton,ay];refine aH.now ⟨⟨g1,by show _≤r.2.2;omega,by show r.2.2≤_;simp only[steps];omega⟩,?_⟩
  rw[gU,dh,iD];have h9:(a.length:Int)*lim d≤2*lim d:=Int.mul_le_mul_of_nonneg_right (by omega) (by omega)
  simp only[lim,List.length_nil,show ByteArray.empty.size=0 from rfl]
  omega
 ·intro i hi ihi p a h1 h2 h3 h4 h5 h6;refine aH.shift ?_;have e:(2-(i-1))*steps d=(2-i)*steps d+steps d:=by rw[show 2-(i-1)=(2-i)+1 by omega,Int.add_mul,Int.one_mul]
  have h8:(2-i)*steps d≤1*steps d:=Int.mul_le_mul_of_nonneg_right (by omega) (by omega)
  simp (disch:=omega) only[q7.l12,if_pos,q7.Ii,eu,Int.add_sub_cancel];refine aH.bind (ih p (by omega) (by omega)) fun r ⟨⟨g1,g2,g3⟩,g4⟩=> ?_
  simp (disch:=omega) only[if_pos,List.length_singleton,ay];rw[g1];refine ihi _ _ (by omega) (by omega) (by omega) (by simp;omega) ?_ (by omega)
  rw[dh,iD,List.length_append,List.length_singleton,Int.natCast_add,Int.add_mul];omega
theorem VH {b:List Int} (hb:yY b) (d:Nat) (hd:d≤1000) (ih:OG b d) (p0:Int) (h00:0≤p0) (hp0:p0+3*steps d+9≤1000000000000): ∀(n:Int) (p:Int) (a:List af),p0≤p→n≤3→0≤n→
  (a.length:Int)+n≤3→bG a≤(a.length:Int)*lim d→p≤p0+2+(3-n)*steps d→aH (fun k=>q7.tX k ((d:Int)+1) n b p 3 ByteArray.empty [] 0 a) (fun r=>On b p0 (steps (d+1)) r.2∧wid r.1≤lim (d+1)):=by
 have hl:=qQ d;intro n;refine goDown (P:=fun n=> ∀(p:Int) (a:List af),p0≤p→n≤3→0≤n→(a.length:Int)+n≤3→bG a≤(a.length:Int)*lim d→p≤p0+2+(3-n)*steps d→aH (fun k=>q7.tX k ((d:Int)+1) n b p 3 ByteArray.empty [] 0 a) (fun r=>On b p0 (steps (d+1)) r.2∧wid r.1≤lim (d+1))) ?_ ?_ n
 ·intro i hi p a h1 h2 h3 h4 h5 h6;obtain rfl:i=0:=by omega
  refine aH.shift ?_;simp (disch:=omega) only[q7.tX,if_neg];refine aH.now ⟨⟨rfl,by show _≤p;omega,by show p≤_;simp only[steps];omega⟩,?_⟩
  rw[gU];have h9:(a.length:Int)*lim d≤3*lim d:=Int.mul_le_mul_of_nonneg_right (by omega) (by omega)
  simp only[lim,List.length_nil,show ByteArray.empty.size=0 from rfl]
  omega
 ·intro i hi ihi p a h1 h2 h3 h4 h5 h6;refine aH.shift ?_;have e:(3-(i-1))*steps d=(3-i)*steps d+steps d:=by rw[show 3-(i-1)=(3-i)+1 by omega,Int.add_mul,Int.one_mul]
  have h8:(3-i)*steps d≤2*steps d:=Int.mul_le_mul_of_nonneg_right (by omega) (by omega)
  simp (disch:=omega) only[q7.tX,if_pos,q7.zC,eu,Int.add_sub_cancel];refine aH.bind (ih p (by omega) (by omega)) fun r ⟨⟨g1,g2,g3⟩,g4⟩=> ?_
  simp (disch:=omega) only[if_pos,List.length_singleton,ay];rw[g1];refine ihi _ _ (by omega) (by omega) (by omega) (by simp;omega) ?_ (by omega)
  rw[dh,iD,List.length_append,List.length_singleton,Int.natCast_add,Int.add_mul];omega
theorem yJ {b:List Int} (hb:yY b): ∀d:Nat,d≤100→OG b d:=by
 intro d;have leaf: ∀(B:Nat→Option (af×List Int×Int)) (d:Nat) (p:Int) (x:Int),0≤p→p+steps d≤1000000000000→0≤x→
   (x=4∨4<x→aH (fun k=>q7.tu k (q7.f k) (q7.l12 k) (q7.tX k) (d:Int) x false b (p+1)) (fun r=>On b p (steps d) r.2∧wid r.1≤lim d))→
   aH (fun k=>if x=0 then q7.tu k (q7.f k) (q7.l12 k) (q7.tX k) (d:Int) x true b (p+1) else q7.tu k (q7.f k) (q7.l12 k) (q7.tX k) (d:Int) x (decide (x=1)) b (p+1)) (fun r=>On b p (steps d) r.2∧wid r.1≤lim d):=by
  intro _ d p x h0 hp hx h4;have hl:=qQ d;have hid:aH (fun k=>(qn.f k b (p+1)).bind fun r1=>some (au r1.1,r1.2.1,r1.2.2)) (fun r=>On b p (steps d) r.2∧wid r.1≤lim d):=by
   refine aH.bind (Qq hb (by omega) (by omega)) fun r ⟨⟨g1,g2,g3⟩,g4⟩=> ?_
   exact aH.now ⟨⟨g1,by show _≤r.2.2;omega,by show r.2.2≤_;omega⟩,by show wid (au r.1)≤_;rw[ay];omega⟩
  by_cases x0:x=0
  ·simp only[if_pos x0,q7.tu,if_true];exact hid
  by_cases x1:x=1
  ·subst x1;simp only[if_neg x0,q7.tu,decide_true,if_true];exact hid
  simp only[if_neg x0,decide_eq_false x1]
  by_cases x2:x=2
  ·subst x2;simp only[q7.tu,if_true,Bool.false_eq_true,if_false];refine aH.bind (AL _ hb (by omega) (by omega) (by decide)) fun r ⟨h1,h2⟩=> ?_
   rw[h1];have hs:r.1.size≤4:=by
    simp only[List.mem_cons,List.not_mem_nil,or_false]at h2;rcases h2 with h|h|h|h<;>rw[h]<;>decide
   refine aH.now ⟨⟨rfl,by show _≤p+1+1;omega,by show p+1+1≤_;omega⟩,?_⟩
   rw[gU];simp only[bG,List.length_nil];omega
  by_cases x3:x=3
  ·subst x3;simp (disch:=decide) only[q7.tu,if_pos,if_neg,Bool.false_eq_true,if_false];refine aH.now ⟨⟨rfl,by show _≤p+1;omega,by show p+1≤_;omega⟩,?_⟩
   rw[gU];simp only[bG,List.length_nil,show ByteArray.empty.size=0 from rfl];omega
  ·exact h4 (by omega)
 have start: ∀(d:Nat) (p:Int),0≤p→p+steps d≤1000000000000→d≤100→(∀x:Int,0≤x→x=4∨4<x→(1≤(d:Int))→aH (fun k=>q7.tu k (q7.f k) (q7.l12 k) (q7.tX k) (d:Int) x false b (p+1)) (fun r=>On b p (steps d) r.2∧wid r.1≤lim d))→
   aH (fun k=>q7.f k (d:Int) b p) (fun r=>On b p (steps d) r.2∧wid r.1≤lim d):=by
  intro d p h0 hp hd h4;have hl:=qQ d;refine aH.shift ?_;simp only[q7.f,P9.f]
  by_cases hd1:(d:Int)<1
  ·obtain rfl:d=0:=by omega
   simp (disch:=omega) only[if_pos,Option.bind_some,eu,Int.natCast_zero,Int.mul_zero,Int.add_zero];refine aH.bind (bT 4 hb h0 (by omega)) fun r ⟨g1,g2,g3,_⟩=> ?_
   have:=g3 (by omega)
   rw[g1];exact leaf (fun _=>none) 0 p r.1 h0 hp g2 (by omega)
  ·simp (disch:=omega) only[if_neg,Option.bind_some,eu,Int.mul_one];refine aH.bind (bT _ hb h0 (by omega)) fun r ⟨g1,g2,g3,_⟩=> ?_
   rw[g1];exact leaf (fun _=>none) d p r.1 h0 hp g2 (fun h=>h4 r.1 g2 h (by omega))
 induction d with
 |zero=>intro _ p h0 hp;exact start 0 p h0 hp (by omega) (fun x _ _ h=>absurd h (by decide))
 |succ d ih=>
  intro hd p h0 hp;have hl:=qQ d;have hst:steps (d+1)=3*steps d+9:=rfl;refine start (d+1) p h0 hp hd (fun x hx h4 _=> ?_)
  have n2: ¬x=2:=by omega
  have n3: ¬x=3:=by omega
  rw[Int.natCast_add,Int.natCast_one]
  by_cases e:x=4
  ·simp only[q7.tu,Bool.false_eq_true,if_false,if_neg n2,if_neg n3,if_pos e];refine aH.bind (bT 2 hb (by omega) (by omega)) fun r ⟨g1,g2,g3,_⟩=> ?_
   have:=g3 (by omega)
   have h8:0≤(2-(1+r.1))*steps d:=Int.mul_nonneg (by omega) (by omega)
   rw[g1,eu (by omega) (by omega)]
   exact VG hb d (by omega) (ih (by omega)) p h0 (by omega) _ _ [] (by show p≤p+1+1;omega) (by omega) (by omega) (by simp;omega) (by simp[bG]) (by show p+1+1≤_;omega)
  ·simp only[q7.tu,Bool.false_eq_true,if_false,if_neg n2,if_neg n3,if_neg e];refine aH.bind (bT 4 hb (by omega) (by omega)) fun r ⟨g1,g2,g3,_⟩=> ?_
   have:=g3 (by omega)
   have h8:0≤(3-r.1)*steps d:=Int.mul_nonneg (by omega) (by omega)
   rw[g1];exact VH hb d (by omega) (ih (by omega)) p h0 (by omega) _ _ [] (by show p≤p+1+1;omega) (by omega) (by omega) (by simp;omega) (by simp[bG]) (by show p+1+1≤_;omega)
theorem Eg {b:List Int} {p:Int} (x:af) {n:Int} (hb:yY b) (h0:0≤p) (hp:p≤100000000000) (hx:wid x≤n) (hn:n≤1000000):aH (fun k=>qx.f k x b p) (fun r=>On b p 2 r.2∧wid r.1≤n+100):=by
 have hw:=nX x;have hk:=aW x;simp only[qx.f,ay];refine aH.bind (aH.of (je x (by omega)) (P:=fun r=>r=(x.ak,x.aG,x.aI,x.aB,x.aj)) rfl) fun r hr=> ?_
 subst hr
 dsimp only
 refine aH.bind (bT 6 hb h0 (by omega)) fun r ⟨g1,g2,g3,_⟩=> ?_
 rw[g1];have fin: ∀(y:af) (q:Int),p≤q→q≤p+2→wid y≤n+100→aH (fun _=>some (y,b,q)) (fun r=>On b p 2 r.2∧wid r.1≤n+100):=fun y q h1 h2 h3=>aH.now ⟨⟨rfl,h1,h2⟩,h3⟩
 refine aH.ite (fun _=> ?_) (fun _=>aH.ite (fun _=> ?_) (fun _=>aH.ite (fun _=> ?_) (fun _=>aH.ite (fun _=> ?_) (fun _=>aH.ite (fun _=> ?_) (fun _=> ?_)))))
 ·refine aH.bind (bT 7 hb (by omega) (by omega)) fun s ⟨e1,_⟩=> ?_
  rw[e1];exact fin _ _ (by omega) (by omega) (by rw[gU];omega)
 ·refine aH.bind (AL _ hb (by omega) (by omega) (by decide)) fun s ⟨e1,e2⟩=> ?_
  rw[e1];have hs:s.1.size≤4:=by
   simp only[List.mem_cons,List.not_mem_nil,or_false]at e2;rcases e2 with h|h|h|h|h|h<;>rw[h]<;>decide
  exact fin _ _ (by omega) (by omega) (by rw[gU];omega)
 ·simp only[qx.d12];refine aH.bind (bT 3 hb (by omega) (by omega)) fun s ⟨e1,e2,e3,_⟩=> ?_
  have:=e3 (by omega)
  rw[e1];simp (disch:=first|omega|(simp;omega)) only[if_pos]
  exact fin _ _ (by omega) (by omega) (by rw[gU,List.length_append,List.length_singleton];omega)
 ·refine aH.bind (bT 3 hb (by omega) (by omega)) fun s ⟨e1,e2,e3,_⟩=> ?_
  have:=e3 (by omega)
  rw[e1];simp (disch:=first|omega|(simp;omega)) only[if_pos]
  exact fin _ _ (by omega) (by omega) (by rw[gU];omega)
 ·simp (disch:=first|omega|(simp;omega)) only[if_pos]
  exact fin _ _ (by omega) (by omega) (by rw[gU,dh,iD,gU];simp only[bG,List.length_nil,show ByteArray.empty.size=0 from rfl];omega)
 ·refine aH.bind (bT 3 hb (by omega) (by omega)) fun s ⟨e1,e2,e3,_⟩=> ?_
  have:=e3 (by omega)
  rw[e1];simp (disch:=omega) only[eu];refine goDown (P:=fun m=> ∀a t (sc:List Int) d ks,0≤m→m≤60→1+(ByteArray.size t:Int)+(sc.length:Int)+bG ks+m≤n+100→aH (fun k=>qx.l4 k m b (p+1+1) a t d sc ks) (fun r=>On b p 2 r.2∧wid r.1≤n+100)) ?_ ?_ _ _ _ _ _ _ (by omega) (by omega) (by omega)
  ·intro i hi a t sc d ks h3 h1 h2;refine aH.shift ?_;simp (disch:=omega) only[qx.l4,if_neg];exact fin _ _ (by omega) (by omega) (by rw[gU];omega)
  ·intro i hi ih a t sc d ks h3 h1 h2;refine aH.shift ?_;simp (disch:=omega) only[qx.l4,if_pos,eu];exact ih _ _ _ _ _ (by omega) (by omega) (by rw[iD,gU];simp only[List.length_nil,show ByteArray.empty.size=0 from rfl];omega)
mutual
def lk:af→Int
 |⟨_,t,sc,_,ks⟩=>50+(t.size:Int)+(sc.length:Int)+4*jA ks
def jA:List af→Int
 | []=>0
 |x::l=>lk x+jA l
end
theorem lH (a:Int) (t:ByteArray) (sc:List Int) (d:Int) (ks:List af):lk ⟨a,t,sc,d,ks⟩=50+(t.size:Int)+(sc.length:Int)+4*jA ks:=by simp only[lk]
theorem tJ (x:af):lk x=50+(x.aG.size:Int)+(x.aB.length:Int)+4*jA x.aj:=by cases x;simp only[lk]
theorem kF (a b:List af):jA (a++b)=jA a+jA b:=by
 induction a with
 |nil=>simp[jA]
 |cons x a ih=>simp only[List.cons_append,jA,ih];omega
theorem iY: ∀x:af,wid x≤lk x∧50≤lk x:=by
 refine dX fun x ih=> ?_
 rw[nX,tJ];have:bG x.aj≤jA x.aj∧0≤jA x.aj:=by
  generalize x.aj=l at ih
  induction l with
  |nil=>simp[bG,jA]
  |cons y l ihl=>
   have h1:=ih y (by simp)
   have h2:=ihl (fun z hz=>ih z (by simp[hz]))
   simp only[bG,jA];omega
 omega
mutual
def OH:af→Bool
 |⟨s,_,_,_,ks⟩=>(!decide (s=4)||decide (1≤ks.length))&&nN ks
def nN:List af→Bool
 | []=>true
 |x::l=>OH x&&nN l
end
theorem AO (a:Int) (t:ByteArray) (sc:List Int) (d:Int) (ks:List af):OH ⟨a,t,sc,d,ks⟩=((!decide (a=4)||decide (1≤ks.length))&&nN ks):=by simp only[OH]
theorem OI (x:af):OH x=((!decide (x.ak=4)||decide (1≤x.aj.length))&&nN x.aj):=by cases x;simp only[OH]
theorem nO (a b:List af):nN (a++b)=(nN a&&nN b):=by
 induction a with
 |nil=>simp[nN]
 |cons x a ih=>simp only[List.cons_append,nN,ih,Bool.and_assoc]
theorem LH {l:List af} (h:nN l=true): ∀x∈l,OH x=true:=by
 intro x hx
 induction l with
 |nil=>cases hx
 |cons y l ihl=>
  simp only[nN,Bool.and_eq_true]at h;rcases List.mem_cons.1 hx with rfl|hx
  ·exact h.1
  ·exact ihl h.2 hx
theorem VI (ks:List af) (e:af) (hk:nN ks=true) (he:OH e=true):OH (d_ ks e)=true:=by
 have he2:=he;rw[OI,Bool.and_eq_true]at he2;unfold d_
 split
 ·exact he
 ·rename_i h;have h1:1≤ks.length:=by omega
  split
  ·rw[AO,nO,hk,he2.2];simp;omega
  ·rw[AO,nO,hk];simp[nN,he]
theorem VJ: ∀(m:Nat) (n:Int),0≤n→n≤(m:Int)→n≤1000000000→aH (fun k=>yV.f k n) (fun t=>(t.size:Int)≤n+1):=by
 intro m
 induction m with
 |zero=>
  intro n h0 h1 h2;refine aH.shift ?_;simp (disch:=omega) only[yV.f,if_pos];refine aH.now ?_;have hs: ∀x:Int,((strOf [x]).size:Int)=1:=fun x=>rfl
  rw[hs];omega
 |succ m ih=>
  intro n h0 h1 h2;refine aH.shift ?_
  by_cases h:n<10
  ·simp only[yV.f,if_pos h];refine aH.now ?_;have hs: ∀x:Int,((strOf [x]).size:Int)=1:=fun x=>rfl
   rw[hs];omega
  ·have e:n.tdiv 10=n/10:=by rw[Int.tdiv_eq_ediv_of_nonneg h0]
   simp only[yV.f,if_neg h,yV.d3b,e];rw[eu (by omega) (by omega)]
   refine aH.bind (ih (n/10) (by omega) (by omega) (by omega)) fun t ht=> ?_
   have hs: ∀x:Int,(strOf [x]).size=1:=fun x=>rfl
   have hc: ∀x:Int,t.size+(strOf [x]).size≤9223372036854775807:=fun x=>by rw[hs];omega
   simp only[if_pos (hc _)];refine aH.now ?_;show((t++strOf [_]).size:Int)≤n+1;rw[ByteArray.size_append,hs];omega
theorem rH (ks:List af) (e:af) (hk:(ks.length:Int)≤1000000000) (he:wid e≤1000000000):Ev (fun k=>qp.f k ks e) (d_ ks e):=by
 have hp:=aW e;have c1:([]:List af).length+ks.length≤1759218604441:=by simp;omega
 have c2:([]++ks:List af).length+e.aj.length≤1759218604441:=by simp;omega
 have c3:([]++ks:List af).length+ [e].length≤1759218604441:=by simp;omega
 simp only[qp.f,d_,ay]
 by_cases h:ks.length=0
 ·have h':(ks.length:Int)=0:=by omega
  simp only[if_pos h,if_pos h'];exact Ev.now _
 ·have h': ¬(ks.length:Int)=0:=by omega
  simp only[if_neg h,if_neg h',qp.d6,qp.d7,if_pos c1,if_pos c2,aJ,if_pos c3]
  by_cases h3:e.ak=3
  ·simp only[if_pos h3,if_pos (Or.inl h3:e.ak=3∨e.ak=4),List.nil_append];exact Ev.now _
  ·by_cases h4:e.ak=4
   ·simp only[if_neg h3,if_pos h4,if_pos (Or.inr h4:e.ak=3∨e.ak=4),List.nil_append];exact Ev.now _
   ·have n: ¬(e.ak=3∨e.ak=4):=by omega
    simp only[if_neg h3,if_neg h4,if_neg n,List.nil_append];exact Ev.now _
theorem XE (ks:List af) (e:af):lk (d_ ks e)≤50+4*(jA ks+lk e):=by
 have he:=tJ e;have h5:=(iY e).2;have h0:0≤jA ks:=by
  induction ks with
  |nil=>simp[jA]
  |cons y l ih=>have:=(iY y).2;simp only[jA];omega
 unfold d_
 split
 ·omega
 ·split
  ·rw[lH,kF];simp only[List.length_nil,show ByteArray.empty.size=0 from rfl];omega
  ·rw[lH,kF];simp only[jA,List.length_nil,show ByteArray.empty.size=0 from rfl];omega
theorem Su (ks:List af) (e:af) (h:0<ks.length):(d_ ks e).aj≠ []:=by
 have h0: ¬ks.length=0:=by omega
 have h1:ks≠ []:=fun e=>h0 (by rw[e];rfl)
 unfold d_;rw[if_neg h0]
 split<;>simp[h1]
def EF:Nat→Int
 |0=>2
 |d+1=>3*(EF d+1)+6
def ET:Nat→Int
 |0=>1
 |d+1=>3*ET d+2
def IM:Nat→Int
 |0=>160
 |d+1=>12*(IM d+53)+700
theorem acJ (d:Nat):2≤EF d∧1≤ET d∧160≤IM d:=by
 induction d with
 |zero=>decide
 |succ d ih=>simp only[EF,ET,IM];omega
def VK (b:List Int) (p c:Int) (d:Nat) (r:af×List Int×Int×List Int):Prop:=
 r.2.1=b∧p≤r.2.2.1∧r.2.2.1≤p+EF d∧(∃c',r.2.2.2= [c']∧c≤c'∧c'≤c+ET d)∧lk r.1≤IM d∧OH r.1=true∧(r.1.aj= []→lk r.1≤160)
theorem Eh {b:List Int} (hb:yY b) (x1 p c:Int) (h0:0≤p) (hp:p≤1000000000) (c0:0≤c) (hc:c≤90):aH (fun k=>ql.j3 k x1 true b p [c]) (fun r=>r.2.1=b∧r.2.2.1=p+1∧r.2.2.2= [c]∧lk r.1≤160∧OH r.1=true):=by
 simp only[ql.j3,ql.BK,if_true];refine aH.bind (bT 8 hb h0 (by omega)) fun r ⟨g1,g2,g3,_⟩=> ?_
 rw[g1];refine aH.ite (fun _=>aH.now ⟨rfl,rfl,rfl,by rw[lH];decide,by simp[AO,nN]⟩) fun _=> ?_
 refine aH.ite (fun _=>aH.now ⟨rfl,rfl,rfl,by rw[lH];decide,by simp[AO,nN]⟩) fun _=> ?_
 refine aH.ite (fun _=>aH.now ⟨rfl,rfl,rfl,by rw[lH];decide,by simp[AO,nN]⟩) fun _=> ?_
 have l1:(0:Int)<([c].length:Int):=by simp
 simp only[if_pos l1];refine aH.bind (VJ c.toNat c c0 (by omega) (by omega)) fun t ht=> ?_
 have ht:(t.size:Int)≤c+1:=ht;have hs:(ByteArray.mk #[112]).size=1:=rfl;have hcap:(ByteArray.mk #[112]).size+t.size≤9223372036854775807:=by rw[hs];omega
 simp only[if_pos hcap];refine aH.now ⟨rfl,rfl,rfl,?_,by simp[AO,nN]⟩
 rw[lH,ByteArray.size_append,hs];simp[jA];omega
theorem vg (l:List af):bG l≤jA l∧0≤jA l:=by
 induction l with
 |nil=>simp[bG,jA]
 |cons y l ihl=>
  have h1:=iY y;simp only[bG,jA];omega
theorem Zu {b:List Int} (hb:yY b): ∀(d:Nat),d≤3→ ∀(p c:Int),0≤p→p+EF d≤100000000→0≤c→c+ET d≤90→aH (fun k=>ql.f k (d:Int) b p [c]) (VK b p c d):=by
 intro d
 induction d with
 |zero=>
  intro _ p c h0 hp c0 hc;simp only[ET,EF]at hc hp;refine aH.shift ?_;have l1:(0:Int)<([c].length:Int):=by simp
  have l2:((0:Nat):Int)≤0:=by omega
  have w1:IntKind.i64.wrap (c+1)=c+1:=eu (by omega) (by omega)
  simp only[ql.f,if_pos l1,if_pos l2,List.getD_cons_zero,List.set_cons_zero,w1];refine(Eh hb ((0:Nat):Int) p (c+1) h0 (by omega) (by omega) (by omega)).mono ?_
  rintro r ⟨r1,r2,r3,r4,r8⟩;exact⟨r1,by omega,by rw[r2];simp only[EF];omega,⟨c+1,r3,by omega,by simp only[ET];omega⟩,by simp only[IM];omega,r8,fun _=>r4⟩
 |succ d ih=>
  intro hd3 p c h0 hp c0 hc;have ih:=ih (by omega)
  have hge:=acJ d;have hb1:EF d≤1000∧IM d≤1000000:=by
   have:d=0∨d=1∨d=2:=by omega
   rcases this with h|h|h<;>subst h<;>decide
  simp only[ET,EF]at hc hp;refine aH.shift ?_;have l1:(0:Int)<([c].length:Int):=by simp
  have l2: ¬((d+1:Nat):Int)≤0:=by omega
  have w1:IntKind.i64.wrap (c+1)=c+1:=eu (by omega) (by omega)
  have e1:((d+1:Nat):Int)=(d:Int)+1:=by omega
  have w2:IntKind.i64.wrap ((d:Int)+1-1)=(d:Int):=by rw[eu (by omega) (by omega)];omega
  simp only[ql.f,if_pos l1,if_neg l2,List.getD_cons_zero,List.set_cons_zero,w1];refine aH.bind (bT 3 hb h0 (by omega)) fun r ⟨g1,g2,g3,_⟩=> ?_
  rw[g1]
  by_cases hz:r.1=0
  ·rw[decide_eq_true hz];refine(Eh hb ((d+1:Nat):Int) (p+1) (c+1) (by omega) (by omega) (by omega) (by omega)).mono ?_
   rintro r ⟨r1,r2,r3,r4,r8⟩;exact⟨r1,by omega,by rw[r2];simp only[EF];omega,⟨c+1,r3,by omega,by simp only[ET];omega⟩,by simp only[IM];omega,r8,fun _=>r4⟩
  rw[decide_eq_false hz];simp only[ql.BK,Bool.false_eq_true,if_false];refine aH.bind (bT 5 hb (by omega) (by omega)) fun s ⟨g4,g5,g6,_⟩=> ?_
  rw[g4];simp only;have key: ∀i:Int,0≤i→i≤3→ ∀(q c':Int) (a:List af),p+2≤q→q≤p+2+i*(EF d+1)→c+1≤c'→c'≤c+1+i*ET d→jA a≤i*(IM d+53)→(a.length:Int)≤2*i→nN a=true→aH (fun k=>ql.iO k ((d+1:Nat):Int) s.1 i b q [c'] 3 ByteArray.empty [] 0 a) (VK b p c (d+1)):=by
   intro i;refine goUp (P:=fun i=>0≤i→i≤3→ ∀(q c':Int) (a:List af),p+2≤q→q≤p+2+i*(EF d+1)→c+1≤c'→c'≤c+1+i*ET d→jA a≤i*(IM d+53)→(a.length:Int)≤2*i→nN a=true→aH (fun k=>ql.iO k ((d+1:Nat):Int) s.1 i b q [c'] 3 ByteArray.empty [] 0 a) (VK b p c (d+1))) 3 ?_ ?_ i
   ·intro i hi _ hi3 q c' a h1 h2 h3 h4 h5 h6 h7;obtain rfl:i=3:=by omega
    have n3: ¬(3:Int)<3:=by omega
    have hw:=vg a;refine aH.shift ?_;simp only[ql.iO,if_neg n3];refine aH.bind (bT 5 hb (by omega) (by omega)) fun t ⟨g7,_,_,_⟩=> ?_
    rw[g7];simp only;have plain:aH (fun _:Nat=>some ((⟨3,ByteArray.empty,[],0,a⟩:af),b,q+1,[c'])) (VK b p c (d+1)):=by
     refine aH.now ⟨rfl,by show p≤q+1;omega,by show q+1≤_;simp only[EF];omega,⟨c',rfl,by omega,by simp only[ET];omega⟩,?_,by show OH ⟨3,ByteArray.empty,[],0,a⟩=true;rw[AO,h7];rfl,fun h=>by
      have h:a= []:=h;show lk ⟨3,ByteArray.empty,[],0,a⟩≤160;rw[lH,h];simp only[jA,List.length_nil,show ByteArray.empty.size=0 from rfl];omega⟩
     show lk ⟨3,ByteArray.empty,[],0,a⟩≤_;rw[lH];simp only[IM,List.length_nil,show ByteArray.empty.size=0 from rfl];omega
    by_cases ht:t.1=0
    ·by_cases ha:(0:Int)<(a.length:Int)
     ·simp only[if_pos ht,if_pos ha,ql.zC,ay];have hz0:=(show aH (fun k=>ql.f k ((0:Nat):Int) b (q+1) [c']) (VK b (q+1) c' 0) from by
       have l1':(0:Int)<([c'].length:Int):=by simp
       have l2':((0:Nat):Int)≤0:=by omega
       have w1':IntKind.i64.wrap (c'+1)=c'+1:=eu (by omega) (by omega)
       refine aH.shift ?_;simp only[ql.f,if_pos l1',if_pos l2',List.getD_cons_zero,List.set_cons_zero,w1'];refine(Eh hb ((0:Nat):Int) (q+1) (c'+1) (by omega) (by omega) (by omega) (by omega)).mono ?_
       rintro r ⟨r1,r2,r3,r4,r8⟩;exact⟨r1,by omega,by rw[r2];simp only[EF];omega,⟨c'+1,r3,by omega,by simp only[ET];omega⟩,by simp only[IM];omega,r8,fun _=>r4⟩)
      refine aH.bind hz0 ?_;rintro⟨y,b',q',cs⟩ ⟨r1,r2,r3,⟨c2,r4,r5,r6⟩,r7,r8,_⟩;simp only at r1 r2 r3 r4 r5 r6 r7 r8;subst r1 r4;simp only[EF,ET,IM]at r3 r6 r7;have hwy:=(iY y).1;refine aH.bind (aH.of (rH a y (by omega) (by omega)) (P:=fun z=>z=d_ a y) rfl) fun z hz=> ?_
      subst hz;have hj:=XE a y;exact aH.now ⟨rfl,by show p≤q';omega,by show q'≤_;simp only[EF];omega,⟨c2,rfl,by omega,by simp only[ET];omega⟩,by show lk (d_ a y)≤_;simp only[IM];omega,VI a y h7 r8,fun h=>absurd h (Su a y (by omega))⟩
     ·simp only[if_pos ht,if_neg ha];exact plain
    ·simp only[if_neg ht];exact plain
   ·intro i hi ihi i0 i3 q c' a h1 h2 h3 h4 h5 h6 h7;have m1:(i+1)*(EF d+1)=i*(EF d+1)+(EF d+1):=by rw[Int.add_mul,Int.one_mul]
    have m2:(i+1)*ET d=i*ET d+ET d:=by rw[Int.add_mul,Int.one_mul]
    have m3:(i+1)*(IM d+53)=i*(IM d+53)+(IM d+53):=by rw[Int.add_mul,Int.one_mul]
    have u1:i*(EF d+1)≤2*(EF d+1):=Int.mul_le_mul_of_nonneg_right (by omega) (by omega)
    have u2:i*ET d≤2*ET d:=Int.mul_le_mul_of_nonneg_right (by omega) (by omega)
    have w3:IntKind.i64.wrap (i+1)=i+1:=eu (by omega) (by omega)
    refine aH.shift ?_;simp only[ql.iO,if_pos hi];refine aH.bind (bT 4 hb (by omega) (by omega)) fun t ⟨g7,_,_,_⟩=> ?_
    rw[g7];simp only[w3]
    by_cases ht:t.1=0
    ·simp only[if_pos ht];exact ihi (by omega) (by omega) (q+1) c' a (by omega) (by omega) (by omega) (by omega) (by omega) (by omega) h7
    ·simp only[if_neg ht,ql.Zb,e1,w2,w3,ay];refine aH.bind (ih (q+1) c' (by omega) (by omega) (by omega) (by omega)) ?_
     rintro⟨y,b',q',cs⟩ ⟨r1,r2,r3,⟨c2,r4,r5,r6⟩,r7,r8,_⟩;simp only at r1 r2 r3 r4 r5 r6 r7 r8;subst r1 r4;have g8:a.length+ [y].length≤1759218604441:=by simp only[List.length_singleton];omega
     have g9: ∀z:af,(a++ [y]).length+ [z].length≤1759218604441:=fun z=>by simp only[List.length_append,List.length_singleton];omega
     have g10:lk ⟨1,ByteArray.mk #[46,46,46],[],0,[]⟩=53:=by rw[lH];rfl
     simp only[if_pos g8];have hnext:=fun(a':List af) (x1:jA a'≤i*(IM d+53)+(IM d+53)) (x2:(a'.length:Int)≤2*(i+1)) (x3:nN a'=true)=>ihi (by omega) (by omega) q' c2 a' (by omega) (by omega) (by omega) (by omega) (by omega) x2 x3
     rw[e1]at hnext
     by_cases hs:i=s.1
     ·simp only[if_pos hs,if_pos (g9 _)];have:=hnext ((a++ [y])++ [⟨1,ByteArray.mk #[46,46,46],[],0,[]⟩]) (by rw[kF,kF];simp only[jA,g10];omega) (by simp only[List.length_append,List.length_singleton];omega) (by rw[nO,nO,h7];simp[nN,r8,AO])
      exact this
     ·simp only[if_neg hs];exact hnext (a++ [y]) (by rw[kF];simp only[jA];omega) (by simp only[List.length_append,List.length_singleton];omega) (by rw[nO,h7];simp[nN,r8])
  exact key 0 (by omega) (by omega) (p+1+1) (c+1) [] (by omega) (by omega) (by omega) (by omega) (by simp[jA]) (by simp) rfl
theorem iW.nm {G:GL} (h:iW G): ∀g∈G,g.aZ.ak=1∧wid g.aZ≤1000000000:=fun g hg=>⟨(pK (h.got g hg)).1,by have:=((mg g).1 (h.wd g hg)).1;omega⟩
theorem Ei {G:GL} (hG:iW G) (x:af) (hx:x.ak=1):Ev (fun k=>BM.f k G x) (dM 0 G x):=by
 have hl:=hG.len;simp only[BM.f];refine dG G (P:=fun i suf=>Ev (fun k=>BM.l2 k G i x.ak x.aG x.aB x.aI x.aj) (dM i suf x)) ?_ ?_
 ·refine Ev.shift ?_;simp (disch:=omega) only[BM.l2,if_neg];exact Ev.now _
 ·intro i y r i0 i1 hy hm _ _ _ ih;obtain⟨n1,n2⟩:=hG.nm y hm;refine Ev.shift ?_;simp (disch:=omega) only[BM.l2,if_pos,eu,hy,ay,aJ,dM];refine Ev.bind (Gf y.aZ x n2 n1 hx) ?_;cases iV y.aZ x with
  |true=>simp only[if_true];exact Ev.now _
  |false=>simp only[Bool.false_eq_true,if_false];exact ih
def TA (M:Option af) (r:af×Bool):Prop:=(r.2=true∧M=some r.1)∨(r.2=false∧ ∀x,M=some x→1500<cnt x)
def ZV (M:Option Jq) (r:Bool×List af):Prop:=(r.1=true∧M=some r.2)∨(r.1=false∧ ∀x,M=some x→1500<cnts x)
theorem LJ {G:GL} (hG:iW G) (x:af) (hx:x.ak=1) (hw:wid x≤2000000):aH (fun k=>I8.f k x G) (fun r=>wid r.1≤2000000∧((r.2=true∧xu G x=some r.1)∨(r.2=false∧xu G x=none))):=by
 simp only[I8.f,ay,xu];refine aH.bind (aH.of (Ei hG x hx) (P:=fun r=>r=dM 0 G x) rfl) fun i hi=> ?_
 subst hi
 by_cases h:dM 0 G x<0
 ·simp only[if_pos h];refine aH.bind (aH.of (je x (by omega)) (P:=fun r=>r=(x.ak,x.aG,x.aI,x.aB,x.aj)) rfl) fun r hr=> ?_
  subst hr;exact aH.now ⟨by show wid ⟨x.ak,x.aG,x.aB,x.aI,x.aj⟩≤_;rw[aJ];exact hw,.inl ⟨rfl,by rw[aJ]⟩⟩
 ·obtain⟨i0,i1⟩:=qI h;have hm:aF az G (dM 0 G x)∈G:=dF _ _ _ i0 i1;have hf:=((mg _).1 (hG.wd _ hm)).2.1;simp only[if_neg h,I8.d4,if_pos i0,if_pos i1,ay];refine aH.bind (aH.of (je _ (by omega)) (P:=fun r=>r=((aF az G (dM 0 G x)).bY.ak,(aF az G (dM 0 G x)).bY.aG,(aF az G (dM 0 G x)).bY.aI,(aF az G (dM 0 G x)).bY.aB,(aF az G (dM 0 G x)).bY.aj)) rfl) fun r hr=> ?_
  subst hr;simp only[aJ]
  by_cases hd:(aF az G (dM 0 G x)).bu=0
  ·exact aH.now ⟨hf,.inl ⟨by simp[hd],by rw[if_pos hd]⟩⟩
  ·exact aH.now ⟨hf,.inr ⟨by simp[hd],by rw[if_neg hd]⟩⟩
theorem yK (l:List af) (hw:bG l≤1000000000000000000):Ev (fun k=>zF.f k l) (cnts l):=by
 have hl:=dO l;simp only[zF.f];refine(dG l (P:=fun i suf=> ∀c:Int,0≤c→c+cnts suf≤1000000000000000000→Ev (fun k=>zF.l3 k l c i) (c+cnts suf)) ?_ ?_ 0 (by omega) (by have:=dQ l;omega)).eq (by omega)
 ·intro c _ _;refine Ev.shift ?_;simp (disch:=omega) only[zF.l3,if_neg,cnts,Int.add_zero];exact Ev.now _
 ·intro i x r i0 i1 hx hm _ _ _ ih c c0 hc;have hwx:=bZ hm;have h1:=dm x;have h2:=(dQ r).1;simp only[cnts]at hc;refine Ev.shift ?_;simp (disch:=omega) only[zF.l3,if_pos,hx,ay,eu];refine Ev.bind (F9 x (by omega)) ?_
  rw[eu (by omega) (by omega)]
  refine(ih (c+cnt x) (by omega) (by omega)).eq ?_
  simp only[cnts];omega
theorem OJ {G:GL} (hG:iW G): ∀(t:af) (e:Int),jl t e=true→wid t≤2000000→aH (fun k=>BN.f k t G) (fun r=>(r.2=true∧iJ G t=some r.1)∨(r.2=false∧iJ G t=none)):=by
 refine dX fun t ih e hok hw=> ?_
 have hp:=aW t;refine aH.shift ?_;rw[oQ]
 by_cases h1:t.ak=1
 ·simp only[BN.f,if_pos h1,ay];refine aH.bind (LJ hG t h1 hw) fun r hr=> ?_
  exact aH.now hr.2
 ·simp only[BN.f,if_neg h1,ay];refine aH.bind (aH.of (je t (by omega)) (P:=fun r=>r=(t.ak,t.aG,t.aI,t.aB,t.aj)) rfl) fun r hr=> ?_
  subst hr;have hk: ∀y∈t.aj,jl y (e+1)=true:=by
   rcases bU hok with⟨h,_⟩|⟨_,h⟩|⟨_,h⟩
   ·exact absurd h h1
   ·rw[h];intro y hy;cases hy
   ·exact gI h
  have key:=dG t.aj (P:=fun i suf=> ∀done:List af,(done.length:Int)=i→(∀ks,dN G suf=some ks→dN G t.aj=some (done++ks))→(dN G suf=none→dN G t.aj=none)→aH (fun k=>BN.l5 k G i t.aj t.ak t.aG t.aI t.aB (done++suf)) (fun r=>(r.2=true∧(dN G t.aj).map (mD t)=some r.1)∨(r.2=false∧(dN G t.aj).map (mD t)=none))) ?_ ?_ [] rfl (fun ks h=>by simpa using h) (fun h=>h)
  ·simpa using key
  ·intro done hd h2 _;have hks:=h2 [] (by simp only[dN])
   rw[List.append_nil]at hks;refine aH.shift ?_;simp (disch:=omega) only[BN.l5,if_neg,List.append_nil,hd,ay];have fin:Ev (fun k=>Vd.f k ⟨t.ak,t.aG,t.aB,t.aI,done⟩) (mD t done):=by
    simp only[Vd.f,mD]
    by_cases h4:t.ak=4
    ·have h5:2≤(t.aj.length:Int):=by
      rcases bU hok with⟨h,_⟩|⟨h,_⟩|⟨h,_⟩<;>omega
     have hn:IntKind.i64.wrap ((done.length:Int)-1)=(done.length:Int)-1:=eu (by omega) (by omega)
     have c1:(0:Int)≤(done.length:Int)-1:=by omega
     have c2:(done.length:Int)-1≤(done.length:Int):=by omega
     have c3:(done.length:Int)-1<(done.length:Int):=by omega
     have hlast:wid (aF ah done ((done.length:Int)-1))≤2000000:=by
      obtain⟨l6,s6⟩:lastOf t∈t.aj∧((lastOf t).ak=1∨(lastOf t).ak=2):=⟨dF _ _ _ (by omega) (by omega),lK hok h4⟩
      have hl:=ng h5 h4;have key: ∀(l:List af) (y:af) (ks:List af),dN G (l++ [y])=some ks→ ∃z,iJ G y=some z∧aF ah ks ((ks.length:Int)-1)=z:=by
       intro l
       induction l with
       |nil=>
        intro y ks h;simp only[List.nil_append,dN,Option.bind_eq_some_iff,Option.map_eq_some_iff]at h;obtain⟨z,e1,_,e2,e3⟩:=h;injection e2 with e2
        subst e2;refine⟨z,e1,?_⟩;rw[←e3];rfl
       |cons x l ihl=>
        intro y ks h;simp only[List.cons_append,dN,Option.bind_eq_some_iff,Option.map_eq_some_iff]at h;obtain⟨z,e1,ks',e2,e3⟩:=h;obtain⟨w,f1,f2⟩:=ihl y ks' e2;have hne:ks'.length=l.length+1:=by rw[zV _ _ e2];simp
        refine⟨w,f1,?_⟩;rw[←e3,←f2];unfold aF;rw[show(((z::ks').length:Int)-1).toNat=(((ks'.length:Int)-1).toNat)+1 by simp only[List.length_cons];omega]
        rfl
      rw[←hl]at hks;obtain⟨z,e1,e2⟩:=key _ _ _ hks;rw[e2];have hwl:=bZ l6;rcases s6 with s6|s6
      ·rw[oQ,if_pos s6]at e1;exact OD hG (by omega) e1
      ·have hk2:(lastOf t).aj= []:=by
        rcases bU (hk _ l6) with⟨_,h⟩|⟨_,h⟩|⟨h,_⟩
        ·exact h
        ·exact h
        ·omega
       rw[oQ,if_neg (by omega),hk2]at e1
       simp only[dN,Option.map_some,Option.some.injEq,mD,if_neg (show¬(lastOf t).ak=4 by omega)]at e1
       rw[←e1,gU];have:=nX (lastOf t);rw[hk2]at this;simp only[bG]at this⊢;omega
     simp only[h4,not_true,if_false,hn,if_pos c1,if_pos c2,if_pos c3,if_true,List.drop_zero,ay];have:=rH (done.take (done.length-1)) (aF ah done ((done.length:Int)-1)) (by rw[List.length_take];omega) (by omega)
     rw[show((done.length:Int)-1).toNat=done.length-1 by omega]
     exact Ev.bind this (Ev.now _)
    ·simp only[h4,not_false_eq_true,if_true,if_false,ay];exact Ev.now _
   refine aH.bind (aH.of fin (P:=fun r=>r=mD t done) rfl) fun r hr=> ?_
   subst hr;exact aH.now (.inl ⟨rfl,by rw[hks];rfl⟩)
  ·intro i x r i0 i1 hx hm _ _ _ ihr done hd h2 h3;have hwx:=bZ hm;refine aH.shift ?_;have hlen:((done++x::r).length:Int)=(t.aj.length:Int):=by rw[List.length_append,List.length_cons];omega
   simp (disch:=first|omega|(rw[hlen];omega)) only[BN.l5,if_pos,hx,ay,eu]
   refine aH.bind (ih x hm (e+1) (hk x hm) (by omega)) fun q hq=> ?_
   rcases hq with⟨q1,q2⟩|⟨q1,q2⟩
   ·simp only[q1,not_true,if_false];simp (disch:=first|omega|(rw[hlen];omega)) only[if_pos,Ia hd]
    have:=ihr (done++ [q.1]) (by rw[List.length_append,List.length_singleton];omega) (fun ks hks=>by
     have:=h2 (q.1::ks) (by simp only[dN,q2,Option.bind_some,hks,Option.map_some])
     simpa using this) (fun hn=>h3 (by simp only[dN,q2,Option.bind_some,hn,Option.map_none]))
    exact this
   ·simp only[q1,Bool.false_eq_true,not_false_eq_true,if_true];refine aH.now (.inr ⟨rfl,?_⟩);rw[h3 (by simp only[dN,q2,Option.bind_none])];rfl
theorem oN: ∀p:af,((dV [] p).length:Int)≤cnt p:=by
 refine dX fun p ih=> ?_
 rw[iQ,jh];have key: ∀l:List af,(∀y∈l,y∈p.aj)→((dY [] l).length:Int)≤cnts l:=by
  intro l
  induction l with
  |nil=>intro _;simp[dY,cnts]
  |cons y l ihl=>
   intro hs;have:=ih y (hs y (by simp))
   have:=ihl fun z hz=>hs z (List.mem_cons_of_mem _ hz)
   simp only[dY,cnts,List.length_append,Int.natCast_add];omega
 have h0:=(dQ p.aj).1
 split
 ·split
  ·simp;omega
  ·simp;omega
 ·have:=key p.aj fun _ h=>h
  omega
theorem rJ: ∀l:List af,(l.length:Int)≤cnts l
 | []=>by simp[cnts]
 |x::l=>by
  have:=rJ l;have:=(dm x).1;simp only[cnts,List.length_cons];omega
theorem Ej {c v:Int} (hc:1≤c) (hc2:c≤1500) (hv:1≤v) (hv2:v≤2250001):0≤(2000000*c)*v∧(2000000*c)*v≤6750003000000000:=by
 have h1:(2000000*c)*v≤(2000000*1500)*v:=Int.mul_le_mul_of_nonneg_right (by omega) (by omega)
 have h2:(2000000*1500)*v≤(2000000*1500)*2250001:=Int.mul_le_mul_of_nonneg_left hv2 (by omega)
 have h3:0≤(2000000*c)*v:=Int.mul_nonneg (by omega) (by omega)
 omega
theorem zW {α:Type} {f:Nat→Option (List α)}: ∀(n:Nat) (x:List α),sQ f n=some x→ ∀K,K<n→ ∃a b r,sQ f K=some a∧f K=some b∧x=a++(b++r)
 |0,_,_,K,h=>absurd h (by omega)
 |n+1,x,e,K,h=>by
  simp only[sQ,Option.bind_eq_some_iff,Option.map_eq_some_iff]at e;obtain⟨a0,e1,b0,e2,e3⟩:=e
  by_cases hk:K=n
  ·subst hk;exact⟨a0,b0,[],e1,e2,by rw[←e3];simp⟩
  ·obtain⟨a,b,r,h1,h2,h3⟩:=zW n a0 e1 K (by omega)
   exact⟨a,b,r++b0,h1,h2,by rw[←e3,h3];simp⟩
theorem VL {G:GL} (hG:iW G) {l:List af} (hl:ug l) (h1: ∀x∈l,x.ak=1) {R K:Int} (ht:iR G l (-1)=some R) (k0:0≤K) (k1:K<R):Ev (fun k=>q10.f k G l K) (dZ (mF G l) K G):=by
 have hlen:=hG.len;obtain⟨_,_,t3,_⟩:=lM G l _ _ ht;simp only[q10.f];have hU:=u_ (mF G l) K G;refine dG G (P:=fun i _=> ∀a0:GL,a0=(dZ (mF G l) K G).take i.toNat→Ev (fun k=>q10.l3 k G l K i a0) (dZ (mF G l) K G)) ?_ ?_ [] (by simp)
 ·intro a0 ha;refine Ev.shift ?_;simp (disch:=omega) only[q10.l3,if_neg];rw[ha,List.take_of_length_le (by rw[hU];omega)];exact Ev.now _
 ·intro i x r i0 i1 hx hm _ _ _ ih a0 ha;have hi:i.toNat<G.length:=by omega
  have hi':i.toNat<(dZ (mF G l) K G).length:=by rw[hU];exact hi
  have hal:(a0.length:Int)=i:=by rw[ha,List.length_take,hU];omega
  have hxe:G[i.toNat]=x:=by
   have:=hx az
   rwa [show i=((i.toNat:Nat):Int) by omega,g_ _ _ _ hi]at this
  have hy:(dZ (mF G l) K G)[i.toNat]=if i∈mF G l then zQ K x else x:=by
   simp only[dZ,List.getElem_mapIdx];rw[hxe,show((i.toNat:Nat):Int)=i by omega]
  obtain⟨n1,n2⟩:=hG.nm x hm;obtain⟨_,_,d0,_,_,_⟩:=pK (hG.got x hm);have next: ∀y:aV,y=(if i∈mF G l then zQ K x else x)→Ev (fun k=>q10.l3 k G l K (i+1) (a0++ [y])) (dZ (mF G l) K G):=by
   intro y e;refine ih _ ?_;rw[show(i+1).toNat=i.toNat+1 by omega,List.take_succ_eq_append_getElem hi',hy,←ha,←e]
  have step: ∀b:Bool,(b=true↔i∈mF G l)→Ev (fun k=>q10.uP k (q10.l3 k) G l K i b a0 x.aZ.ak x.aZ.aG x.aZ.aB x.aZ.aI x.aZ.aj x.bu x.bY.ak x.bY.aG x.bY.aB x.bY.aI x.bY.aj x.aP) (dZ (mF G l) K G):=by
   intro b hb;have c1: ∀y:aV,a0.length+ [y].length≤733007751850:=fun y=>by simp;omega
   have w1:IntKind.i64.wrap (i+1)=i+1:=eu (by omega) (by omega)
   cases b with
   |true=>
    have hin:=hb.1 rfl;obtain⟨z,hz,haz,hgz⟩:=qJ hin;have hml:=t3 z hz haz;unfold oM at hml;rw[hgz,hx]at hml;have c2:K<(x.aP.length:Int):=by omega
    simp only[q10.uP,if_true,if_pos k0,if_pos c2,if_pos i0,if_pos i1,hx,ay,if_pos (c1 _),w1];exact next _ (by rw[if_pos hin];rfl)
   |false=>
    have hin:i∉mF G l:=fun h=>by have:=hb.2 h;cases this
    simp only[q10.uP,Bool.false_eq_true,if_false,aJ,uO,if_pos (c1 _),w1];exact next _ (by rw[if_neg hin])
  refine Ev.shift ?_;simp only[q10.l3,if_pos i1,if_pos i0,hx,ay]
  by_cases hd:0<x.bu
  ·simp only[if_pos hd];refine Ev.bind (pq l x.aZ hl h1 n1) ?_;cases hb:inB l x.aZ with
   |false=>
    simp only[Bool.false_eq_true,if_false];refine step false ⟨fun h=>(by cases h),fun h=> ?_⟩
    obtain⟨z,hz,haz,hgz⟩:=qJ h;have hs:=zS G 0 z (Int.le_refl _) (jP.1 haz).1.1;rw[hgz,show i-0=i by omega,hx]at hs
    rw[oL.2 ⟨z,hz,Eb hs⟩]at hb;cases hb
   |true=>
    simp only[if_true];refine Ev.bind (Ei hG x.aZ n1) ?_;refine step _ ⟨fun h=> ?_,fun h=> ?_⟩
    ·have h:=of_decide_eq_true h;obtain⟨z,hz,hs⟩:=oL.1 hb;have e:dM 0 G z=i:=by rw[xw G 0 z x.aZ hs];exact h
     have:nK G z=true:=jP.2 ⟨by rw[e];exact⟨i0,i1⟩,by rw[e,hx];omega⟩
     rw[←e];exact OB hz this
    ·obtain⟨z,hz,haz,hgz⟩:=qJ h;have hs:=zS G 0 z (Int.le_refl _) (jP.1 haz).1.1;rw[hgz,show i-0=i by omega,hx]at hs
     exact decide_eq_true (by rw[xw G 0 _ _ hs];exact hgz)
  ·simp only[if_neg hd];refine step false ⟨fun h=>(by cases h),fun h=> ?_⟩
   obtain⟨z,hz,haz,hgz⟩:=qJ h;have:=(jP.1 haz).2;rw[hgz,hx]at this;omega
theorem OL (p:af) (e:Int) (hok:jl p e=true) (hw:wid p≤2000000) (hc:cnt p≤1500) (m:GL→Option af) (hm: ∀G,iW G→aH (fun k=>qc.f k p G) (TA (m G)))
  (hb: ∀G,iW G→ ∀x,m G=some x→wid x≤(2000000*cnt p)*vb G (dV [] p)): ∀(d:Nat),d≤1500→ ∀G,iW G→aH (fun k=>qf.f k p G (d:Int)) (ZV (gp m (dV [] p) d G)):=by
 have hcp:=(dm p).1;obtain⟨f1,f2⟩:=fF [] p;have hln:=oN p;have acK:ug (dV [] p):=⟨by omega,fun x hx=>by have:=(f2 x hx).2;omega⟩
 have hs1: ∀x∈dV [] p,x.ak=1:=fun x hx=>(f2 x hx).1
 generalize hl:dV [] p=l at*;intro d
 induction d with
 |zero=>
  intro _ G hG;refine aH.shift ?_;simp only[qf.f,Int.natCast_zero,if_true,ay,gp];refine aH.bind (hm G hG) fun r hr=> ?_
  refine aH.now ?_;rcases hr with⟨r1,r2⟩|⟨r1,r2⟩
  ·exact .inl ⟨r1,by rw[r2];rfl⟩
  ·refine .inr ⟨r1,fun x hx=> ?_⟩
   simp only[Option.map_eq_some_iff]at hx;obtain⟨y,y1,y2⟩:=hx;rw[←y2];simp only[cnts];have:=r2 y y1;omega
 |succ d ih=>
  intro hd G hG;refine aH.shift ?_;have nz: ¬((d+1:Nat):Int)=0:=by omega
  have hvb:=jK hG l;have hnum:=Ej hcp hc hvb.1 (by omega)
  simp only[qf.f,if_neg nz,ay];refine aH.bind (aH.of (pG [] ⟨by simp,by simp⟩ (by simp) p (by omega)) (P:=fun r=>r=l) hl) fun r hr=> ?_
  subst hr;have rounds: ∀R:Int,iR G r (-1)=some R→0≤R→R≤1500→aH (fun k=>qf.lG k G ((d+1:Nat):Int) r R 0 p.ak p.aG p.aB p.aI p.aj []) (ZV (gp m r (d+1) G)):=by
   intro R hR R0 R1;have e0:gp m r (d+1) G=sQ (fun K=>gp m r d (dZ (mF G r) (K:Int) G)) R.toNat:=by
    simp only[gp,hR,Option.bind_some];rw[if_neg (by omega)]
   rw[e0];have key: ∀(j:Nat) (K:Nat),K+j=R.toNat→ ∀acc:List af,sQ (fun K=>gp m r d (dZ (mF G r) (K:Int) G)) K=some acc→cnts acc≤1500→aH (fun k=>qf.lG k G ((d+1:Nat):Int) r R (K:Int) p.ak p.aG p.aB p.aI p.aj acc) (ZV (sQ (fun K=>gp m r d (dZ (mF G r) (K:Int) G)) R.toNat)):=by
    intro j
    induction j with
    |zero=>
     intro K hK acc ha _;refine aH.shift ?_;simp (disch:=omega) only[qf.lG,if_neg];refine aH.now (.inl ⟨rfl,?_⟩);rw[←ha,←hK];rfl
    |succ j ihj=>
     intro K hK acc ha hca;have Yk:=hG.upd hR (K:=(K:Int)) (by omega) (by omega)
     have hla:=rJ acc;have aeg:bG acc≤6750003000000000:=by
      obtain⟨a1,_⟩:=yI (g:=fun K=>(2000000*cnt p)*vb (dZ (mF G r) (K:Int) G) r) (h:=fun K=>vb (dZ (mF G r) (K:Int) G) r) K acc ha fun K' hK' b hb'=>
       nM (by omega) hb d _ (hG.upd hR (by omega) (by omega)) b hb'
      rw[yG]at a1;have h3:=yH hG hR R0 K (by omega)
      have aa_:vb G r=1+zT G r:=rfl;have h4:(2000000*cnt p)*jy (fun K=>vb (dZ (mF G r) (K:Int) G) r) K≤(2000000*cnt p)*vb G r:=Int.mul_le_mul_of_nonneg_left (by omega) (by omega)
      omega
     refine aH.shift ?_;have c1:(K:Int)<R:=by omega
     have w1:IntKind.i64.wrap (((d+1:Nat):Int)-1)=(d:Int):=by rw[eu (by omega) (by omega)];omega
     simp only[qf.lG,if_pos c1,qf.NK,w1,aJ];refine aH.bind (aH.of (VL hG acK hs1 hR (by omega) c1) (P:=fun q=>q=dZ (mF G r) (K:Int) G) rfl) fun q hq=> ?_
     subst hq;refine aH.bind (ih (by omega) _ Yk) fun q hq=> ?_
     have bad: ∀(g: ∀b,gp m r d (dZ (mF G r) (K:Int) G)=some b→1500<cnts acc+cnts b),aH (fun _:Nat=>some (false,([]:List af))) (ZV (sQ (fun K=>gp m r d (dZ (mF G r) (K:Int) G)) R.toNat)):=by
      intro g;refine aH.now (.inr ⟨rfl,fun x hx=> ?_⟩)
      obtain⟨a,b,s,h1,h2,h3⟩:=zW _ _ hx K (by omega)
      rw[ha]at h1;injection h1 with h1
      subst h1;have:=g b h2;have hs:=(dQ s).1;rw[h3,dw,dw];omega
     rcases hq with⟨q1,q2⟩|⟨q1,q2⟩
     ·obtain⟨p1,p2⟩:=nM (by omega) hb d _ Yk _ q2
      have hnk:=Ej hcp hc (jK Yk r).1 (by have:=(jK Yk r).2;omega)
      have hcq:=dQ q.2;have acM:=dQ acc;simp only[q1,not_true,if_false];refine aH.bind (aH.of (yK acc (by omega)) (P:=fun z=>z=cnts acc) rfl) fun z hz=> ?_
      subst hz;refine aH.bind (aH.of (yK q.2 (by omega)) (P:=fun z=>z=cnts q.2) rfl) fun z hz=> ?_
      subst hz;rw[eu (by omega) (by omega)]
      by_cases hbig:1500<cnts acc+cnts q.2
      ·simp only[if_pos hbig];exact bad fun b hb'=>by rw[q2]at hb';injection hb' with hb';rw[←hb'];exact hbig
      ·have hvk:=(jK Yk r).2;have c2:acc.length+q.2.length≤1759218604441:=by omega
       have w2:IntKind.i64.wrap ((K:Int)+1)=((K+1:Nat):Int):=by rw[eu (by omega) (by omega)];omega
       simp only[if_neg hbig,if_pos c2,w2];refine ihj (K+1) (by omega) (acc++q.2) ?_ (by rw[dw];omega)
       simp only[sQ,ha,q2,Option.bind_some,Option.map_some]
     ·simp only[q1,Bool.false_eq_true,not_false_eq_true,if_true];exact bad fun b hb'=>by
       have:=q2 b hb';have:=(dQ acc).1;omega
   exact key R.toNat 0 (by omega) [] rfl (by simp[cnts])
  refine dG r (P:=fun i suf=> ∀jQ:Int,iR G suf jQ=iR G r (-1)→jQ≤1500→aH (fun k=>qf.l7 k G ((d+1:Nat):Int) jQ i p.ak p.aG p.aB p.aI p.aj r) (ZV (gp m r (d+1) G))) ?_ ?_ (-1) rfl (by omega)
  ·intro jQ vT hm1;simp only[iR]at vT;refine aH.shift ?_;simp (disch:=omega) only[qf.l7,if_neg]
   by_cases h0:jQ<0
   ·simp only[if_pos h0];refine aH.now (.inr ⟨rfl,fun x hx=> ?_⟩)
    simp only[gp,←vT,Option.bind_some,if_pos h0]at hx;cases hx
   ·simp only[if_neg h0];exact rounds jQ vT.symm (by omega) hm1
  ·intro i x s i0 i1 hx hxm _ _ _ Yl jQ vT hm1;refine aH.shift ?_;have hx':r.getD i.toNat ah=x:=hx ah;have w1:IntKind.i64.wrap (i+1)=i+1:=eu (by omega) (by omega)
   simp only[qf.l7,if_pos i1,if_pos i0,hx',ay,w1];refine aH.bind (aH.of (Ei hG x (hs1 x hxm)) (P:=fun z=>z=dM 0 G x) rfl) fun z hz=> ?_
   subst hz;simp only[iR]at vT;have skip:nK G x=false→aH (fun k=>qf.l7 k G ((d+1:Nat):Int) jQ (i+1) p.ak p.aG p.aB p.aI p.aj r) (ZV (gp m r (d+1) G)):=by
    intro ha;rw[ha]at vT;exact Yl jQ vT hm1
   by_cases h0:dM 0 G x<0
   ·simp only[if_pos h0];exact skip (by unfold nK;rw[decide_eq_true h0];rfl)
   obtain⟨g0,g1⟩:=qI h0;simp only[if_neg h0,if_pos g0,if_pos g1]
   by_cases hdp:(aF az G (dM 0 G x)).bu=0
   ·simp only[if_pos hdp];exact skip (by unfold nK;rw[decide_eq_true hdp];simp)
   have ha:nK G x=true:=jP.2 ⟨⟨g0,g1⟩,hdp⟩;rw[ha]at vT;simp only[if_true]at vT;have hgm:aF az G (dM 0 G x)∈G:=dF _ _ _ g0 g1;have hlen:oM G x≤1500:=by
    unfold oM;have h1:=hG.sz _ hgm;rw[pJ]at h1;have:=(sO (aF az G (dM 0 G x)).aP).2;omega
   have go:=fun h=>Yl (oM G x) h hlen
   simp only[if_neg hdp,qf.Il,if_pos g0,if_pos g1,w1]
   by_cases hm0:0≤jQ
   ·rw[if_pos hm0]at vT;simp only[if_pos hm0]
    by_cases hq:jQ=oM G x
    ·rw[if_pos hq]at vT;have hq':jQ=((aF az G (dM 0 G x)).aP.length:Int):=hq;simp only[←hq',not_true,if_false];have:=go vT;unfold oM at this;rw[←hq']at this;exact this
    ·rw[if_neg hq]at vT;have hq': ¬jQ=((aF az G (dM 0 G x)).aP.length:Int):=hq;simp only[hq',not_false_eq_true,if_true];refine aH.now (.inr ⟨rfl,fun x hx=> ?_⟩)
     simp only[gp,←vT,Option.bind_none]at hx;cases hx
   ·rw[if_neg hm0]at vT;simp only[if_neg hm0];exact go vT
theorem IP: ∀l:List af,lead l≤l.length
 | []=>Nat.le_refl _
 |x::l=>by
  have:=IP l;simp only[lead]
  split
  ·simp;omega
  ·simp
theorem Em: ∀(l:List af) (j:Nat),j<lead l→ ∀h:j<l.length,aN l[j]=true
 | [],j,h,_=>by simp[lead]at h
 |x::l,j,h,hj=>by
  simp only[lead]at h
  split at h
  ·rename_i hx;cases j with
   |zero=>exact hx
   |succ j=>exact Em l j (by omega) (by simpa using hj)
  ·omega
theorem IQ: ∀(l:List af) (h:lead l<l.length),aN l[lead l]=false
 | [],h=>by simp at h
 |x::l,h=>by
  cases hx:aN x with
  |false=>
   have e:lead (x::l)=0:=by simp[lead,hx]
   simp only[e,List.getElem_cons_zero,hx]
  |true=>
   have e:lead (x::l)=lead l+1:=by simp[lead,hx]
   simp only[e,List.getElem_cons_succ];exact IQ l (by rw[e]at h;simpa using h)
theorem AP (m:af→GL→Option af) (G:GL): ∀(k:Nat) (l:List af),k≤l.length→iq m G k l=iq m G 0 (l.drop k)
 |0,l,_=>rfl
 |k+1,[],h=>by simp at h
 |k+1,x::l,h=>by
  simp only[iq,List.drop_succ_cons];exact AP m G k l (by simpa using h)
def yL (m:af→GL→Option af) (t:af) (G:GL) (out:List af):Option af:=if t.ak=4 then(m (lastOf t) G).map (d_ out) else some ⟨3,ByteArray.empty,[],0,out⟩
theorem VM {m:af→GL→Option af} {t:af} {G:GL} {out:List af} {x:af} (h:yL m t G out=some x):cnts out≤cnt x:=by
 unfold yL at h
 split at h
 ·simp only[Option.map_eq_some_iff]at h;obtain⟨z,_,h2⟩:=h;have:=ve out z;have:=(dm z).1;rw[h2]at*;omega
 ·injection h with h
  rw[←h,Ee];omega
theorem Sv (t:af) (hw:wid t≤2000000) (hs:t.ak=3∨(t.ak=4∧2≤(t.aj.length:Int))) {G:GL} (m:af→GL→Option af)
  (hlast:t.ak=4→aH (fun k=>qc.f k (lastOf t) G) (fun r=>wid r.1≤2000000∧TA (m (lastOf t) G) r)) (a3:List af) (ha:cnts a3≤1500):
  aH (fun k=>qc.t_ k G (partsOf t) ((partsOf t).length:Int) t.ak t.aj 3 ByteArray.empty [] 0 a3) (TA (yL m t G a3)):=by
 have htp:=aW t;refine aH.shift ?_;simp (disch:=omega) only[qc.t_,if_neg];have hla:=rJ a3
 by_cases h3:t.ak=3
 ·have n4: ¬t.ak=4:=by omega
  simp only[if_pos h3,yL,if_neg n4];exact aH.now (.inl ⟨rfl,rfl⟩)
 ·have h4:t.ak=4:=by omega
  have h5:2≤(t.aj.length:Int):=by omega
  have wn:IntKind.i64.wrap ((t.aj.length:Int)-1)=(t.aj.length:Int)-1:=eu (by omega) (by omega)
  have c1:(0:Int)≤(t.aj.length:Int)-1:=by omega
  have c2:(t.aj.length:Int)-1<(t.aj.length:Int):=by omega
  simp only[if_neg h3,wn,if_pos c1,if_pos c2,ay,yL,if_pos h4];refine aH.bind (hlast h4) fun r ⟨hwr,hr⟩=> ?_
  refine aH.bind (aH.of (rH a3 r.1 (by omega) (by omega)) (P:=fun z=>z=d_ a3 r.1) rfl) fun z hz=> ?_
  subst hz;rcases hr with⟨r1,r2⟩|⟨r1,r2⟩
  ·rw[r2];exact aH.now (.inl ⟨r1,rfl⟩)
  ·refine aH.now (.inr ⟨r1,fun x hx=> ?_⟩)
   simp only[Option.map_eq_some_iff]at hx;obtain⟨y,y1,y2⟩:=hx;have:=r2 y y1;have:=ve a3 y;have:=(dQ a3).1;rw[←y2];omega
theorem OM (t:af) (e:Int) (hok:jl t e=true) (hw:wid t≤2000000) (hc:cnt t≤1500) (hs:t.ak=3∨(t.ak=4∧2≤(t.aj.length:Int))) {G:GL} (hG:iW G) (m:af→GL→Option af)
  (hm: ∀p∈t.aj,∀G,iW G→aH (fun k=>qc.f k p G) (TA (m p G))) (hb: ∀p∈t.aj,∀G,iW G→ ∀x,m p G=some x→wid x≤(2000000*cnt p)*vb G (dV [] p))
  (hlast:t.ak=4→aH (fun k=>qc.f k (lastOf t) G) (fun r=>wid r.1≤2000000∧TA (m (lastOf t) G) r)):
  ∀(n:Nat) (i:Int) (a3:List af),0≤i→((partsOf t).length:Int)-i≤(n:Int)→i≤((partsOf t).length:Int)→cnts a3≤1500→bG a3+(2000000*cnts ((partsOf t).drop i.toNat))*2250001≤6750003000000000→
  aH (fun k=>qc.t_ k G (partsOf t) i t.ak t.aj 3 ByteArray.empty [] 0 a3) (TA ((iq m G 0 ((partsOf t).drop i.toNat)).bind fun out=>yL m t G (a3++out))):=by
 have hks: ∀y∈t.aj,jl y (e+1)=true:=by
  rcases bU hok with⟨h,_⟩|⟨h,_⟩|⟨_,h⟩
  ·omega
  ·omega
  ·exact gI h
 have hsub: ∀p∈partsOf t,p∈t.aj:=by
  intro p hp';unfold partsOf at hp'
  split at hp'
  ·exact List.mem_of_mem_take hp'
  ·exact hp'
 have htp:=aW t;have hct:=jh t;have hpl:((partsOf t).length:Int)≤(t.aj.length:Int):=by
  unfold partsOf;split
  ·rw[List.length_take];omega
  ·omega
 have atEnd: ∀(i:Int) (a3:List af),i=((partsOf t).length:Int)→cnts a3≤1500→aH (fun k=>qc.t_ k G (partsOf t) i t.ak t.aj 3 ByteArray.empty [] 0 a3) (TA ((iq m G 0 ((partsOf t).drop i.toNat)).bind fun out=>yL m t G (a3++out))):=by
  intro i a3 hi ha;subst hi;rw[List.drop_eq_nil_of_le (by omega)]
  simp only[iq,Option.bind_some,List.append_nil];exact Sv t hw hs m hlast a3 ha
 intro n
 induction n with
 |zero=>intro i a3 i0 hn hi ha hwa;exact atEnd i a3 (by omega) ha
 |succ n ih=>
  intro i a3 i0 hn hi ha hwa
  by_cases hend:i=((partsOf t).length:Int)
  ·exact atEnd i a3 hend ha
  have i1:i<((partsOf t).length:Int):=by omega
  have hin:i.toNat<(partsOf t).length:=by omega
  obtain⟨p,hp⟩: ∃p,aF ah (partsOf t) i=p:=⟨_,rfl⟩;have hpm:p∈partsOf t:=by rw[←hp];exact dF _ _ _ i0 i1
  have hpk:=hsub p hpm;have hdr:(partsOf t).drop i.toNat=p::(partsOf t).drop (i.toNat+1):=by
   rw[BR (d:=ah) i0 i1,hp]
  generalize hps:(partsOf t).drop (i.toNat+1)=ps at hdr;have acN:(ps.length:Int)=((partsOf t).length:Int)-i-1:=by rw[←hps,List.length_drop];omega
  have hll:=IP ps;have hkl:=rJ t.aj;have VN: ∀(j:Nat) (hj:j<ps.length),aF ah (partsOf t) (i+1+(j:Int))=ps[j]:=by
   intro j hj;rw[show i+1+(j:Int)=(((i.toNat+1+j):Nat):Int) by omega,g_ _ _ _ (by omega)]
   have:ps[j]? =(partsOf t)[i.toNat+1+j]? :=by rw[←hps,List.getElem?_drop]
   rw[List.getElem?_eq_getElem hj,List.getElem?_eq_getElem (by omega)]at this
   injection this with this
   exact this.symm
  have hok1:=hks p hpk;have hwp:=bZ hpk;have aeh:=l_ hpk;have hcp:=(dm p).1;have times:=OL p (e+1) hok1 (by omega) (by omega) (m p) (hm p hpk) (hb p hpk)
  have acM:=dQ a3;have hla:=rJ a3;rw[hdr]at hwa⊢;have e1:(2000000*cnts (p::ps))*2250001=(2000000*cnt p)*2250001+(2000000*cnts ps)*2250001:=by simp only[cnts];omega
  have acO:=(dQ ps).1;have cont:aH (fun k=>(qf.f k p G ((lead ps:Nat):Int)).bind fun r2=>(if(¬r2.1=true) then(some ((af.mk (0:Int) ByteArray.empty [] (0:Int) []),false)) else(if(0:Int)≤i then(if i<((partsOf t).length:Int) then((q11.f k p).bind fun r3=>(if r3=true then(some ((af.mk (0:Int) ByteArray.empty [] (0:Int) []),false)) else((zF.f k a3).bind fun r4=>((zF.f k r2.2).bind fun r5=>(if((1500:Int)<(IntKind.i64.wrap (r4+r5))) then(some ((af.mk (0:Int) ByteArray.empty [] (0:Int) []),false)) else(qc.Bq k (qc.f k) (qc.t_ k) (qc.iO k) (qf.f k) (qf.l7 k) (qf.lG k) G (partsOf t) i ((lead ps:Nat):Int) t.ak t.aj 3 ByteArray.empty [] 0 r2.2 a3)))))) else none) else none)))
    (TA ((iq m G 0 (p::ps)).bind fun out=>yL m t G (a3++out))):=by
   refine aH.bind (times (lead ps) (by omega) G hG) fun q hq=> ?_
   have bad:(∀b,aN p=false→gp (m p) (dV [] p) (lead ps) G=some b→1500<cnts a3+cnts b)→aH (fun _:Nat=>some ((af.mk (0:Int) ByteArray.empty [] (0:Int) []),false)) (TA ((iq m G 0 (p::ps)).bind fun out=>yL m t G (a3++out))):=by
    intro g;refine aH.now (.inr ⟨rfl,fun x hx=> ?_⟩)
    simp only[Option.bind_eq_some_iff]at hx;obtain⟨out,h1,h2⟩:=hx;simp only[iq]at h1
    split at h1
    ·cases h1
    ·rename_i hd;simp only[Option.bind_eq_some_iff,Option.map_eq_some_iff]at h1;obtain⟨a,h3,b,h4,h5⟩:=h1;have h6:=g a (by simpa using hd) h3
     have h7:=VM h2;have h8:=(dQ b).1;rw[←h5,dw,dw]at h7;omega
   rcases hq with⟨q1,q2⟩|⟨q1,q2⟩
   ·simp only[q1,not_true,if_false,if_pos i0,if_pos i1];refine aH.bind (aH.of (gG p) (P:=fun z=>z=aN p) rfl) fun z hz=> ?_
    subst hz;cases hdp:aN p with
    |true=>
     simp only[if_true];exact bad fun b hd _=>by rw[hdp]at hd;cases hd
    |false=>
     simp only[Bool.false_eq_true,if_false];have hv:=jK hG (dV [] p);have hnc:=oN p;obtain⟨p1,p2⟩:=nM (by omega) (hb p hpk) _ G hG _ q2
     have hp1:(2000000*cnt p)*vb G (dV [] p)≤(2000000*cnt p)*2250001:=Int.mul_le_mul_of_nonneg_left (by omega) (by omega)
     have hcq:=dQ q.2;refine aH.bind (aH.of (yK a3 (by omega)) (P:=fun z=>z=cnts a3) rfl) fun z hz=> ?_
     subst hz;refine aH.bind (aH.of (yK q.2 (by omega)) (P:=fun z=>z=cnts q.2) rfl) fun z hz=> ?_
     subst hz;rw[eu (by omega) (by omega)]
     by_cases hbig:1500<cnts a3+cnts q.2
     ·simp only[if_pos hbig];exact bad fun b _ hb'=>by rw[q2]at hb';injection hb' with hb';rw[←hb'];exact hbig
     ·have c2:a3.length+q.2.length≤1759218604441:=by omega
      have w1:IntKind.i64.wrap (IntKind.i64.wrap (i+((lead ps:Nat):Int))+1)=i+1+((lead ps:Nat):Int):=by rw[eu (x:=i+((lead ps:Nat):Int)) (by omega) (by omega),eu (by omega) (by omega)];omega
      simp only[if_neg hbig,qc.Bq,if_pos c2,w1];have hdl:(partsOf t).drop (i+1+((lead ps:Nat):Int)).toNat=ps.drop (lead ps):=by
       rw[←hps,List.drop_drop];congr 1;omega
      have hcd:cnts (ps.drop (lead ps))≤cnts ps:=by
       have:=dw (ps.take (lead ps)) (ps.drop (lead ps));rw[List.take_append_drop]at this;have:=(dQ (ps.take (lead ps))).1;omega
      have:=ih (i+1+((lead ps:Nat):Int)) (a3++q.2) (by omega) (by omega) (by omega) (by rw[dw];omega) (by rw[hdl,dh];omega)
      rw[hdl,←AP m G _ _ hll]at this;have e2:((iq m G 0 (p::ps)).bind fun out=>yL m t G (a3++out))=((iq m G (lead ps) ps).bind fun out=>yL m t G (a3++q.2++out)):=by
       simp only[iq,hdp,Bool.false_eq_true,if_false,q2,Option.bind_some];cases iq m G (lead ps) ps with
       |none=>rfl
       |some b=>simp only[Option.map_some,Option.bind_some,List.append_assoc]
      rw[e2];exact this
   ·simp only[q1,Bool.false_eq_true,not_false_eq_true,if_true];exact bad fun b _ hb'=>by have:=q2 b hb';omega
  have count: ∀(r:Nat) (j:Nat),j+r=lead ps→aH (fun k=>qc.iO k G (partsOf t) i (j:Int) t.ak t.aj 3 ByteArray.empty [] 0 a3) (TA ((iq m G 0 (p::ps)).bind fun out=>yL m t G (a3++out))):=by
   intro r
   induction r with
   |zero=>
    intro j hj;have hj:j=lead ps:=by omega
    subst hj;refine aH.shift ?_;have w1:IntKind.i64.wrap (IntKind.i64.wrap (i+1)+((lead ps:Nat):Int))=i+1+((lead ps:Nat):Int):=by rw[eu (x:=i+1) (by omega) (by omega),eu (by omega) (by omega)]
    simp only[qc.iO,w1,hp,ay]
    by_cases hlt:lead ps<ps.length
    ·have c1:i+1+((lead ps:Nat):Int)<((partsOf t).length:Int):=by omega
     have c0:(0:Int)≤i+1+((lead ps:Nat):Int):=by omega
     simp only[if_pos c1,if_pos c0,VN _ hlt];refine aH.bind (aH.of (gG _) (P:=fun z=>z=aN (ps[lead ps])) rfl) fun z hz=> ?_
     subst hz;rw[IQ ps hlt];simp only[Bool.false_eq_true,if_false,if_pos i0,if_pos i1]
     simpa only[if_pos i0,if_pos i1]using cont
    ·have c1: ¬i+1+((lead ps:Nat):Int)<((partsOf t).length:Int):=by omega
     simp only[if_neg c1,if_pos i0,if_pos i1]
     simpa only[if_pos i0,if_pos i1]using cont
   |succ r ihr=>
    intro j hj;refine aH.shift ?_;have hjl:j<ps.length:=by omega
    have w1:IntKind.i64.wrap (IntKind.i64.wrap (i+1)+(j:Int))=i+1+(j:Int):=by rw[eu (x:=i+1) (by omega) (by omega),eu (by omega) (by omega)]
    have w2:IntKind.i64.wrap ((j:Int)+1)=((j+1:Nat):Int):=by rw[eu (by omega) (by omega)];omega
    have c1:i+1+(j:Int)<((partsOf t).length:Int):=by omega
    have c0:(0:Int)≤i+1+(j:Int):=by omega
    simp only[qc.iO,w1,if_pos c1,if_pos c0,VN _ hjl,ay];refine aH.bind (aH.of (gG _) (P:=fun z=>z=aN (ps[j])) rfl) fun z hz=> ?_
    subst hz;rw[Em ps j (by omega) hjl]
    simp only[if_true,w2];exact ihr (j+1) (by omega)
  refine aH.shift ?_;simp only[qc.t_,if_pos i1];exact count (lead ps) 0 (by omega)
theorem Sz: ∀(n:Nat) (t:af) (e:Int) (G:GL),cnt t≤(n:Int)→jl t e=true→wid t≤2000000→cnt t≤1500→iW G→aH (fun k=>qc.f k t G) (fun r=>((t.ak=1∨t.ak=2)→wid r.1≤2000000)∧TA (gQ n t G) r):=by
 intro n
 induction n with
 |zero=>intro t e G hc;have:=(dm t).1;omega
 |succ n ih=>
  intro t e G hn hok hw hc hG;have htp:=aW t;have hct:=jh t;refine aH.shift ?_
  by_cases h1:t.ak=1
  ·simp only[qc.f,if_pos h1,ay,gQ];refine aH.bind (LJ hG t h1 hw) fun r ⟨hr0,hr⟩=> ?_
   refine aH.now ⟨fun _=>hr0,?_⟩
   rcases hr with hr|⟨r1,r2⟩
   ·exact .inl hr
   ·exact .inr ⟨r1,fun x hx=>by rw[r2]at hx;cases hx⟩
  by_cases h2:t.ak=2
  ·simp only[qc.f,if_neg h1,if_pos h2,ay,gQ];refine aH.bind (aH.of (je t (by omega)) (P:=fun r=>r=(t.ak,t.aG,t.aI,t.aB,t.aj)) rfl) fun r hr=> ?_
   subst hr;exact aH.now ⟨fun _=>by show wid ⟨t.ak,t.aG,t.aB,t.aI,t.aj⟩≤_;rw[aJ];exact hw,.inl ⟨rfl,by rw[aJ]⟩⟩
  rcases rG hok h1 with h2'|⟨hs,hks,_⟩
  ·exact absurd h2' h2
  have nl: ∀w:Int,(t.ak=1∨t.ak=2)→w≤2000000:=fun w h=>by omega
  have hsub: ∀p∈t.aj,cnt p≤(n:Int)∧wid p≤2000000∧cnt p≤1500:=fun p hp=>by
   have:=l_ hp;have:=bZ hp;omega
  have rest: ¬(t.ak=3∧(t.aj.length=2∧aS t.aj=true))→aH (fun k=>qc.uP k (qc.f k) (qc.t_ k) (qc.iO k) (qf.f k) (qf.l7 k) (qf.lG k) G false t.ak t.aG t.aB t.aI t.aj) (fun r=>((t.ak=1∨t.ak=2)→wid r.1≤2000000)∧TA (gQ (n+1) t G) r):=by
   intro hnd;simp only[qc.uP,Bool.false_eq_true,if_false,aJ];refine aH.bind (aH.of (pF t (by omega) hs) (P:=fun r=>r=partsOf t) rfl) fun r hr=> ?_
   subst hr;have e1:gQ (n+1) t G=(iq (gQ n) G 0 (partsOf t)).bind fun out=>yL (gQ n) t G ([]++out):=by
    simp only[gQ,if_neg h1,if_neg h2,if_neg hnd,yL,List.nil_append]
   rw[e1];have hcp:cnts (partsOf t)≤cnts t.aj:=by
    unfold partsOf
    split
    ·have:=dw (t.aj.take (t.aj.length-1)) (t.aj.drop (t.aj.length-1));rw[List.take_append_drop]at this;have:=(dQ (t.aj.drop (t.aj.length-1))).1;omega
    ·exact Int.le_refl _
   have:=OM t e hok hw hc hs hG (gQ n) (fun p hp G' hG'=>(ih p (e+1) G' (hsub p hp).1 (hks p hp) (hsub p hp).2.1 (hsub p hp).2.2 hG').mono fun r hr=>hr.2)
    (fun p hp G' hG' x hx=>sU n p (e+1) G' (hks p hp) (hsub p hp).2.1 hG' x hx) (fun h4=>by
     have hl:lastOf t∈t.aj:=dF _ _ _ (by omega) (by omega)
     exact(ih (lastOf t) (e+1) G (hsub _ hl).1 (hks _ hl) (hsub _ hl).2.1 (hsub _ hl).2.2 hG).mono fun r hr=>⟨hr.1 (lK hok h4),hr.2⟩) (partsOf t).length 0 [] (by omega) (by omega) (by omega) (by simp[cnts]) (by simp only[bG,Int.toNat_zero,List.drop_zero];omega)
   rw[Int.toNat_zero,List.drop_zero]at this;exact this.mono fun r hr=>⟨nl _,hr⟩
  by_cases h3:t.ak=3
  ·by_cases hlen:(t.aj.length:Int)=2
   ·have c1:(0:Int)<(t.aj.length:Int):=by omega
    have c2:(1:Int)<(t.aj.length:Int):=by omega
    simp only[qc.f,if_neg h1,if_neg h2,if_pos h3,if_pos hlen,if_pos c1,ay];refine aH.bind (aH.of (gG _) (P:=fun z=>z=aN (aF ah t.aj 0)) rfl) fun z hz=> ?_
    subst hz;have hhd:aS t.aj=aN (aF ah t.aj 0):=by
     cases hk:t.aj with
     |nil=>rw[hk]at c1;simp at c1
     |cons a l=>rfl
    cases hd:aN (aF ah t.aj 0) with
    |false=>exact rest (by rw[hhd,hd];simp)
    |true=>
     have hl1:aF ah t.aj 1∈t.aj:=dF _ _ _ (by omega) c2
     simp only[qc.uP,if_true,if_pos c2,ay];have e1:gQ (n+1) t G=iJ G (aF ah t.aj 1):=by
      simp only[gQ,if_neg h1,if_neg h2];rw[if_pos ⟨h3,by omega,by rw[hhd,hd]⟩]
     rw[e1];refine aH.bind (OJ hG _ (e+1) (hks _ hl1) (hsub _ hl1).2.1) fun r hr=> ?_
     refine aH.now ⟨nl _,?_⟩;rcases hr with hr|⟨r1,r2⟩
     ·exact .inl hr
     ·exact .inr ⟨r1,fun x hx=>by rw[r2]at hx;cases hx⟩
   ·simp only[qc.f,if_neg h1,if_neg h2,if_pos h3,if_neg hlen];exact rest (by omega)
  ·simp only[qc.f,if_neg h1,if_neg h2,if_neg h3];exact rest (by omega)
theorem yM (t:af) (G:GL) (hw:wid t≤2000000) (hG:gW (-1) G=true→iW G) (hl:(G.length:Int)≤1000000000) (hwd: ∀g∈G,Gt g) (hv: ∀g∈G,gv g≤1500):Ev (fun k=>I9.f k t G) (mG t G):=by
 simp only[I9.f,ay,mG];refine Ev.bind (iL t (by omega)) ?_
 cases hok:okb t with
 |false=>simp only[Bool.false_eq_true,not_false_eq_true,if_true,if_false];exact Ev.now _
 |true=>
  simp only[not_true,if_false,if_true];refine Ev.bind (Gv G (-1) (by omega) (by omega) hl hwd fun x hx h0 h6=>Sj x (hwd x hx) (by have:=hv x hx;omega) h0 h6) ?_
  cases hg:gW (-1) G with
  |false=>simp only[Bool.false_eq_true,not_false_eq_true,if_true,if_false];exact Ev.now _
  |true=>
   simp only[not_true,if_false,if_true,I9.j3,aJ];have hok2:jl t 0=true∧cnt t≤1500:=by unfold okb leB at hok;simpa using hok
   have hcp:=(dm t).1;obtain⟨r,⟨_,hr⟩,hev⟩:=Sz (cnt t).toNat t 0 G (by omega) hok2.1 hw hok2.2 (hG hg)
   refine Ev.bind hev ?_;rcases hr with⟨r1,r2⟩|⟨r1,r2⟩
   ·have hb:=sU _ _ _ _ hok2.1 hw (hG hg) _ r2;have hn:=Ej hcp hok2.2 (jK (hG hg) (dV [] t)).1 (by have:=(jK (hG hg) (dV [] t)).2;have:=oN t;omega)
    simp only[r1,not_true,if_false,ay,r2];refine Ev.bind (iL r.1 (by omega)) ?_
    cases okb r.1 with
    |false=>simp only[Bool.false_eq_true,not_false_eq_true,if_true,if_false];exact Ev.now _
    |true=>simp only[not_true,if_false,if_true];exact Ev.now _
   ·simp only[r1,Bool.false_eq_true,not_false_eq_true,if_true];refine Ev.eq (Ev.now _) ?_;cases hm:gQ (cnt t).toNat t G with
    |none=>rfl
    |some x=>
     have:=r2 x hm;have:okb x=false:=by
      unfold okb leB;rw[decide_eq_false (by omega)];simp
     simp only[this,Bool.false_eq_true,if_false];rfl
theorem iW.sml {G:GL} (h:iW G):RV G:=⟨h.len,fun g hg=>(h.nm g hg).2⟩
def mO (G:GL):List af→Int→List Int→Bool→Int×List Int×Bool
 | [],m,ks,b=>(m,ks,b)
 |x::l,m,ks,b=>if nK G x then(if 0≤m∧ ¬m=oM G x then mO G l m (MN (nY ks (dM 0 G x)) ks (dM 0 G x)) true else mO G l (oM G x) (MN (nY ks (dM 0 G x)) ks (dM 0 G x)) b) else mO G l m ks b
theorem qK (G:GL): ∀(a c:List af) (m:Int) (ks:List Int) (b:Bool),mO G (a++c) m ks b=mO G c (mO G a m ks b).1 (mO G a m ks b).2.1 (mO G a m ks b).2.2
 | [],c,m,ks,b=>rfl
 |x::a,c,m,ks,b=>by
  simp only[List.cons_append,mO]
  split
  ·split
   ·exact qK G a c _ _ _
   ·exact qK G a c _ _ _
  ·exact qK G a c _ _ _
theorem yN (G:GL): ∀(l:List af) (m:Int) (ks:List Int),(mO G l m ks true).2.2=true
 | [],_,_=>rfl
 |x::l,m,ks=>by
  simp only[mO]
  split
  ·split
   ·exact yN G l _ _
   ·exact yN G l _ _
  ·exact yN G l _ _
theorem sV (G:GL): ∀(l:List af) (m:Int) (ks:List Int),((mO G l m ks false).2.2=false∧iR G l m=some (mO G l m ks false).1)∨((mO G l m ks false).2.2=true∧iR G l m=none)
 | [],_,_=> .inl ⟨rfl,rfl⟩
 |x::l,m,ks=>by
  simp only[mO,iR]
  split
  ·by_cases h0:0≤m
   ·by_cases h1:m=oM G x
    ·rw[if_neg (fun h=>h.2 h1),if_pos h0,if_pos h1]
     exact sV G l _ _
    ·rw[if_pos ⟨h0,h1⟩,if_pos h0,if_neg h1];exact .inr ⟨yN G l _ _,rfl⟩
   ·rw[if_neg (fun h=>h0 h.1),if_neg h0]
    exact sV G l _ _
  ·exact sV G l _ _
theorem BZ (G:GL): ∀(l:List af) (m:Int) (ks:List Int) (b:Bool),(mO G l m ks b).2.1=Ov ks (mF G l)
 | [],_,_,_=>rfl
 |x::l,m,ks,b=>by
  unfold mF
  by_cases h:nK G x=true
  ·simp only[mO,h,if_true,List.filter_cons_of_pos,List.map_cons,Ov]
   split
   ·exact BZ G l _ _ _
   ·exact BZ G l _ _ _
  ·have h':nK G x=false:=by simpa using h
   simp only[mO,h',Bool.false_eq_true,if_false];rw[List.filter_cons_of_neg (by simp[h'])]
   exact BZ G l _ _ _
theorem XF (G:GL) (hG:RV G) (c:Int): ∀(p:af) (e:Int),jl p e=true→wid p≤1000000000→
  ∀(jQ:Int) (ks:List Int) (vs:List Bool) (b:Bool),aH (fun k=>qm.f k p G jQ ks vs c b) (fun r=>r.1=G∧r.2.1=(mO G (dV [] p) jQ ks b).1∧r.2.2.1=(mO G (dV [] p) jQ ks b).2.1∧r.2.2.2.2=(c,(mO G (dV [] p) jQ ks b).2.2)):=by
 refine dX fun p ih e hok hw jQ ks vs b=> ?_
 have hp:=aW p;have acP: ¬p.ak=1→ ∀x∈p.aj,jl x (e+1)=true:=by
  intro h1 x hx;rcases bU hok with⟨h,_⟩|⟨_,h⟩|⟨_,h⟩
  ·exact absurd h h1
  ·rw[h]at hx;cases hx
  ·exact gI h x hx
 refine aH.shift ?_
 by_cases h1:p.ak=1
 ·have hk:p.aj= []:=by
   rcases bU hok with⟨_,k⟩|⟨_,k⟩|⟨h',_⟩
   ·exact k
   ·exact k
   ·omega
  have b1:(p.aG.toList=(ByteArray.mk #[46,46,46]).toList)↔bytesOf p.aG= [46,46,46]:=lit_eq _ _ (by decide)
  have b2:(p.aG.toList=(ByteArray.mk #[95]).toList)↔bytesOf p.aG= [95]:=lit_eq _ _ (by decide)
  have e1:aN p=decide (bytesOf p.aG= [46,46,46]):=by simp[aN,h1]
  have e2:fE p=decide (bytesOf p.aG= [95]):=by simp[fE,h1]
  have rest: ∀(jQ:Int) (ks:List Int) (vs:List Bool) (b:Bool),aH (fun k=>qm.j3 k G jQ ks vs c b p.aj) (fun r=>r=(G,jQ,ks,vs,c,b)):=by
   intro jQ ks vs b;rw[hk];simp only[qm.j3,qm.BK];refine aH.shift ?_;simp (disch:=simp) only[qm.l4,if_neg];exact aH.now rfl
  have main:aH (fun k=>Iw.f k p G jQ ks vs c b) (fun r=>r.1=G∧r.2.1=(mO G (dV [] p) jQ ks b).1∧r.2.2.1=(mO G (dV [] p) jQ ks b).2.1∧r.2.2.2.2=(c,(mO G (dV [] p) jQ ks b).2.2)):=by
   have hb:inB [] p=false:=rfl;rw[iQ,if_pos h1,e1,e2,hb];simp only[Iw.f]
   by_cases d1:bytesOf p.aG= [46,46,46]
   ·simp only[if_pos (b1.2 d1),decide_eq_true d1,Bool.true_or,if_true];exact aH.now ⟨rfl,rfl,rfl,rfl⟩
   have d1': ¬p.aG.toList=(ByteArray.mk #[46,46,46]).toList:=fun h=>d1 (b1.1 h)
   by_cases d2:bytesOf p.aG= [95]
   ·simp only[if_neg d1',if_pos (b2.2 d2),decide_eq_true d2,Bool.true_or,Bool.or_true,if_true];exact aH.now ⟨rfl,rfl,rfl,rfl⟩
   have d2': ¬p.aG.toList=(ByteArray.mk #[95]).toList:=fun h=>d2 (b2.1 h)
   simp only[decide_eq_false d1,decide_eq_false d2,Bool.or_false,Bool.false_eq_true,if_false];simp only[if_neg d1',if_neg d2',Iw.j2,aJ];refine aH.bind (aH.of (Ll G p hG) (P:=fun r=>r=dM 0 G p) rfl) fun r hr=> ?_
   subst hr;simp only[mO]
   by_cases h0:dM 0 G p<0
   ·have:nK G p=false:=by unfold nK;rw[decide_eq_true h0];rfl
    simp only[if_pos h0,this,Bool.false_eq_true,if_false];exact aH.now ⟨rfl,rfl,rfl,rfl⟩
   obtain⟨g0,g1⟩:=qI h0;simp only[if_neg h0,if_pos g0,if_pos g1]
   by_cases hd:(aF az G (dM 0 G p)).bu=0
   ·have:nK G p=false:=by unfold nK;rw[decide_eq_true hd];simp
    simp only[if_pos hd,this,Bool.false_eq_true,if_false];exact aH.now ⟨rfl,rfl,rfl,rfl⟩
   have ha:nK G p=true:=jP.2 ⟨⟨g0,g1⟩,hd⟩;have hq:oM G p=((aF az G (dM 0 G p)).aP.length:Int):=rfl;simp only[if_neg hd,Iw.j4,if_pos g0,if_pos g1,ha,if_true,hq]
   by_cases m0:0≤jQ
   ·by_cases m1:jQ=((aF az G (dM 0 G p)).aP.length:Int)
    ·have n: ¬(0≤jQ∧ ¬jQ=((aF az G (dM 0 G p)).aP.length:Int)):=fun h=>h.2 m1
     simp only[if_pos m0,if_neg (bg m1),if_neg n];exact aH.now ⟨rfl,rfl,rfl,rfl⟩
    ·have n:0≤jQ∧ ¬jQ=((aF az G (dM 0 G p)).aP.length:Int):=⟨m0,m1⟩;simp only[if_pos m0,if_pos m1,if_pos n];exact aH.now ⟨rfl,rfl,rfl,rfl⟩
   ·have n: ¬(0≤jQ∧ ¬jQ=((aF az G (dM 0 G p)).aP.length:Int)):=fun h=>m0 h.1
    simp only[if_neg m0,if_neg n];exact aH.now ⟨rfl,rfl,rfl,rfl⟩
  simp only[qm.f,if_pos h1,ay];refine aH.bind main ?_;rintro⟨G',mn',ks2,vs',c',b'⟩ ⟨q1,q2,q3,q4⟩;simp only[Prod.mk.injEq]at q1 q2 q3 q4;obtain⟨q4,q5⟩:=q4;subst q1 q4;refine(rest mn' ks2 vs' b').mono ?_;rintro r rfl;exact⟨rfl,q2,q3,by rw[q5]⟩
 ·rw[iQ,if_neg h1];simp only[qm.f,if_neg h1,qm.j3,qm.BK];refine dG p.aj (P:=fun i suf=> ∀(jQ:Int) (ks:List Int) (vs:List Bool) (b:Bool),aH (fun k=>qm.l4 k p.aj (p.aj.length:Int) i G jQ ks vs c b) (fun r=>r.1=G∧r.2.1=(mO G (dY [] suf) jQ ks b).1∧r.2.2.1=(mO G (dY [] suf) jQ ks b).2.1∧r.2.2.2.2=(c,(mO G (dY [] suf) jQ ks b).2.2))) ?_ ?_ jQ ks vs b
  ·intro jQ ks vs b;refine aH.shift ?_;simp (disch:=omega) only[qm.l4,if_neg];exact aH.now ⟨rfl,rfl,rfl,rfl⟩
  ·intro i x r i0 i1 hx hm _ _ _ ihr jQ ks vs b;refine aH.shift ?_;simp (disch:=omega) only[qm.l4,if_pos,hx,ay,eu];refine aH.bind (ih x hm (e+1) (acP h1 x hm) (by have:=bZ hm;omega) jQ ks vs b) ?_
   rintro⟨G',mn',ks',vs',c',b'⟩ ⟨q1,q2,q3,q4⟩;simp only[Prod.mk.injEq]at q1 q2 q3 q4;obtain⟨q4,q5⟩:=q4;subst q1 q4;simp only[dY,qK];rw[←q2,←q3,←q5];exact ihr mn' ks' vs' b'
def LK (M:Option af) (c:Int) (r:af×Int×Bool):Prop:=(r.2.2=false∧M=some r.1∧c≤r.2.1∧r.2.1≤c+cnt r.1)∨(r.2.2=true∧ ∀x,M=some x→6000<c+cnt x)
def Zv (M:Option Jq) (c v:Int) (r:Int×Bool×List af):Prop:=(r.2.2.length:Int)≤v∧((r.2.1=false∧M=some r.2.2∧c≤r.1∧r.1≤c+cnts r.2.2)∨(r.2.1=true∧ ∀x,M=some x→6000<c+cnts x))
theorem Gy (p:af) (G:GL) (pl:Bool) (c:Int) (M:Option af) (h:aH (fun k=>qa.f k p G pl c false) (LK M c)):aH (fun k=>qb.f k p 0 G pl c false) (Zv (M.map ([·])) c 1):=by
 refine aH.shift ?_;simp only[qb.f,Bool.false_eq_true,if_false,if_true,ay];refine aH.bind h ?_;rintro⟨x',c',b⟩ hr;refine aH.now ⟨by simp,?_⟩
 rcases hr with⟨e1,e2,e3,e4⟩|⟨e1,e2⟩
 ·exact .inl ⟨e1,by rw[e2];rfl,e3,by simpa [cnts]using e4⟩
 ·refine .inr ⟨e1,fun x hx=> ?_⟩
  simp only[Option.map_eq_some_iff]at hx;obtain⟨y,y1,y2⟩:=hx;have:=e2 y y1;rw[←y2];simpa [cnts]using this
theorem VO (p:af) (e:Int) (hok:jl p e=true) (hw:wid p≤2000000) (hc:cnt p≤1500) (m:GL→Option af)
  (hm: ∀G,iW G→ ∀c,0≤c→c+(2000000*cnt p)*vb G (dV [] p)≤100000000000000000→aH (fun k=>qa.f k p G false c false) (LK (m G) c))
  (hb: ∀G,iW G→ ∀x,m G=some x→wid x≤(2000000*cnt p)*vb G (dV [] p)): ∀(d:Nat),d≤1500→ ∀G,iW G→ ∀c,0≤c→c+(2000000*cnt p)*vb G (dV [] p)≤100000000000000000→
  aH (fun k=>qb.f k p (d:Int) G false c false) (Zv (gp m (dV [] p) d G) c (vb G (dV [] p))):=by
 have hcp:=(dm p).1;have hln:=oN p;intro d
 induction d with
 |zero=>
  intro _ G hG c c0 c1;refine(Gy p G false c (m G) (hm G hG c c0 c1)).mono fun r hr=>⟨?_,hr.2⟩
  have:=(jK hG (dV [] p)).1;have:=hr.1;omega
 |succ d ih=>
  intro hd G hG c c0 c1;have hvb:=jK hG (dV [] p);refine aH.shift ?_;have nz: ¬((d+1:Nat):Int)=0:=by omega
  simp only[qb.f,Bool.false_eq_true,if_false,if_neg nz,ay];refine aH.bind (XF G hG.sml c p e hok (by omega) (-1) [] [] false) ?_
  rintro⟨G',jQ,ks,vs,c',b⟩ ⟨q1,q2,q3,q4⟩;simp only[Prod.mk.injEq]at q1 q2 q3 q4;obtain⟨q4,q5⟩:=q4;subst q1 q4;rw[BZ]at q3;have aba: ∀(jQ:Int),aH (fun k=>qb.l12 k ((d+1:Nat):Int) false 0 c' true p.ak p.aG p.aB p.aI p.aj G' jQ [] ks vs) (fun r=>r=(c',true,[])):=by
   intro jQ;refine aH.shift ?_;simp only[qb.l12,not_true,if_false];exact aH.ite (fun _=>aH.now rfl) fun _=>aH.now rfl
  have VP:iR G' (dV [] p) (-1)=none∨(∃R,iR G' (dV [] p) (-1)=some R∧R<0)→ ∀(jQ:Int),aH (fun k=>qb.l12 k ((d+1:Nat):Int) false 0 c' true p.ak p.aG p.aB p.aI p.aj G' jQ [] ks vs) (Zv (gp m (dV [] p) (d+1) G') c' (vb G' (dV [] p))):=by
   intro h jQ;refine(aba jQ).mono ?_;rintro r rfl;refine⟨by simp;omega,.inr ⟨rfl,fun x hx=> ?_⟩⟩
   rcases h with h|⟨R,h,hR⟩
   ·simp only[gp,h,Option.bind_none]at hx;cases hx
   ·simp only[gp,h,Option.bind_some,if_pos hR]at hx;cases hx
  have hkm: ∀j,j∈ks↔j∈mF G' (dV [] p):=fun j=>by rw[q3,Lp];simp
  have hact:ks= []→ ∀R,iR G' (dV [] p) (-1)=some R→R<0:=by
   intro hk R hR;obtain⟨_,_,_,t4⟩:=lM G' _ _ _ hR;rcases t4 with t4|⟨x,hx,ha⟩
   ·omega
   ·have:=(hkm _).2 (OB hx ha);rw[hk]at this;cases this
  simp only[qb.tY];rcases sV G' (dV [] p) (-1) []with⟨t1,t2⟩|⟨t1,t2⟩
  ·rw[←q2]at t2;rw[t1]at q5;subst q5
   by_cases hk0:((ks.length:Nat):Int)=0
   ·simp only[if_pos hk0];exact VP (.inr ⟨jQ,t2,hact (List.eq_nil_of_length_eq_zero (by omega)) _ t2⟩) jQ
   ·simp only[if_neg hk0];obtain⟨_,_,t3,t4⟩:=lM G' _ _ _ t2;have hR0:0≤jQ∧jQ≤1500:=by
     rcases t4 with t4|⟨x,hx,ha⟩
     ·exfalso
      obtain⟨j,hj⟩:=List.exists_mem_of_ne_nil ks (by intro h;rw[h]at hk0;simp at hk0)
      obtain⟨x,hx,ha,_⟩:=qJ ((hkm j).1 hj);have:=t3 x hx ha;unfold oM at this;omega
     ·have h1:=t3 x hx ha;obtain⟨⟨g0,g1⟩,_⟩:=jP.1 ha;have hgm:aF az G' (dM 0 G' x)∈G':=dF _ _ _ g0 g1;have h2:=hG.sz _ hgm;rw[pJ]at h2;have:=(sO (aF az G' (dM 0 G' x)).aP).2;unfold oM at h1;omega
    obtain⟨R0,R1⟩:=hR0;have acR: ∀j∈ks,0≤j∧j<(G'.length:Int)∧((aF az G' j).aP.length:Int)=jQ:=by
     intro j hj;obtain⟨x,hx,ha,hg⟩:=qJ ((hkm j).1 hj);obtain⟨⟨g0,g1⟩,_⟩:=jP.1 ha;have:=t3 x hx ha;unfold oM at this;rw[hg]at this g0 g1;exact⟨g0,g1,this⟩
    have acS:ks.Nodup:=by rw[q3];exact Ec _ _ (by simp)
    have e0:gp m (dV [] p) (d+1) G'=sQ (fun K=>gp m (dV [] p) d (dZ (mF G' (dV [] p)) (K:Int) G')) jQ.toNat:=by
     simp only[gp,t2,Option.bind_some];rw[if_neg (by omega)]
    rw[e0];have key: ∀(j:Nat) (K:Nat),K+j=jQ.toNat→ ∀(acc:List af) (cc:Int),sQ (fun K=>gp m (dV [] p) d (dZ (mF G' (dV [] p)) (K:Int) G')) K=some acc→c'≤cc→cc≤c'+cnts acc→
      aH (fun k=>qb.l12 k ((d+1:Nat):Int) false (K:Int) cc false p.ak p.aG p.aB p.aI p.aj G' jQ acc ks vs) (Zv (sQ (fun K=>gp m (dV [] p) d (dZ (mF G' (dV [] p)) (K:Int) G')) jQ.toNat) c' (vb G' (dV [] p))):=by
     intro j
     induction j with
     |zero=>
      intro K hK acc cc ha h1 h2;obtain⟨a1,a2⟩:=yI (g:=fun K=>(2000000*cnt p)*vb (dZ (mF G' (dV [] p)) (K:Int) G') (dV [] p)) (h:=fun K=>vb (dZ (mF G' (dV [] p)) (K:Int) G') (dV [] p)) K acc ha fun K' hK' b hb'=>
       nM (by omega) hb d _ (hG.upd t2 (by omega) (by omega)) b hb'
      have h3:=yH hG t2 R0 K (by omega)
      have aa_:vb G' (dV [] p)=1+zT G' (dV [] p):=rfl;refine aH.shift ?_;have n: ¬(K:Int)<jQ:=by omega
      simp only[qb.l12,if_neg n];refine aH.now ⟨by show(acc.length:Int)≤_;omega,.inl ⟨rfl,?_,h1,h2⟩⟩
      show _=some acc;rw[←ha,←hK];rfl
     |succ j ihj=>
      intro K hK acc cc ha h1 h2;have Yk:=hG.upd t2 (K:=(K:Int)) (by omega) (by omega)
      obtain⟨a1,a2⟩:=yI (g:=fun K=>(2000000*cnt p)*vb (dZ (mF G' (dV [] p)) (K:Int) G') (dV [] p)) (h:=fun K=>vb (dZ (mF G' (dV [] p)) (K:Int) G') (dV [] p)) K acc ha fun K' hK' b hb'=>
       nM (by omega) hb d _ (hG.upd t2 (by omega) (by omega)) b hb'
      rw[yG]at a1;have h3:=yH hG t2 R0 (K+1) (by omega)
      simp only[jy]at h3;have aa_:vb G' (dV [] p)=1+zT G' (dV [] p):=rfl;have h4:(2000000*cnt p)*(jy (fun K=>vb (dZ (mF G' (dV [] p)) (K:Int) G') (dV [] p)) K+vb (dZ (mF G' (dV [] p)) (K:Int) G') (dV [] p))≤(2000000*cnt p)*vb G' (dV [] p):=Int.mul_le_mul_of_nonneg_left (by omega) (by omega)
      rw[Int.mul_add]at h4;have hca:=dQ acc;refine aH.shift ?_;have c2:(K:Int)<jQ:=by omega
      have hgl:([]:GL).length+G'.length≤733007751850:=by have:=hG.len;simp;omega
      simp only[qb.l12,if_pos c2,Bool.false_eq_true,not_false_eq_true,if_true,qb.Bo,if_pos hgl,List.nil_append];have hup:dZ ks (K:Int) G'=dZ (mF G' (dV [] p)) (K:Int) G':=Ed _ _ hkm;have stop:aH (fun k=>qb.Ez k ((d+1:Nat):Int) false (K:Int) cc false p.ak p.aG p.aB p.aI p.aj G' jQ acc (dZ ks (K:Int) G') (ks.length:Int) [] ks vs) (Zv (sQ (fun K=>gp m (dV [] p) d (dZ (mF G' (dV [] p)) (K:Int) G')) jQ.toNat) c' (vb G' (dV [] p))):=by
       refine aH.shift ?_;have w0:IntKind.i64.wrap (((d+1:Nat):Int)-1)=(d:Int):=by rw[eu (by omega) (by omega)];omega
       have w1:IntKind.i64.wrap ((K:Int)+1)=((K+1:Nat):Int):=by rw[eu (by omega) (by omega)];omega
       simp only[qb.Ez,if_true,aJ,w0,w1,hup];refine aH.bind (ih (by omega) _ Yk cc (by omega) (by omega)) ?_
       rintro⟨c3,b3,l3⟩ ⟨z0,hz⟩;have hvk:=jK Yk (dV [] p);simp only at z0 hz;have hcap:acc.length+l3.length≤1759218604441:=by omega
       simp only[if_pos hcap];rcases hz with⟨z1,z2,z3,z4⟩|⟨z1,z2⟩
       ·subst z1;refine ihj (K+1) (by omega) (acc++l3) c3 ?_ (by omega) (by rw[dw];omega)
        simp only[sQ,ha,Option.bind_some];rw[z2];rfl
       ·subst z1;refine aH.shift ?_;simp only[qb.l12,not_true,if_false];have fin:Zv (sQ (fun K=>gp m (dV [] p) d (dZ (mF G' (dV [] p)) (K:Int) G')) jQ.toNat) c' (vb G' (dV [] p)) (c3,true,acc++l3):=by
         refine⟨by show((acc++l3).length:Int)≤_;rw[List.length_append];omega,.inr ⟨rfl,fun x hx=> ?_⟩⟩
         obtain⟨a,b,s,y1,y2,y3⟩:=zW _ _ hx K (by omega)
         rw[ha]at y1;injection y1 with y1
         subst y1;have:=z2 b y2;have hs:=(dQ s).1;rw[y3,dw,dw];omega
        exact aH.ite (fun _=>aH.now fin) fun _=>aH.now fin
      obtain⟨res,hres,hev⟩:=stop;refine⟨res,hres,?_⟩;have:=Oy p ((d+1:Nat):Int) G' jQ cc jQ (K:Int) acc ks vs (by omega) c2 res acR acS hev (upTo ks.length).length (upTo ks.length) [] rfl (Oz _) (fun q hq=>by
       have:=(Ls _ q).1 hq;exact⟨this.1,this.2,by simp⟩) (fun j hj=>by cases hj) (fun j hj=>by
       obtain⟨m,hm,rfl⟩:=List.getElem_of_mem hj;exact .inr ⟨(m:Int),(Ls _ _).2 ⟨by omega,by omega⟩,g_ _ _ _ hm⟩)
      rw[VB]at this;exact this
    exact key jQ.toNat 0 (by omega) [] c' rfl (by omega) (by simp[cnts])
  ·rw[t1]at q5;subst q5;exact aH.ite (fun _=>VP (.inl t2) jQ) (fun _=>VP (.inl t2) jQ)
def AQ (pl:Bool) (ps:List af):Nat:=if pl then 0 else lead ps
def iw (pl:Bool) (m:af→GL→Option af) (G:GL):Nat→List af→Option Jq
 |_,[]=>some []
 |k+1,_::ps=>iw pl m G k ps
 |0,p::ps=>if !pl&&aN p then none else(gp (m p) (dV [] p) (AQ pl ps) G).bind fun a=>(iw pl m G (AQ pl ps) ps).map (a++ ·)
theorem sW (m:af→GL→Option af) (G:GL): ∀(l:List af) (k:Nat),iw false m G k l=iq m G k l
 | [],k=>by cases k<;>rfl
 |x::l,k+1=>sW m G l k
 |x::l,0=>by
  have:=sW m G l (lead l);simp only[iw,iq,AQ,Bool.false_eq_true,if_false,Bool.not_false,Bool.true_and,this]
theorem AU (G:GL): ∀(l:List af),iw true (fun p G=>iJ G p) G 0 l=dN G l
 | []=>by simp only[iw,dN]
 |x::l=>by
  have:=AU G l;simp only[iw,AQ,Bool.not_true,Bool.false_and,Bool.false_eq_true,if_true,if_false,gp,this,dN];cases iJ G x with
  |none=>rfl
  |some y=>simp only[Option.map_some,Option.bind_some];cases dN G l<;>rfl
theorem AV (pl:Bool) (m:af→GL→Option af) (G:GL): ∀(k:Nat) (l:List af),k≤l.length→iw pl m G k l=iw pl m G 0 (l.drop k)
 |0,l,_=>rfl
 |k+1,[],h=>by simp at h
 |k+1,x::l,h=>by
  simp only[iw,List.drop_succ_cons];exact AV pl m G k l (by simpa using h)
def nR (m:af→GL→Option af) (G:GL) (eo:Option af) (out:List af):Option af:=
 match eo with
 |none=>some ⟨3,ByteArray.empty,[],0,out⟩
 |some e=>(m e G).map (d_ out)
theorem VQ {m:af→GL→Option af} {G:GL} {eo:Option af} {out:List af} {x:af} (h:nR m G eo out=some x):cnts out≤cnt x:=by
 unfold nR at h
 split at h
 ·injection h with h
  rw[←h,Ee];omega
 ·simp only[Option.map_eq_some_iff]at h;obtain⟨z,_,h2⟩:=h;have:=ve out z;have:=(dm z).1;rw[h2]at*;omega
theorem Gz (pl:Bool) (t:af) (hw:wid t≤2000000) (hc:cnt t≤1500) (hsub: ∀p∈partsOf t,p∈t.aj) (hcp:cnts (partsOf t)≤cnts t.aj) {G:GL} (hG:iW G) (m:af→GL→Option af) (eo:Option af) (cc V:Int) (hV:1≤V)
  (hp: ∀p∈partsOf t,∀d:Nat,d≤1500→(pl=true→d=0)→ ∀c,0≤c→c+(2000000*cnt p)*V≤100000000000000000→aH (fun k=>qb.f k p (d:Int) G pl c false) (Zv (gp (m p) (dV [] p) d G) c 2250001))
  (hlen: ∀p∈partsOf t,∀d:Nat,(pl=true→d=0)→ ∀out,gp (m p) (dV [] p) d G=some out→(out.length:Int)≤2250001∧cnts out≤(2000000*cnt p)*V)
  (he: ∀e,eo=some e→ ∀c,0≤c→c≤100000000000000000→aH (fun k=>qa.f k e G pl c false) (fun r=>wid r.1≤2000000∧LK (m e G) c r)):
  ∀(n:Nat) (i:Int) (a2:List af) (c:Int),0≤i→((partsOf t).length:Int)-i≤(n:Int)→i≤((partsOf t).length:Int)→0≤cc→cc≤c→c≤cc+cnts a2→(a2.length:Int)≤2250001*i→c+(2000000*cnts ((partsOf t).drop i.toNat))*V≤100000000000000000→
  aH (fun k=>qa.lG k G pl (partsOf t) eo i c false a2) (LK ((iw pl m G 0 ((partsOf t).drop i.toNat)).bind fun out=>nR m G eo (a2++out)) cc):=by
 have htp:=aW t;have hct:=jh t;have hkl:=rJ (partsOf t);have atEnd: ∀(i:Int) (a2:List af) (c:Int),i=((partsOf t).length:Int)→0≤cc→cc≤c→c≤cc+cnts a2→(a2.length:Int)≤2250001*i→c≤100000000000000000→aH (fun k=>qa.lG k G pl (partsOf t) eo i c false a2) (LK ((iw pl m G 0 ((partsOf t).drop i.toNat)).bind fun out=>nR m G eo (a2++out)) cc):=by
  intro i a2 c hi hcc h1 h2 h3 h4;subst hi;rw[List.drop_eq_nil_of_le (by omega)]
  simp only[iw,Option.bind_some,List.append_nil];refine aH.shift ?_;simp (disch:=omega) only[qa.lG,if_neg,Bool.false_eq_true,if_false];cases eo with
  |none=>
   simp (disch:=omega) only[Option.isSome_none,if_true,eu];refine aH.now (.inl ⟨rfl,rfl,by show cc≤c+1;omega,?_⟩)
   show c+1≤cc+cnt ⟨3,ByteArray.empty,[],0,a2⟩;rw[Ee];omega
  |some e=>
   simp only[Option.isSome_some,Bool.true_eq_false,if_false,Option.bind_some,ay];refine aH.bind (he e rfl c (by omega) (by omega)) fun r ⟨hwr,hr⟩=> ?_
   refine aH.bind (aH.of (Gj a2 r.1 (by omega) (by omega)) (P:=fun z=>z=d_ a2 r.1) rfl) fun z hz=> ?_
   subst hz;rcases hr with⟨r1,r2,r3,r4⟩|⟨r1,r2⟩
   ·refine aH.now (.inl ⟨r1,by show(m e G).map _=_;rw[r2];rfl,by show cc≤r.2.1;omega,?_⟩)
    have:=ve a2 r.1;show r.2.1≤cc+cnt (d_ a2 r.1);omega
   ·refine aH.now (.inr ⟨r1,fun x hx=> ?_⟩)
    have hx:(m e G).map (d_ a2)=some x:=hx;simp only[Option.map_eq_some_iff]at hx;obtain⟨y,y1,y2⟩:=hx;have:=r2 y y1;have:=ve a2 y;rw[←y2];omega
 intro n
 induction n with
 |zero=>intro i a2 c i0 hn hi hcc h1 h2 h3 h4;exact atEnd i a2 c (by omega) hcc h1 h2 h3 (by have:0≤(2000000*cnts ((partsOf t).drop i.toNat))*V:=Int.mul_nonneg (by have:=(dQ ((partsOf t).drop i.toNat)).1;omega) (by omega);omega)
 |succ n ih=>
  intro i a2 c i0 hn hi hcc h1 h2 h3 h4
  by_cases hend:i=((partsOf t).length:Int)
  ·exact atEnd i a2 c hend hcc h1 h2 h3 (by have:0≤(2000000*cnts ((partsOf t).drop i.toNat))*V:=Int.mul_nonneg (by have:=(dQ ((partsOf t).drop i.toNat)).1;omega) (by omega);omega)
  have i1:i<((partsOf t).length:Int):=by omega
  obtain⟨p,hpe⟩: ∃p,aF ah (partsOf t) i=p:=⟨_,rfl⟩;have hpm:p∈partsOf t:=by rw[←hpe];exact dF _ _ _ i0 i1
  have hdr:(partsOf t).drop i.toNat=p::(partsOf t).drop (i.toNat+1):=by
   rw[BR (d:=ah) i0 i1,hpe]
  generalize hps:(partsOf t).drop (i.toNat+1)=ps at hdr;have acN:(ps.length:Int)=((partsOf t).length:Int)-i-1:=by rw[←hps,List.length_drop];omega
  have hll:=IP ps;have hlp:AQ pl ps≤ps.length:=by unfold AQ;split<;>omega
  have VN: ∀(j:Nat) (hj:j<ps.length),aF ah (partsOf t) (i+1+(j:Int))=ps[j]:=by
   intro j hj;rw[show i+1+(j:Int)=(((i.toNat+1+j):Nat):Int) by omega,g_ _ _ _ (by omega)]
   have:ps[j]? =(partsOf t)[i.toNat+1+j]? :=by rw[←hps,List.getElem?_drop]
   rw[List.getElem?_eq_getElem hj,List.getElem?_eq_getElem (by omega)]at this
   injection this with this
   exact this.symm
  have hcp1:=(dm p).1;have acO:=(dQ ps).1;rw[hdr]at h4⊢;have e1:(2000000*cnts (p::ps))*V=(2000000*cnt p)*V+(2000000*cnts ps)*V:=by simp only[cnts];rw[Int.mul_add,Int.add_mul]
  have e0:0≤(2000000*cnts ps)*V:=Int.mul_nonneg (by omega) (by omega)
  have bad: ∀(a:List af) (c':Int),(∀b,(pl=true∨aN p=false)→gp (m p) (dV [] p) (AQ pl ps) G=some b→6000<c+cnts b)→ ∀i',aH (fun k=>qa.lG k G pl (partsOf t) eo i' c' true a) (LK ((iw pl m G 0 (p::ps)).bind fun out=>nR m G eo (a2++out)) cc):=by
   intro a c' g i';refine aH.shift ?_;simp only[qa.lG,not_true,if_false,if_true];have fin:LK ((iw pl m G 0 (p::ps)).bind fun out=>nR m G eo (a2++out)) cc ((⟨0,ByteArray.empty,[],0,[]⟩:af),c',true):=by
    refine .inr ⟨rfl,fun x hx=> ?_⟩
    simp only[Option.bind_eq_some_iff]at hx;obtain⟨out,k1,k2⟩:=hx;simp only[iw]at k1
    split at k1
    ·cases k1
    ·rename_i hd;simp only[Option.bind_eq_some_iff,Option.map_eq_some_iff]at k1;obtain⟨b,k3,s,k4,k5⟩:=k1;have k6:=g b (by
      cases pl with
      |true=>exact .inl rfl
      |false=>exact .inr (by simpa using hd)) k3
     have k7:=VQ k2;have k8:=(dQ s).1;rw[←k5,dw,dw]at k7;omega
   exact aH.ite (fun _=>aH.now fin) fun _=>aH.now fin
  have cont:(pl=true∨aN p=false)→aH (fun k=>(qb.f k p ((AQ pl ps:Nat):Int) G pl c false).bind fun r3=>(if a2.length+r3.2.2.length≤1759218604441 then(qa.lG k G pl (partsOf t) eo (IntKind.i64.wrap ((IntKind.i64.wrap (i+((AQ pl ps:Nat):Int)))+(1:Int))) r3.1 r3.2.1 (a2++r3.2.2)) else none))
    (LK ((iw pl m G 0 (p::ps)).bind fun out=>nR m G eo (a2++out)) cc):=by
   intro hpd;have hz:pl=true→AQ pl ps=0:=fun h=>by unfold AQ;rw[h];rfl
   refine aH.bind (hp p hpm (AQ pl ps) (by omega) hz c (by omega) (by omega)) ?_
   rintro⟨c3,b3,l3⟩ ⟨z0,hz'⟩;simp only at z0;have hcap:a2.length+l3.length≤1759218604441:=by omega
   have w1:IntKind.i64.wrap (IntKind.i64.wrap (i+((AQ pl ps:Nat):Int))+1)=i+1+((AQ pl ps:Nat):Int):=by rw[eu (x:=i+((AQ pl ps:Nat):Int)) (by omega) (by omega),eu (by omega) (by omega)];omega
   simp only[if_pos hcap,w1];rcases hz' with⟨z1,z2,z3,z4⟩|⟨z1,z2⟩
   ·subst z1;obtain⟨l1,l2⟩:=hlen p hpm _ hz _ z2;have hdl:(partsOf t).drop (i+1+((AQ pl ps:Nat):Int)).toNat=ps.drop (AQ pl ps):=by
     rw[←hps,List.drop_drop];congr 1;omega
    have hcd:cnts (ps.drop (AQ pl ps))≤cnts ps:=by
     have:=dw (ps.take (AQ pl ps)) (ps.drop (AQ pl ps));rw[List.take_append_drop]at this;have:=(dQ (ps.take (AQ pl ps))).1;omega
    have hcd2:(2000000*cnts (ps.drop (AQ pl ps)))*V≤(2000000*cnts ps)*V:=Int.mul_le_mul_of_nonneg_right (by omega) (by omega)
    simp only at z2 z3 z4 l1 l2;have:=ih (i+1+((AQ pl ps:Nat):Int)) (a2++l3) c3 (by omega) (by omega) (by omega) hcc (by omega) (by rw[dw];omega) (by rw[List.length_append];omega) (by rw[hdl];omega)
    rw[hdl,←AV pl m G _ _ hlp]at this;have e2:((iw pl m G 0 (p::ps)).bind fun out=>nR m G eo (a2++out))=((iw pl m G (AQ pl ps) ps).bind fun out=>nR m G eo (a2++l3++out)):=by
     have hn: ¬(!pl&&aN p)=true:=by
      rcases hpd with h|h<;>simp[h]
     simp only[iw];rw[if_neg hn,z2,Option.bind_some];cases iw pl m G (AQ pl ps) ps with
     |none=>rfl
     |some b=>simp only[Option.map_some,Option.bind_some,List.append_assoc]
    rw[e2];exact this
   ·subst z1;exact bad _ _ (fun b _ hb=>z2 b hb) _
  have count:(pl=true∨aN p=false)→aH (fun k=>qa.Ir k (qa.f k) (qa.lG k) (qa.EP k) (qb.f k) (qb.l12 k) (qb.Ez k) G pl (partsOf t) eo i c false a2) (LK ((iw pl m G 0 (p::ps)).bind fun out=>nR m G eo (a2++out)) cc):=by
   intro hpd;simp only[qa.Ir];cases hpl:pl with
   |true=>
    have:=cont hpd;rw[hpl]at this;refine aH.shift ?_;simp only[qa.EP,not_true,if_false,if_pos i0,if_pos i1,hpe,ay];exact this
   |false=>
    have cont:=cont hpd;rw[hpl]at cont;have hld:AQ false ps=lead ps:=rfl;rw[hld]at cont;have go: ∀(r:Nat) (j:Nat),j+r=lead ps→aH (fun k=>qa.EP k G false (partsOf t) eo i (j:Int) c false a2) (LK ((iw false m G 0 (p::ps)).bind fun out=>nR m G eo (a2++out)) cc):=by
     intro r
     induction r with
     |zero=>
      intro j hj;have hj:j=lead ps:=by omega
      subst hj;refine aH.shift ?_;have w1:IntKind.i64.wrap (IntKind.i64.wrap (i+1)+((lead ps:Nat):Int))=i+1+((lead ps:Nat):Int):=by rw[eu (x:=i+1) (by omega) (by omega),eu (by omega) (by omega)]
      simp only[qa.EP,Bool.false_eq_true,not_false_eq_true,if_true,w1,hpe,ay]
      by_cases hlt:lead ps<ps.length
      ·have c1:i+1+((lead ps:Nat):Int)<((partsOf t).length:Int):=by omega
       have c0:(0:Int)≤i+1+((lead ps:Nat):Int):=by omega
       simp only[if_pos c1,if_pos c0,VN _ hlt];refine aH.bind (aH.of (mZ _) (P:=fun z=>z=aN (ps[lead ps])) rfl) fun z hz=> ?_
       subst hz;rw[IQ ps hlt];simp only[Bool.false_eq_true,if_false,if_pos i0,if_pos i1];exact cont
      ·have c1: ¬i+1+((lead ps:Nat):Int)<((partsOf t).length:Int):=by omega
       simp only[if_neg c1,if_pos i0,if_pos i1];exact cont
     |succ r ihr=>
      intro j hj;refine aH.shift ?_;have hjl:j<ps.length:=by omega
      have w1:IntKind.i64.wrap (IntKind.i64.wrap (i+1)+(j:Int))=i+1+(j:Int):=by rw[eu (x:=i+1) (by omega) (by omega),eu (by omega) (by omega)]
      have w2:IntKind.i64.wrap ((j:Int)+1)=((j+1:Nat):Int):=by rw[eu (by omega) (by omega)];omega
      have c1:i+1+(j:Int)<((partsOf t).length:Int):=by omega
      have c0:(0:Int)≤i+1+(j:Int):=by omega
      simp only[qa.EP,Bool.false_eq_true,not_false_eq_true,if_true,w1,if_pos c1,if_pos c0,VN _ hjl,ay];refine aH.bind (aH.of (mZ _) (P:=fun z=>z=aN (ps[j])) rfl) fun z hz=> ?_
      subst hz;rw[Em ps j (by omega) hjl]
      simp only[if_true,w2];exact ihr (j+1) (by omega)
    exact go (lead ps) 0 (by omega)
  refine aH.shift ?_;simp only[qa.lG,if_pos i1,Bool.false_eq_true,not_false_eq_true,if_true,qa.zD]
  by_cases hpl:pl=true
  ·simp only[hpl,not_true,if_false];have:=count (.inl hpl);rw[hpl]at this;exact this
  ·have hpf:pl=false:=by simpa using hpl
   simp only[if_pos hpl,if_pos i0,hpe,ay];refine aH.bind (aH.of (mZ p) (P:=fun z=>z=aN p) rfl) fun z hz=> ?_
   subst hz;cases hdp:aN p with
   |false=>
    simp only[Bool.false_eq_true,if_false];exact count (.inr hdp)
   |true=>
    simp only[if_true,q2z.f,Option.bind_some];refine aH.now (.inr ⟨rfl,fun x hx=> ?_⟩)
    simp only[iw,hpf,hdp,Bool.not_false,Bool.true_and,if_true,Option.bind_none]at hx;cases hx
theorem xA (x:af) (c:Int) (M:Option af) (hM:M=some x) (hw:wid x≤2000000) (h0:0≤c) (hc:c≤100000000000000000):aH (fun k=>(vS.f k x).bind fun r2=>((I7.f k r2 c false).bind fun r3=>(some (r3.1,r3.2.1,r3.2.2)))) (fun r=>wid r.1≤2000000∧LK M c r):=by
 refine aH.bind (aH.of (Qk x (by omega)) (P:=fun r=>r=x) rfl) fun r hr=> ?_
 subst hr;refine aH.bind (aH.of (Lm r c (by omega) h0 (by omega)) (P:=fun q=>q=(r,c+cnt r,decide (6000<c+cnt r))) rfl) fun q hq=> ?_
 subst hq;have hp:=(dm r).1;refine aH.now ⟨hw,?_⟩
 by_cases h:6000<c+cnt r
 ·exact .inr ⟨decide_eq_true h,fun x hx=>by rw[hM]at hx;injection hx with hx;rw[←hx];exact h⟩
 ·exact .inl ⟨decide_eq_false h,hM,by show c≤c+cnt r;omega,Int.le_refl _⟩
theorem vN (t:af) (h12:t.ak=1∨t.ak=2) {G:GL} (hG:iW G) (pl:Bool) (c:Int) (hw:wid t≤2000000) (h0:0≤c) (hc:c≤100000000000000000):aH (fun k=>qa.f k t G pl c false) (fun r=>wid r.1≤2000000∧LK (if t.ak=1 then xu G t else some t) c r):=by
 refine aH.shift ?_;rcases h12 with h1|h2
 ·simp only[qa.f,Bool.false_eq_true,if_false,if_pos h1,ay];refine aH.bind (aH.of (Ll G t hG.sml) (P:=fun r=>r=dM 0 G t) rfl) fun r hr=> ?_
  subst hr
  by_cases hn:dM 0 G t<0
  ·simp only[if_pos hn];exact xA t c _ (by unfold xu;rw[if_pos hn]) hw h0 hc
  ·obtain⟨g0,g1⟩:=qI hn;have hm:aF az G (dM 0 G t)∈G:=dF _ _ _ g0 g1;have hf:=((mg _).1 (hG.wd _ hm)).2.1;have hd0:=(pK (hG.got _ hm)).2.2.1;simp only[if_neg hn,if_pos g0,if_pos g1]
   by_cases hd:0<(aF az G (dM 0 G t)).bu
   ·simp only[if_pos hd,q2z.f,Option.bind_some];refine aH.now ⟨by show wid ⟨0,ByteArray.empty,[],0,[]⟩≤_;rw[gU];simp[bG],.inr ⟨rfl,fun x hx=> ?_⟩⟩
    unfold xu at hx;rw[if_neg hn,if_neg (by omega)]at hx
    cases hx
   ·simp only[if_neg hd];exact xA _ c _ (by unfold xu;rw[if_neg hn,if_pos (by omega)]) hf h0 hc
 ·have n1: ¬t.ak=1:=by omega
  simp only[qa.f,Bool.false_eq_true,if_false,if_neg n1,if_pos h2,ay];exact xA t c _ rfl hw h0 hc
theorem En {G:GL} {t:af} {e:Int} (hok:jl t e=true) (h12:t.ak=1∨t.ak=2):iJ G t=(if t.ak=1 then xu G t else some t):=by
 rw[oQ]
 by_cases h1:t.ak=1
 ·rw[if_pos h1,if_pos h1]
 ·have hk:t.aj= []:=by
   rcases bU hok with⟨h,_⟩|⟨_,h⟩|⟨h,_⟩
   ·omega
   ·exact h
   ·omega
  rw[if_neg h1,if_neg h1,hk];simp only[dN,Option.map_some,mD,if_neg (show¬t.ak=4 by omega)]
  have:(⟨t.ak,t.aG,t.aB,t.aI,[]⟩:af)=t:=by rw[←hk];exact aJ t
  rw[this]
theorem GG {G:GL} {t:af} (n:Nat) (h12:t.ak=1∨t.ak=2):gQ (n+1) t G=(if t.ak=1 then xu G t else some t):=by
 simp only[gQ]
 split
 ·rfl
 ·rw[if_pos (by omega)]
theorem Eo (G:GL): ∀(l:List af) (y:af),dN G (l++ [y])=(dN G l).bind fun ks=>(iJ G y).map fun z=>ks++ [z]
 | [],y=>by
  simp only[List.nil_append,dN,Option.bind_some];cases iJ G y<;>rfl
 |x::l,y=>by
  simp only[List.cons_append,dN,Eo G l y];cases iJ G x with
  |none=>rfl
  |some a=>
   cases dN G l with
   |none=>rfl
   |some b=>simp only[Option.bind_some,Option.map_some];cases iJ G y<;>rfl
theorem SA {G:GL} {t:af} {e:Int} (hok:jl t e=true) (h1: ¬t.ak=1) (h2: ¬t.ak=2):iJ G t=(dN G (partsOf t)).bind fun out=>nR (fun p G=>iJ G p) G (if t.ak=4 then some (lastOf t) else none) out:=by
 have he:=yF hok h1 h2;rw[oQ,if_neg h1]
 by_cases h4:t.ak=4
 ·have h5:2≤(t.aj.length:Int):=by
   rcases bU hok with⟨h,_⟩|⟨h,_⟩|⟨h,_⟩<;>omega
  conv=>lhs;rw[←ng h5 h4,Eo]
  simp only[if_pos h4,nR];cases dN G (partsOf t) with
  |none=>rfl
  |some ks=>
   simp only[Option.bind_some];cases iJ G (lastOf t) with
   |none=>rfl
   |some z=>
    simp only[Option.map_some,mD,if_pos h4,List.length_append,List.length_singleton];rw[show ks.length+1-1=ks.length by omega,List.take_left,show((ks.length+1:Nat):Int)-1=(ks.length:Int) by omega,UJ (l:=ks) (r:= []) rfl]
 ·have h3:t.ak=3:=by
   rcases bU hok with⟨h,_⟩|⟨h,_⟩|⟨h,_⟩<;>omega
  have e1:partsOf t=t.aj:=by unfold partsOf;rw[if_neg h4]
  simp only[if_neg h4,nR,e1];cases dN G t.aj with
  |none=>rfl
  |some ks=>
   simp only[Option.map_some,Option.bind_some,mD,if_neg h4];rw[he,h3]
theorem Ep {t:af} (hw:wid t≤2000000):(∀p∈partsOf t,p∈t.aj)∧cnts (partsOf t)≤cnts t.aj:=by
 constructor
 ·intro p hp';unfold partsOf at hp'
  split at hp'
  ·exact List.mem_of_mem_take hp'
  ·exact hp'
 ·unfold partsOf
  split
  ·have:=dw (t.aj.take (t.aj.length-1)) (t.aj.drop (t.aj.length-1));rw[List.take_append_drop]at this;have:=(dQ (t.aj.drop (t.aj.length-1))).1;omega
  ·exact Int.le_refl _
theorem GH (pl:Bool) (t:af) (hw:wid t≤2000000) (hs:t.ak=3∨(t.ak=4∧2≤(t.aj.length:Int))) (G:GL) (c:Int) (M:Option af)
  (hnd:pl=false→ ¬(t.ak=3∧(t.aj.length=2∧aS t.aj=true)))
  (hl:aH (fun k=>qa.lG k G pl (partsOf t) (if t.ak=4 then some (lastOf t) else none) 0 c false []) (LK M c)):aH (fun k=>qa.f k t G pl c false) (LK M c):=by
 have htp:=aW t;have n1: ¬t.ak=1:=by omega
 have n2: ¬t.ak=2:=by omega
 refine aH.shift ?_;have main:aH (fun k=>qa.Bo k (qa.f k) (qa.lG k) (qa.EP k) (qb.f k) (qb.l12 k) (qb.Ez k) G pl false c false t.ak t.aG t.aB t.aI t.aj) (LK M c):=by
  simp only[qa.Bo,Bool.false_eq_true,if_false,aJ];exact aH.bind (aH.of (pz t (by omega) hs) (P:=fun r=>r=(partsOf t,if t.ak=4 then some (lastOf t) else none)) rfl) fun r hr=>by subst hr;exact hl
 simp only[qa.f,Bool.false_eq_true,if_false,if_neg n1,if_neg n2,ay];cases hpl:pl with
 |true=>rw[hpl]at main;simp only[not_true,if_false];exact main
 |false=>
  rw[hpl]at main;simp only[Bool.false_eq_true,not_false_eq_true,if_true]
  by_cases h3:t.ak=3
  ·by_cases h2:(t.aj.length:Int)=2
   ·have c0:(0:Int)<(t.aj.length:Int):=by omega
    simp only[if_pos h3,if_pos h2,if_pos c0];refine aH.bind (aH.of (mZ _) (P:=fun z=>z=aN (aF ah t.aj 0)) rfl) fun z hz=> ?_
    subst hz;have hhd:aS t.aj=aN (aF ah t.aj 0):=by
     cases hk:t.aj with
     |nil=>rw[hk]at c0;simp at c0
     |cons a l=>rfl
    cases hd:aN (aF ah t.aj 0) with
    |true=>exact absurd ⟨h3,by omega,by rw[hhd,hd]⟩ (hnd hpl)
    |false=>exact main
   ·simp only[if_pos h3,if_neg h2];exact main
  ·simp only[if_neg h3];exact main
theorem OO {G:GL} (hG:iW G): ∀(t:af) (e:Int),jl t e=true→wid t≤2000000→cnt t≤1500→ ∀c,0≤c→c+(2000000*cnt t)*1≤100000000000000000→aH (fun k=>qa.f k t G true c false) (LK (iJ G t) c):=by
 refine dX fun t ih e hok hw hc c c0 c1=> ?_
 have hct:=jh t;have hcp:=(dm t).1
 by_cases h12:t.ak=1∨t.ak=2
 ·rw[En hok h12];exact(vN t h12 hG true c hw c0 (by omega)).mono fun r hr=>hr.2
 have h1: ¬t.ak=1:=fun h=>h12 (.inl h)
 have h2: ¬t.ak=2:=fun h=>h12 (.inr h)
 rcases rG hok h1 with h2'|⟨hs,hks,_⟩
 ·exact absurd h2' h2
 obtain⟨f1,f2⟩:=Ep hw;refine GH true t hw hs G c _ (fun h=>by cases h) ?_
 rw[SA hok h1 h2,←AU G (partsOf t)];have bd: ∀p∈partsOf t,∀x,iJ G p=some x→cnt x≤2000000*cnt p:=fun p hp x hx=>by
  have hk:=f1 p hp;have h1:=LG hG p (e+1) (hks p hk) (by have:=bZ hk;have:=aW t;omega) x hx
  have:=(dm x).2;omega
 have key:=Gz true t hw hc f1 f2 hG (fun p G=>iJ G p) (if t.ak=4 then some (lastOf t) else none) c 1 (by omega) (fun p hp d _ hd c c0 c1=>by
   have hd:d=0:=hd rfl;subst hd;have hk:=f1 p hp;have:=bZ hk;have:=l_ hk;have:=aW t;refine(Gy p G true c (iJ G p) (ih p hk (e+1) (hks p hk) (by omega) (by omega) c c0 c1)).mono fun r hr=>⟨by have:=hr.1;omega,hr.2⟩) (fun p hp d hd out ho=>by
   have hd:d=0:=hd rfl;subst hd;simp only[gp,Option.map_eq_some_iff]at ho;obtain⟨x,x1,x2⟩:=ho;have:=bd p hp x x1;rw[←x2];simp only[cnts,List.length_singleton];omega) (fun e' he' c c0 c1=>by
   split at he'
   ·rename_i h4;injection he' with he'
    subst he';have hl:lastOf t∈t.aj:=dF _ _ _ (by omega) (by omega)
    have hsl:=lK hok h4;have:=bZ hl;have:=aW t;rw[En (hks _ hl) hsl];exact vN _ hsl hG true c (by omega) c0 c1
   ·cases he') (partsOf t).length 0 [] c (by omega) (by omega) (by omega) c0 (Int.le_refl _) (by simp[cnts]) (by simp) (by rw[Int.toNat_zero,List.drop_zero];omega)
 rw[Int.toNat_zero,List.drop_zero]at key;exact key
theorem VR: ∀(n:Nat) (t:af) (e:Int),cnt t≤(n:Int)→jl t e=true→wid t≤2000000→cnt t≤1500→ ∀G,iW G→ ∀c,0≤c→c+(2000000*cnt t)*vb G (dV [] t)≤100000000000000000→aH (fun k=>qa.f k t G false c false) (LK (gQ n t G) c):=by
 intro n
 induction n with
 |zero=>intro t e hc;have:=(dm t).1;omega
 |succ n ih=>
  intro t e hn hok hw hc G hG c c0 c1;have hct:=jh t;have hcp:=(dm t).1;have htp:=aW t;have hnc:=oN t;have hv:=jK hG (dV [] t);have hmn:(2000000*cnt t)*1≤(2000000*cnt t)*vb G (dV [] t):=Int.mul_le_mul_of_nonneg_left hv.1 (by omega)
  by_cases h12:t.ak=1∨t.ak=2
  ·rw[GG n h12];exact(vN t h12 hG false c hw c0 (by omega)).mono fun r hr=>hr.2
  have h1: ¬t.ak=1:=fun h=>h12 (.inl h)
  have h2: ¬t.ak=2:=fun h=>h12 (.inr h)
  rcases rG hok h1 with h2'|⟨hs,hks,_⟩
  ·exact absurd h2' h2
  obtain⟨f1,f2⟩:=Ep hw;have hsub: ∀p∈t.aj,cnt p≤(n:Int)∧wid p≤2000000∧cnt p≤1500:=fun p hp=>by
   have:=l_ hp;have:=bZ hp;omega
  by_cases hnd:t.ak=3∧(t.aj.length=2∧aS t.aj=true)
  ·have hl1:aF ah t.aj 1∈t.aj:=dF _ _ _ (by omega) (by have:=hnd.2.1;omega)
   have e1:gQ (n+1) t G=iJ G (aF ah t.aj 1):=by
    simp only[gQ,if_neg h1,if_neg h2];rw[if_pos hnd]
   rw[e1];have l2:(t.aj.length:Int)=2:=by have:=hnd.2.1;omega
   have p0:(0:Int)<(t.aj.length:Int):=by omega
   have p1:(1:Int)<(t.aj.length:Int):=by omega
   have hd:aN (aF ah t.aj 0)=true:=by
    have:=hnd.2.2;cases hk:t.aj with
    |nil=>rw[hk]at p0;simp at p0
    |cons a l=>rw[hk]at this;exact this
   refine aH.shift ?_;simp only[qa.f,Bool.false_eq_true,if_false,if_neg h1,if_neg h2,not_false_eq_true,if_true,if_pos hnd.1,if_pos l2,if_pos p0,ay];refine aH.bind (aH.of (mZ _) (P:=fun z=>z=aN (aF ah t.aj 0)) rfl) fun z hz=> ?_
   subst hz;rw[hd];simp only[qa.Bo,if_true,if_pos p1,ay];have hcl:=l_ hl1;refine aH.bind (OO hG _ (e+1) (hks _ hl1) (hsub _ hl1).2.1 (hsub _ hl1).2.2 c c0 (by omega)) fun r hr=> ?_
   exact aH.now hr
  ·refine GH false t hw hs G c _ (fun _=>hnd) ?_
   have e1:gQ (n+1) t G=(iw false (gQ n) G 0 (partsOf t)).bind fun out=>nR (gQ n) G (if t.ak=4 then some (lastOf t) else none) ([]++out):=by
    simp only[gQ,if_neg h1,if_neg h2,if_neg hnd,sW,List.nil_append]
    congr 1
    funext out
    by_cases h4:t.ak=4
    ·simp only[if_pos h4,nR]
    ·simp only[if_neg h4,nR]
   rw[e1];have hvb: ∀p∈t.aj,vb G (dV [] p)≤vb G (dV [] t):=fun p hp'=>by
    have:=Qp hG hp';have e:dV [] t=dY [] t.aj:=by rw[iQ,if_neg h1]
    rw[e];unfold vb;omega
   have hbd: ∀p∈t.aj,∀G,iW G→ ∀x,gQ n p G=some x→wid x≤(2000000*cnt p)*vb G (dV [] p):=fun p hp G' hG' x hx=>sU n p (e+1) G' (hks p hp) (hsub p hp).2.1 hG' x hx
   have key:=Gz false t hw hc f1 f2 hG (gQ n) (if t.ak=4 then some (lastOf t) else none) c (vb G (dV [] t)) hv.1 (fun p hp d hd _ c c0 c1=>by
     have hk:=f1 p hp;have hcp:=(dm p).1;have hm:(2000000*cnt p)*vb G (dV [] p)≤(2000000*cnt p)*vb G (dV [] t):=Int.mul_le_mul_of_nonneg_left (hvb p hk) (by omega)
     have hvp:=jK hG (dV [] p);have hnp:=oN p;have hs3:=(hsub p hk).2.2;exact(VO p (e+1) (hks p hk) (hsub p hk).2.1 (hsub p hk).2.2 (gQ n p) (fun G' hG' c' h0 h1=>ih p (e+1) (hsub p hk).1 (hks p hk) (hsub p hk).2.1 (hsub p hk).2.2 G' hG' c' h0 h1) (hbd p hk) d hd G hG c c0 (by omega)).mono fun r hr=>⟨by have:=hr.1;omega,hr.2⟩) (fun p hp d _ out ho=>by
     have hk:=f1 p hp;have hcp:=(dm p).1;have hm:(2000000*cnt p)*vb G (dV [] p)≤(2000000*cnt p)*vb G (dV [] t):=Int.mul_le_mul_of_nonneg_left (hvb p hk) (by omega)
     have hvp:=jK hG (dV [] p);have hnp:=oN p;have hs3:=(hsub p hk).2.2;obtain⟨q1,q2⟩:=nM (by omega) (hbd p hk) d G hG out ho
     have:=(dQ out).2;omega) (fun e' he' c c0 c1=>by
     split at he'
     ·rename_i h4;injection he' with he'
      subst he';have hl:lastOf t∈t.aj:=dF _ _ _ (by omega) (by omega)
      have hsl:=lK hok h4;have hn1: ∃n',n=n'+1:=⟨n-1,by have:=(dm (lastOf t)).1;have:=(hsub _ hl).1;omega⟩
      obtain⟨n',rfl⟩:=hn1;rw[GG n' hsl];exact vN _ hsl hG false c (hsub _ hl).2.1 c0 c1
     ·cases he') (partsOf t).length 0 [] c (by omega) (by omega) (by omega) c0 (Int.le_refl _) (by simp[cnts]) (by simp) (by
     rw[Int.toNat_zero,List.drop_zero];have:(2000000*cnts (partsOf t))*vb G (dV [] t)≤(2000000*cnt t)*vb G (dV [] t):=Int.mul_le_mul_of_nonneg_right (by omega) (by omega)
     omega)
   rw[Int.toNat_zero,List.drop_zero]at key;exact key
theorem vk (t:af) (G:GL) (hw:wid t≤2000000) (hl:(G.length:Int)≤1000000000) (hwd: ∀g∈G,Gt g) (hv: ∀g∈G,gv g≤1500):Ev (fun k=>EC.f k t G) (mG t G):=by
 simp only[EC.f,ay,mG];refine Ev.bind (jF t (by omega)) ?_
 cases hok:okb t with
 |false=>simp only[Bool.false_eq_true,not_false_eq_true,if_true,if_false];exact Ev.now _
 |true=>
  simp only[not_true,if_false,if_true];refine dG G (P:=fun i suf=>(gW (-1) suf=gW (-1) G)→Ev (fun k=>EC.l4 k G G (G.length:Int) i t.ak t.aG t.aB t.aI t.aj) (if gW (-1) G then(match gQ (cnt t).toNat t G with
  |some f=>if okb f then(f,true) else(ah,false)
  |none=>(ah,false)) else(ah,false))) ?_ ?_ rfl
  ·intro hg;have hg:gW (-1) G=true:=by rw[←hg];simp only[gW]
   have hG:iW G:=⟨hg,hwd,hv,hl⟩;refine Ev.shift ?_;have nl: ¬(G.length:Int)<(G.length:Int):=Int.lt_irrefl _;have hok2:jl t 0=true∧cnt t≤1500:=by unfold okb leB at hok;simpa using hok
   have hcp:=(dm t).1;have hn:=Ej hcp hok2.2 (jK hG (dV [] t)).1 (by have:=(jK hG (dV [] t)).2;have:=oN t;omega)
   simp only[EC.l4,if_neg nl,aJ,hg,if_true];obtain⟨r,hr,hev⟩:=VR (cnt t).toNat t 0 (by omega) hok2.1 hw hok2.2 G hG 0 (by omega) (by omega)
   refine Ev.bind hev ?_;rcases hr with⟨r1,r2,_,_⟩|⟨r1,r2⟩
   ·have hb:=sU _ _ _ _ hok2.1 hw hG _ r2;simp only[r1,Bool.false_eq_true,if_false,ay,r2];refine Ev.bind (jF r.1 (by omega)) ?_
    cases okb r.1 with
    |false=>simp only[Bool.false_eq_true,not_false_eq_true,if_true,if_false];exact Ev.now _
    |true=>simp only[not_true,if_false,if_true];exact Ev.now _
   ·simp only[r1,if_true];refine Ev.eq (Ev.now _) ?_;cases hm:gQ (cnt t).toNat t G with
    |none=>rfl
    |some x=>
     have:=r2 x hm;have:okb x=false:=by
      unfold okb leB;rw[decide_eq_false (by omega)];simp
     simp only[this,Bool.false_eq_true,if_false];rfl
  ·intro i x r i0 i1 hx hm _ _ _ ih hg;have hneg:decide ((-1:Int)<0)=true:=by decide
   simp only[gW,hneg,Bool.true_or,Bool.true_and]at hg;refine Ev.shift ?_;simp (disch:=omega) only[EC.l4,if_pos,hx,ay,uO,eu];refine Ev.bind (Sl x (hwd x hm) (by have:=hv x hm;omega)) ?_
   cases hgx:yD x with
   |true=>
    rw[hgx,Bool.true_and]at hg;simp only[not_true,if_false];exact ih hg
   |false=>
    rw[hgx,Bool.false_and]at hg;simp only[←hg,Bool.false_eq_true,not_false_eq_true,if_true,if_false];exact Ev.now _
theorem LM (l:List Int) (hl:(l.length:Int)≤1000000000000000000):Ev (fun k=>I_.f k l l) true:=by
 simp only[I_.f,not_true,if_false];refine dG l (P:=fun i suf=>Ev (fun k=>I_.l4 k l l i) true) ?_ ?_
 ·refine Ev.shift ?_;simp (disch:=omega) only[I_.l4,if_neg];exact Ev.now _
 ·intro i x r i0 i1 hx _ _ _ _ ih;refine Ev.shift ?_;simp (disch:=omega) only[I_.l4,if_pos,hx,eu,not_true,if_false];exact ih
theorem vw: ∀x:af,wid x≤1000000000000000000→Ev (fun k=>Iz.f k x x) true:=by
 refine dX fun x ih hw=> ?_
 have hp:=aW x;refine Ev.shift ?_;simp only[Iz.f,if_true];refine Ev.bind (LM x.aB (by omega)) ?_
 simp only[if_true];refine Ev.bind (r:=true) ?_ (Ev.now _);refine Ev.shift ?_;simp only[KQ.f,not_true,if_false];refine dG x.aj (P:=fun i suf=>Ev (fun k=>KQ.l4 k x.aj x.aj i) true) ?_ ?_
 ·refine Ev.shift ?_;simp (disch:=omega) only[KQ.l4,if_neg];exact Ev.now _
 ·intro i y r i0 i1 hx hm _ _ _ ihr;refine Ev.shift ?_;simp (disch:=omega) only[KQ.l4,if_pos,hx,eu,ay];refine Ev.bind (ih y hm (by have:=bZ hm;omega)) ?_
  simp only[not_true,if_false];exact ihr
theorem aH.and {α:Type} {g:Nat→Option α} {P Q:α→Prop} (h:aH g P) (h':aH g Q):aH g fun r=>P r∧Q r:=by
 obtain⟨r,p,e⟩:=h;obtain⟨s,q,e'⟩:=h';have:=e.det e';subst this;exact⟨r,⟨p,q⟩,e⟩
mutual
def AX:af→Bool
 |⟨_,t,_,_,ks⟩=> !decide (bytesOf t= [46,46,46])&&zX ks
def zX:List af→Bool
 | []=>true
 |x::l=>AX x&&zX l
end
theorem OQ (x:af):AX x=(!decide (bytesOf x.aG= [46,46,46])&&zX x.aj):=by cases x;simp only[AX]
theorem yO {l:List af}:zX l=true↔ ∀x∈l,AX x=true:=by
 induction l with
 |nil=>simp[zX]
 |cons x l ih=>simp[zX,ih]
def Nd (n:Int) (x:af):Prop:=lk x≤n∧AX x=true
theorem Zw {n:Int} (h0:0≤n) {l:List af} {c:Int} (hc:(l.length:Int)≤c) (h: ∀y∈l,lk y≤n):jA l≤c*n:=by
 have key:jA l≤(l.length:Int)*n:=by
  induction l with
  |nil=>simp[jA]
  |cons y l ih=>
   have h1:=h y (by simp)
   have h2:=ih (by simp only[List.length_cons]at hc;omega) (fun z hz=>h z (List.mem_cons_of_mem _ hz))
   simp only[jA,List.length_cons,Int.natCast_add,Int.add_mul];omega
 have:(l.length:Int)*n≤c*n:=Int.mul_le_mul_of_nonneg_right hc h0;omega
theorem yP (l:List af):(l.length:Int)≤jA l:=by
 induction l with
 |nil=>simp[jA]
 |cons y l ih=>
  have:=(iY y).2;simp only[jA,List.length_cons,Int.natCast_add];omega
theorem xB (l:List af):0≤jA l:=by have:=yP l;omega
theorem Qr {n:Int} (hn:70≤n) {s fr:Int} {l:List af} (hl:(l.length:Int)≤3) (h: ∀y∈l,Nd n y):Nd (12*n+400) ⟨s,ByteArray.empty,[],fr,l⟩:=by
 have:=Zw (by omega) hl fun y hy=>(h y hy).1
 refine⟨by rw[lH];simp only[List.length_nil,show ByteArray.empty.size=0 from rfl];omega,?_⟩
 have e:(bytesOf ByteArray.empty= [46,46,46])=False:=by simp;decide
 simp only[AX,e,decide_false,Bool.not_false,Bool.true_and];exact yO.2 fun y hy=>(h y hy).2
theorem VS {b:List Int} {p:Int} (hb:yY b) (h0:0≤p) (hp:p≤1000000000000):aH (fun k=>qn.f k b p) (fun r=>On b p 5 r.2∧Nd 70 r.1):=by
 simp only[qn.f];refine aH.bind (AL _ hb h0 (by omega) (by decide)) fun r ⟨h1,h2⟩=> ?_
 have hs:r.1.size≤4:=by
  simp only[List.mem_cons,List.not_mem_nil,or_false]at h2;rcases h2 with h|h|h|h<;>rw[h]<;>decide
 have ht: ¬bytesOf r.1= [46,46,46]:=by
  simp only[List.mem_cons,List.not_mem_nil,or_false]at h2;rcases h2 with h|h|h|h<;>rw[h]<;>decide
 rw[h1];refine aH.bind (bT 9 hb (by show 0≤p+1;omega) (by show p+1≤_;omega)) fun q ⟨h3,h4,_⟩=> ?_
 rw[h3];refine goUp 3 (P:=fun i=>0≤i→i≤3→ ∀(p':Int) (a:List Int),(a.length:Int)≤i→p'=p+2+i→aH (fun k=>qn.l3 k i b p' 1 r.1 q.1 [] a) (fun r=>On b p 5 r.2∧Nd 70 r.1)) ?_ ?_ 0 (by omega) (by omega) _ [] (by simp) (by show p+1+1=_;omega)
 ·intro i hi _ hi3 p' a ha hp';refine aH.shift ?_;simp (disch:=omega) only[qn.l3,if_neg];refine aH.now ⟨⟨rfl,?_,?_⟩,?_⟩
  ·show p≤p';omega
  ·show p'≤p+5;omega
  ·exact⟨by rw[lH];simp only[jA];omega,by simp[AX,zX,ht]⟩
 ·intro i hi ih h0i _ p' a ha hp';refine aH.shift ?_;simp (disch:=omega) only[qn.l3,if_pos];refine aH.bind (bT 3 hb (by omega) (by omega)) fun s ⟨h5,h6,_⟩=> ?_
  rw[h5];refine aH.ite (fun _=> ?_) (fun _=> ?_)
  ·simp (disch:=omega) only[if_pos,List.length_singleton,eu];exact ih (by omega) (by omega) _ _ (by simp;omega) (by show p'+1=_;omega)
  ·simp (disch:=omega) only[eu];exact ih (by omega) (by omega) _ _ (by omega) (by show p'+1=_;omega)
def ll:Nat→Int
 |0=>70
 |d+1=>12*ll d+400
theorem LP (d:Nat):70≤ll d:=by
 induction d with
 |zero=>decide
 |succ d ih=>simp only[ll];omega
def IU (b:List Int) (d:Nat):Prop:= ∀p:Int,0≤p→p+steps d≤1000000000000→aH (fun k=>q7.f k (d:Int) b p) (fun r=>On b p (steps d) r.2∧Nd (ll d) r.1)
theorem SB {b:List Int} (hb:yY b) (d:Nat) (hd:d≤1000) (ih:IU b d) (p0:Int) (h00:0≤p0) (hp0:p0+3*steps d+9≤1000000000000): ∀(n:Int) (p:Int) (a:List af),p0≤p→n≤2→0≤n→
  (a.length:Int)+n≤2→(∀y∈a,Nd (ll d) y)→p≤p0+2+(2-n)*steps d→aH (fun k=>q7.l12 k ((d:Int)+1) n b p 4 ByteArray.empty [] 0 a) (fun r=>On b p0 (steps (d+1)) r.2∧Nd (ll (d+1)) r.1):=by
 have hl:=qQ d;have hll:=LP d;intro n;refine goDown (P:=fun n=> ∀(p:Int) (a:List af),p0≤p→n≤2→0≤n→(a.length:Int)+n≤2→(∀y∈a,Nd (ll d) y)→p≤p0+2+(2-n)*steps d→aH (fun k=>q7.l12 k ((d:Int)+1) n b p 4 ByteArray.empty [] 0 a) (fun r=>On b p0 (steps (d+1)) r.2∧Nd (ll (d+1)) r.1)) ?_ ?_ n
 ·intro i hi p a h1 h2 h3 h4 h5 h6;obtain rfl:i=0:=by omega
  refine aH.shift ?_;simp (disch:=omega) only[q7.l12,if_neg,q7.d15];refine aH.bind (VS hb (by omega) (by omega)) fun r ⟨⟨g1,g2,g3⟩,g4⟩=> ?_
  simp (disch:=omega) only[if_pos,List.length_singleton,ay];refine aH.now ⟨⟨g1,by show _≤r.2.2;omega,by show r.2.2≤_;simp only[steps];omega⟩,?_⟩
  refine Qr hll (by rw[List.length_append,List.length_singleton];omega) fun y hy=> ?_
  rcases List.mem_append.1 hy with hy|hy
  ·exact h5 y hy
  ·rw[List.mem_singleton.1 hy];exact⟨by have:=g4.1;omega,g4.2⟩
 ·intro i hi ihi p a h1 h2 h3 h4 h5 h6;refine aH.shift ?_;have e:(2-(i-1))*steps d=(2-i)*steps d+steps d:=by rw[show 2-(i-1)=(2-i)+1 by omega,Int.add_mul,Int.one_mul]
  have h8:(2-i)*steps d≤1*steps d:=Int.mul_le_mul_of_nonneg_right (by omega) (by omega)
  simp (disch:=omega) only[q7.l12,if_pos,q7.Ii,eu,Int.add_sub_cancel];refine aH.bind (ih p (by omega) (by omega)) fun r ⟨⟨g1,g2,g3⟩,g4⟩=> ?_
  simp (disch:=omega) only[if_pos,List.length_singleton,ay];rw[g1];refine ihi _ _ (by omega) (by omega) (by omega) (by simp;omega) ?_ (by omega)
  intro y hy;rcases List.mem_append.1 hy with hy|hy
  ·exact h5 y hy
  ·rw[List.mem_singleton.1 hy];exact g4
theorem SC {b:List Int} (hb:yY b) (d:Nat) (hd:d≤1000) (ih:IU b d) (p0:Int) (h00:0≤p0) (hp0:p0+3*steps d+9≤1000000000000): ∀(n:Int) (p:Int) (a:List af),p0≤p→n≤3→0≤n→
  (a.length:Int)+n≤3→(∀y∈a,Nd (ll d) y)→p≤p0+2+(3-n)*steps d→aH (fun k=>q7.tX k ((d:Int)+1) n b p 3 ByteArray.empty [] 0 a) (fun r=>On b p0 (steps (d+1)) r.2∧Nd (ll (d+1)) r.1):=by
 have hl:=qQ d;have hll:=LP d;intro n;refine goDown (P:=fun n=> ∀(p:Int) (a:List af),p0≤p→n≤3→0≤n→(a.length:Int)+n≤3→(∀y∈a,Nd (ll d) y)→p≤p0+2+(3-n)*steps d→aH (fun k=>q7.tX k ((d:Int)+1) n b p 3 ByteArray.empty [] 0 a) (fun r=>On b p0 (steps (d+1)) r.2∧Nd (ll (d+1)) r.1)) ?_ ?_ n
 ·intro i hi p a h1 h2 h3 h4 h5 h6;obtain rfl:i=0:=by omega
  refine aH.shift ?_;simp (disch:=omega) only[q7.tX,if_neg];refine aH.now ⟨⟨rfl,by show _≤p;omega,by show p≤_;simp only[steps];omega⟩,?_⟩
  exact Qr hll (by omega) h5
 ·intro i hi ihi p a h1 h2 h3 h4 h5 h6;refine aH.shift ?_;have e:(3-(i-1))*steps d=(3-i)*steps d+steps d:=by rw[show 3-(i-1)=(3-i)+1 by omega,Int.add_mul,Int.one_mul]
  have h8:(3-i)*steps d≤2*steps d:=Int.mul_le_mul_of_nonneg_right (by omega) (by omega)
  simp (disch:=omega) only[q7.tX,if_pos,q7.zC,eu,Int.add_sub_cancel];refine aH.bind (ih p (by omega) (by omega)) fun r ⟨⟨g1,g2,g3⟩,g4⟩=> ?_
  simp (disch:=omega) only[if_pos,List.length_singleton,ay];rw[g1];refine ihi _ _ (by omega) (by omega) (by omega) (by simp;omega) ?_ (by omega)
  intro y hy;rcases List.mem_append.1 hy with hy|hy
  ·exact h5 y hy
  ·rw[List.mem_singleton.1 hy];exact g4
theorem LQ {b:List Int} (hb:yY b): ∀d:Nat,d≤100→IU b d:=by
 intro d;have leaf: ∀(B:Nat→Option (af×List Int×Int)) (d:Nat) (p:Int) (x:Int),0≤p→p+steps d≤1000000000000→0≤x→
   (x=4∨4<x→aH (fun k=>q7.tu k (q7.f k) (q7.l12 k) (q7.tX k) (d:Int) x false b (p+1)) (fun r=>On b p (steps d) r.2∧Nd (ll d) r.1))→
   aH (fun k=>if x=0 then q7.tu k (q7.f k) (q7.l12 k) (q7.tX k) (d:Int) x true b (p+1) else q7.tu k (q7.f k) (q7.l12 k) (q7.tX k) (d:Int) x (decide (x=1)) b (p+1)) (fun r=>On b p (steps d) r.2∧Nd (ll d) r.1):=by
  intro _ d p x h0 hp hx h4;have hl:=qQ d;have hll:=LP d;have hid:aH (fun k=>(qn.f k b (p+1)).bind fun r1=>some (au r1.1,r1.2.1,r1.2.2)) (fun r=>On b p (steps d) r.2∧Nd (ll d) r.1):=by
   refine aH.bind (VS hb (by omega) (by omega)) fun r ⟨⟨g1,g2,g3⟩,g4⟩=> ?_
   exact aH.now ⟨⟨g1,by show _≤r.2.2;omega,by show r.2.2≤_;omega⟩,by show Nd _ (au r.1);rw[ay];exact⟨by have:=g4.1;omega,g4.2⟩⟩
  by_cases x0:x=0
  ·simp only[if_pos x0,q7.tu,if_true];exact hid
  by_cases x1:x=1
  ·subst x1;simp only[if_neg x0,q7.tu,decide_true,if_true];exact hid
  simp only[if_neg x0,decide_eq_false x1]
  by_cases x2:x=2
  ·subst x2;simp only[q7.tu,if_true,Bool.false_eq_true,if_false];refine aH.bind (AL _ hb (by omega) (by omega) (by decide)) fun r ⟨h1,h2⟩=> ?_
   rw[h1];have hs:r.1.size≤4:=by
    simp only[List.mem_cons,List.not_mem_nil,or_false]at h2;rcases h2 with h|h|h|h<;>rw[h]<;>decide
   have ht: ¬bytesOf r.1= [46,46,46]:=by
    simp only[List.mem_cons,List.not_mem_nil,or_false]at h2;rcases h2 with h|h|h|h<;>rw[h]<;>decide
   refine aH.now ⟨⟨rfl,by show _≤p+1+1;omega,by show p+1+1≤_;omega⟩,?_⟩
   exact⟨by rw[lH];simp only[jA,List.length_nil];omega,by simp[AX,zX,ht]⟩
  by_cases x3:x=3
  ·subst x3;simp (disch:=decide) only[q7.tu,if_pos,if_neg,Bool.false_eq_true,if_false];refine aH.now ⟨⟨rfl,by show _≤p+1;omega,by show p+1≤_;omega⟩,?_⟩
   exact⟨by rw[lH];simp only[jA,List.length_nil,show ByteArray.empty.size=0 from rfl];omega,by simp[AX,zX];decide⟩
  ·exact h4 (by omega)
 have start: ∀(d:Nat) (p:Int),0≤p→p+steps d≤1000000000000→d≤100→(∀x:Int,0≤x→x=4∨4<x→(1≤(d:Int))→aH (fun k=>q7.tu k (q7.f k) (q7.l12 k) (q7.tX k) (d:Int) x false b (p+1)) (fun r=>On b p (steps d) r.2∧Nd (ll d) r.1))→
   aH (fun k=>q7.f k (d:Int) b p) (fun r=>On b p (steps d) r.2∧Nd (ll d) r.1):=by
  intro d p h0 hp hd h4;have hl:=qQ d;have hll:=LP d;refine aH.shift ?_;simp only[q7.f,P9.f]
  by_cases hd1:(d:Int)<1
  ·obtain rfl:d=0:=by omega
   simp (disch:=omega) only[if_pos,Option.bind_some,eu,Int.natCast_zero,Int.mul_zero,Int.add_zero];refine aH.bind (bT 4 hb h0 (by omega)) fun r ⟨g1,g2,g3,_⟩=> ?_
   have:=g3 (by omega)
   rw[g1];exact leaf (fun _=>none) 0 p r.1 h0 hp g2 (by omega)
  ·simp (disch:=omega) only[if_neg,Option.bind_some,eu,Int.mul_one];refine aH.bind (bT _ hb h0 (by omega)) fun r ⟨g1,g2,g3,_⟩=> ?_
   rw[g1];exact leaf (fun _=>none) d p r.1 h0 hp g2 (fun h=>h4 r.1 g2 h (by omega))
 induction d with
 |zero=>intro _ p h0 hp;exact start 0 p h0 hp (by omega) (fun x _ _ h=>absurd h (by decide))
 |succ d ih=>
  intro hd p h0 hp;have hl:=qQ d;have hll:=LP d;have hst:steps (d+1)=3*steps d+9:=rfl;refine start (d+1) p h0 hp hd (fun x hx h4 _=> ?_)
  have n2: ¬x=2:=by omega
  have n3: ¬x=3:=by omega
  rw[Int.natCast_add,Int.natCast_one]
  by_cases e:x=4
  ·simp only[q7.tu,Bool.false_eq_true,if_false,if_neg n2,if_neg n3,if_pos e];refine aH.bind (bT 2 hb (by omega) (by omega)) fun r ⟨g1,g2,g3,_⟩=> ?_
   have:=g3 (by omega)
   have h8:0≤(2-(1+r.1))*steps d:=Int.mul_nonneg (by omega) (by omega)
   rw[g1,eu (by omega) (by omega)]
   exact SB hb d (by omega) (ih (by omega)) p h0 (by omega) _ _ [] (by show p≤p+1+1;omega) (by omega) (by omega) (by simp;omega) (fun y hy=>by cases hy) (by show p+1+1≤_;omega)
  ·simp only[q7.tu,Bool.false_eq_true,if_false,if_neg n2,if_neg n3,if_neg e];refine aH.bind (bT 4 hb (by omega) (by omega)) fun r ⟨g1,g2,g3,_⟩=> ?_
   have:=g3 (by omega)
   have h8:0≤(3-r.1)*steps d:=Int.mul_nonneg (by omega) (by omega)
   rw[g1];exact SC hb d (by omega) (ih (by omega)) p h0 (by omega) _ _ [] (by show p≤p+1+1;omega) (by omega) (by omega) (by simp;omega) (fun y hy=>by cases hy) (by show p+1+1≤_;omega)
theorem SE {b:List Int} {p:Int} (x:af) {n:Int} (hb:yY b) (h0:0≤p) (hp:p≤100000000000) (hx:Nd n x) (hn:n≤1000000000):aH (fun k=>qx.f k x b p) (fun r=>On b p 2 r.2∧AX r.1=true∧(lk r.1≤n+300∨r.1.aj.length=1)):=by
 have hw:=tJ x;have hk:0≤jA x.aj:=xB _;obtain⟨hx,hd⟩:=hx;rw[OQ,Bool.and_eq_true]at hd;obtain⟨hd1,hd2⟩:=hd;simp only[Bool.not_eq_true',decide_eq_false_iff_not]at hd1;have hsz:(x.aG.size:Int)≤n:=by omega
 have hww:=(iY x).1;simp only[qx.f,ay];refine aH.bind (aH.of (je x (by omega)) (P:=fun r=>r=(x.ak,x.aG,x.aI,x.aB,x.aj)) rfl) fun r hr=> ?_
 subst hr
 dsimp only
 refine aH.bind (bT 6 hb h0 (by omega)) fun r ⟨g1,g2,g3,_⟩=> ?_
 rw[g1];have fin: ∀(y:af) (q:Int),p≤q→q≤p+2→AX y=true→(lk y≤n+300∨y.aj.length=1)→aH (fun _=>some (y,b,q)) (fun r=>On b p 2 r.2∧AX r.1=true∧(lk r.1≤n+300∨r.1.aj.length=1)):=fun y q h1 h2 h3 h4=>aH.now ⟨⟨rfl,h1,h2⟩,h3,h4⟩
 refine aH.ite (fun _=> ?_) (fun _=>aH.ite (fun _=> ?_) (fun _=>aH.ite (fun _=> ?_) (fun _=>aH.ite (fun _=> ?_) (fun _=>aH.ite (fun _=> ?_) (fun _=> ?_)))))
 ·refine aH.bind (bT 7 hb (by omega) (by omega)) fun s ⟨e1,_⟩=> ?_
  rw[e1];exact fin _ _ (by omega) (by omega) (by simp[AX,hd1,hd2]) (Or.inl (by rw[lH];omega))
 ·refine aH.bind (AL _ hb (by omega) (by omega) (by decide)) fun s ⟨e1,e2⟩=> ?_
  rw[e1];have hs:s.1.size≤4:=by
   simp only[List.mem_cons,List.not_mem_nil,or_false]at e2;rcases e2 with h|h|h|h|h|h<;>rw[h]<;>decide
  have ht: ¬bytesOf s.1= [46,46,46]:=by
   simp only[List.mem_cons,List.not_mem_nil,or_false]at e2;rcases e2 with h|h|h|h|h|h<;>rw[h]<;>decide
  exact fin _ _ (by omega) (by omega) (by simp[AX,ht,hd2]) (Or.inl (by rw[lH];omega))
 ·simp only[qx.d12];refine aH.bind (bT 3 hb (by omega) (by omega)) fun s ⟨e1,e2,e3,_⟩=> ?_
  have:=e3 (by omega)
  rw[e1];simp (disch:=first|omega|(simp;omega)) only[if_pos]
  exact fin _ _ (by omega) (by omega) (by simp[AX,hd1,hd2]) (Or.inl (by rw[lH,List.length_append,List.length_singleton];omega))
 ·refine aH.bind (bT 3 hb (by omega) (by omega)) fun s ⟨e1,e2,e3,_⟩=> ?_
  have:=e3 (by omega)
  rw[e1];simp (disch:=first|omega|(simp;omega)) only[if_pos]
  exact fin _ _ (by omega) (by omega) (by simp[AX,hd1,hd2]) (Or.inl (by rw[lH];omega))
 ·have hkl:(x.aj.length:Int)≤jA x.aj:=yP _;simp (disch:=first|omega|(simp;omega)) only[if_pos]
  have e0:(bytesOf ByteArray.empty= [46,46,46])=False:=by simp;decide
  have hnd:zX (x.aj++ [⟨3,ByteArray.empty,[],0,[]⟩])=true:=yO.2 fun y hy=>by
   rcases List.mem_append.1 hy with hy|hy
   ·exact yO.1 hd2 y hy
   ·rw[List.mem_singleton.1 hy];simp only[AX,zX,e0,decide_false,Bool.not_false,Bool.and_true]
  exact fin _ _ (by omega) (by omega) (by simp only[AX,hd1,hnd,decide_false,Bool.not_false,Bool.and_true]) (Or.inl (by rw[lH,kF];simp only[jA,lH,List.length_nil,show ByteArray.empty.size=0 from rfl];omega))
 ·refine aH.bind (bT 3 hb (by omega) (by omega)) fun s ⟨e1,e2,e3,_⟩=> ?_
  have:=e3 (by omega)
  rw[e1];simp (disch:=omega) only[eu];have e0:(bytesOf ByteArray.empty= [46,46,46])=False:=by simp;decide
  refine goDown (P:=fun m=> ∀a t (sc:List Int) d ks,0≤m→m≤60→ ¬bytesOf t= [46,46,46]→zX ks=true→(0<m∨ks.length=1)→aH (fun k=>qx.l4 k m b (p+1+1) a t d sc ks) (fun r=>On b p 2 r.2∧AX r.1=true∧(lk r.1≤n+300∨r.1.aj.length=1))) ?_ ?_ _ _ _ _ _ _ (by omega) (by omega) hd1 hd2 (Or.inl (by omega))
  ·intro i hi a t sc d ks h3 h5 h1 h2 h4;refine aH.shift ?_;simp (disch:=omega) only[qx.l4,if_neg];exact fin _ _ (by omega) (by omega) (by simp only[AX,h1,h2,decide_false,Bool.not_false,Bool.and_true]) (Or.inr (h4.resolve_left (by omega)))
  ·intro i hi ih a t sc d ks h3 h5 h1 h2 h4;refine aH.shift ?_;simp (disch:=omega) only[qx.l4,if_pos,eu];exact ih 3 ByteArray.empty [] 0 [⟨a,t,sc,d,ks⟩] (by omega) (by omega) (by rw[e0];exact id) (by simp only[zX,AX,h1,h2,decide_false,Bool.not_false,Bool.and_true]) (Or.inr rfl)
theorem XG {b:List Int} {p:Int} (hb:yY b) (h0:0≤p) (hp:p≤10000000000):aH (fun k=>Ro.f k b p) (fun r=>On b p 400 r.2∧AX r.1=true):=by
 simp only[Ro.f];have hst:steps 3=360:=by decide
 refine aH.bind (LQ hb 3 (by decide) p h0 (by omega)) fun r ⟨⟨g1,g2,g3⟩,g4⟩=> ?_
 rw[g1];refine aH.bind (bT 20 hb (by omega) (by omega)) fun s ⟨e1,e2,e3,_⟩=> ?_
 rw[e1];simp only[ay];refine aH.ite (fun _=> ?_) (fun _=> ?_)
 ·refine aH.bind (SE r.1 (n:=200000) hb (by omega) (by omega) ⟨by have:=g4.1;have:ll 3=183760:=(by decide);omega,g4.2⟩ (by omega)) fun u ⟨⟨k1,k2,k3⟩,k4,_⟩=> ?_
  exact aH.now ⟨⟨k1,by show p≤u.2.2;omega,by show u.2.2≤_;omega⟩,k4⟩
 ·exact aH.now ⟨⟨rfl,by show p≤r.2.2+1;omega,by show r.2.2+1≤p+400;omega⟩,g4.2⟩
theorem R_.left {G a b:GL} (h:R_ G (a++b)):R_ G a:=fun g hg=>h g (List.mem_append_left _ hg)
theorem R_.right {G a b:GL} (h:R_ G (a++b)):R_ G b:=fun g hg=>h g (List.mem_append_right _ hg)
theorem SG {f:af} {d:Int} (hok:jl f d=true) (at':Int) (h0:0≤at') (h1:at'≤((bf f).length:Int)):wid (gm ((bf f).drop at'.toNat) (eP f))≤bG ((bf f).drop at'.toNat)+(wid f-bG (bf f))∧0≤wid f-bG (bf f):=by
 have hp:=aW f;have hq:=nX f;rcases bU hok with⟨h,_⟩|⟨h,_⟩|⟨h,_⟩
 ·have n: ¬(f.ak=3∨f.ak=4):=by omega
  have n3: ¬f.ak=3:=by omega
  have n4: ¬f.ak=4:=by omega
  simp[bf,if_neg n,eP,if_neg n3,if_neg n4,gm,d_,bG];omega
 ·have n: ¬(f.ak=3∨f.ak=4):=by omega
  have n3: ¬f.ak=3:=by omega
  have n4: ¬f.ak=4:=by omega
  simp[bf,if_neg n,eP,if_neg n3,if_neg n4,gm,d_,bG];omega
 ·have y:f.ak=3∨f.ak=4:=by omega
  have ho:bf f=partsOf f:=by unfold bf;rw[if_pos y]
  rw[ho];rcases h with h3|⟨h4,h5⟩
  ·have n4: ¬f.ak=4:=by omega
   simp only[partsOf,if_neg n4,eP,if_pos h3,gm];rw[gU];simp;omega
  ·have n3: ¬f.ak=3:=by omega
   have hks:=ng h5 h4;have hw:bG f.aj=bG (partsOf f)+wid (lastOf f):=by rw[←hks,dh,iD]
   have:=rF ((partsOf f).drop at'.toNat) (lastOf f);have:=lY (lastOf f);simp only[eP,if_neg n3,if_pos h4,gm];omega
theorem GI {f:af} {d:Int} (hok:jl f d=true) (a:Int) (h0:0≤a) (h1:a≤((bf f).length:Int)):wid (gm ((bf f).drop a.toNat) (eP f))≤wid f:=by
 have h:=SG hok a h0 h1;have h2:=dh ((bf f).take a.toNat) ((bf f).drop a.toNat);rw[List.take_append_drop]at h2;have h3:=(dO ((bf f).take a.toNat)).1;omega
theorem VT: ∀(x:af) (d d':Int),jl x d=true→d'≤d→jl x d'=true:=by
 refine dX fun x ih d d' h hd=> ?_
 have hk:pO x.aj (d+1)=true→pO x.aj (d'+1)=true:=by
  generalize x.aj=l at ih;intro h
  induction l with
  |nil=>rfl
  |cons y l ihl=>
   simp only[pO,Bool.and_eq_true]at h⊢;exact⟨ih y (by simp) _ _ h.1 (by omega),ihl (fun z hz=>ih z (by simp[hz])) h.2⟩
 rw[qP,Bool.and_eq_true,decide_eq_true_eq]at h;rw[qP,Bool.and_eq_true,decide_eq_true_eq];refine⟨by omega,?_⟩
 obtain⟨_,h⟩:=h
 by_cases h1:x.ak=1
 ·rw[if_pos h1]at h⊢;exact h
 by_cases h2:x.ak=2
 ·rw[if_neg h1,if_pos h2]at h⊢;exact h
 rw[if_neg h1,if_neg h2]at h⊢;simp only[Bool.and_eq_true]at h⊢;exact⟨h.1,h.2.1,h.2.2.1,h.2.2.2.1,hk h.2.2.2.2.1,h.2.2.2.2.2⟩
theorem VU {x:af} {d:Int} (h:jl x d=true):d≤60:=by
 rw[qP,Bool.and_eq_true,decide_eq_true_eq]at h;exact h.1
theorem Qs {l:List af} {d:Int} (h: ∀x∈l,jl x d=true):pO l d=true:=by
 induction l with
 |nil=>rfl
 |cons y l ih=>
  simp only[pO,Bool.and_eq_true];exact⟨h y (by simp),ih fun z hz=>h z (by simp[hz])⟩
theorem VV {f:af} {d:Int} (hok:jl f d=true) (n:Nat):jl (gm ((bf f).drop n) (eP f)) d=true:=by
 have hle:=VU hok;rcases bU hok with⟨s,_⟩|⟨s,_⟩|⟨s,hks⟩
 ·have nn: ¬(f.ak=3∨f.ak=4):=by omega
  have n3: ¬f.ak=3:=by omega
  have n4: ¬f.ak=4:=by omega
  simp only[bf,if_neg nn,List.drop_nil,eP,if_neg n3,if_neg n4,gm,d_,List.length_nil,if_true];exact hok
 ·have nn: ¬(f.ak=3∨f.ak=4):=by omega
  have n3: ¬f.ak=3:=by omega
  have n4: ¬f.ak=4:=by omega
  simp only[bf,if_neg nn,List.drop_nil,eP,if_neg n3,if_neg n4,gm,d_,List.length_nil,if_true];exact hok
 ·have y:f.ak=3∨f.ak=4:=by omega
  have ho:bf f=partsOf f:=by unfold bf;rw[if_pos y]
  have hm:=gI hks;have hdm: ∀x∈(partsOf f).drop n,jl x (d+1)=true:=by
   intro x hx;have hx:=List.mem_of_mem_drop hx;refine hm x ?_;unfold partsOf at hx
   split at hx
   ·exact List.mem_of_mem_take hx
   ·exact hx
  rw[ho];rcases s with h3|⟨h4,h5⟩
  ·simp only[eP,if_pos h3,gm];rw[qP];simp only[Bool.and_eq_true,decide_eq_true_eq];refine⟨hle,?_⟩;simp[Qs hdm,show bytesOf ByteArray.empty= [] from rfl]
  ·have n3: ¬f.ak=3:=by omega
   have hls:=lK hok h4;have nl: ¬((lastOf f).ak=3∨(lastOf f).ak=4):=by omega
   have hlm:lastOf f∈f.aj:=dF _ _ _ (by omega) (by omega)
   simp only[eP,if_neg n3,if_pos h4,gm,d_]
   split
   ·exact VT _ _ _ (hm _ hlm) (by omega)
   ·rename_i hz;rw[qP];simp only[Bool.and_eq_true,decide_eq_true_eq];refine⟨hle,?_⟩;have hall:pO ((partsOf f).drop n++ [lastOf f]) (d+1)=true:=Qs fun x hx=>by
     rcases List.mem_append.1 hx with hx|hx
     ·exact hdm x hx
     ·rw[List.mem_singleton.1 hx];exact hm _ hlm
    have hlast:jJ ((partsOf f).drop n++ [lastOf f])=true:=by
     unfold jJ;have e:aF ah ((partsOf f).drop n++ [lastOf f]) ((((partsOf f).drop n++ [lastOf f]).length:Int)-1)=lastOf f:=by
      rw[List.length_append,List.length_singleton];exact UJ (r:= []) (by omega)
     rw[e];simp only[Bool.and_eq_true,Bool.or_eq_true,decide_eq_true_eq];exact⟨by rw[List.length_append,List.length_singleton];omega,hls⟩
    simp[hall,hlast,show bytesOf ByteArray.empty= [] from rfl]
theorem OT (lits:List af): ∀(p:af) (e:Int),jl p e=true→ ∀a,∀g∈iT lits p a,g.bu≤a+(60-e):=by
 refine dX fun p ih e hok a g hg=> ?_
 have hle:=VU hok;rw[jX]at hg
 split at hg
 ·split at hg
  ·cases hg
  ·rw[List.mem_singleton.1 hg];show a≤_;omega
 ·rename_i h1;have hks: ∀x∈p.aj,jl x (e+1)=true:=by
   rcases bU hok with⟨h,_⟩|⟨_,h⟩|⟨_,h⟩
   ·exact absurd h h1
   ·rw[h];intro x hx;cases hx
   ·exact gI h
  generalize p.aj=l at hg ih hks
  induction l with
  |nil=>simp[gV]at hg
  |cons z l ihl=>
   simp only[gV]at hg;rcases List.mem_append.1 hg with h|h
   ·have:=ih z (by simp) (e+1) (hks z (by simp)) _ g h
    split at this<;>omega
   ·exact ihl h (fun w hw=>ih w (by simp[hw])) (fun w hw=>hks w (by simp[hw]))
theorem OU (lits:List af): ∀x:af,∀d,∀g∈iT lits x d,g.bY=ah:=by
 refine dX fun x ih d g hg=> ?_
 rw[jX]at hg
 split at hg
 ·split at hg
  ·cases hg
  ·rw[List.mem_singleton.1 hg]
 ·generalize hl:x.aj=l at hg;rw[hl]at ih
  clear hl
  induction l with
  |nil=>simp[gV]at hg
  |cons y l ihl=>
   simp only[gV]at hg;rcases List.mem_append.1 hg with h|h
   ·exact ih y (by simp) _ g h
   ·exact ihl (fun z hz=>ih z (by simp[hz])) h
end
end Go.Proofs.YtmcbhnbemhfifaaGreatDoor.RX
