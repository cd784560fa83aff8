/- Part of a proof that a law holds at every input. -/
import Derived.Test.YtmcbhnbemhfifaaGreatDoorFzPartB
import Derived.Maps.RangeRun
import Derived.WideMake
import Derived.Orders
import Derived.ChangeArms
import Derived.OpenShut
import Derived.ShutString
import Derived.SizedLaws
import Derived.Shelf.Strings.SlTrimAscii
import Derived.Shelf.Strings.OnBuilder
import Derived.Shelf.Small.Strs
import Derived.Shelf.Strings.Trim
import Derived.Shelf.Small.Utf8
import Derived.Shelf.Strings.Search1
import Derived.Shelf.Strings.Runes
import Derived.Shelf.Strings.AsciiSet
import Derived.Shelf.Unicode.DecodeSlow
import Derived.Test.YtmcbhnbemhfifaaGreatDoorProg
set_option autoImplicit false
set_option linter.unusedVariables false
set_option linter.unusedSimpArgs false
namespace Go.Proofs.YtmcbhnbemhfifaaGreatDoor.RX
section
open Go Go.RowKit
variable {G:jf} {R:Type} {P:Program} {W:fA} {w0 w w':World} {Z Z':Nat→Nat→Prop} {pl dI:Nat→Value} {N:Nat}
variable {E:Env G R} {o:Oper} {L:St G} {K:St G→Option R} {r:R} {a:Act} {next:Act→World→Prop} {Q:Exit→Act→World→Prop}
def isRow:jY→Bool
 | .cells _ _=>false
 |_=>true
theorem uD {ren:List (Nat×Nat)} {p:jY} (hp:isRow p=true) (ps:List jY) (j:Nat) (ob:List (Nat×Ob G)):
  gq ren j (p::ps) ob=match get ren j with|some o=>gq ren (j+1) ps ((o,.dead)::ob)|none=>gq ren (j+1) ps ob:=by
 cases p with
 |cells ro l=>cases hp
 |arr e t=>rfl
 |ow kp tree e t=>rfl
 |mo t u tg=>rfl
 |tk e t=>rfl
theorem qO {ren:List (Nat×Nat)} {p:jY} (hp:isRow p=false) (ps:List jY) (j:Nat) (ob:List (Nat×Ob G)):gq ren j (p::ps) ob=gq ren (j+1) ps ob:=by
 cases p with
 |cells ro l=>rfl
 |arr e t=>cases hp
 |ow kp tree e t=>cases hp
 |mo t u tg=>cases hp
 |tk e t=>cases hp
theorem nH {ren:List (Nat×Nat)}: ∀{ps:List jY} {j:Nat} {ob:List (Nat×Ob G)} {o:Nat} {b:Ob G},get (gq ren j ps ob) o=some b→live b=true→get ob o=some b∧ ∀(i:Nat) p,ps[i]? =some p→isRow p=true→get ren (j+i)≠some o
 | [],_,_,_,_,h,_=>⟨h,fun i p hi=>by simp at hi⟩
 |p::ps,j,ob,o,b,h,hl=>by
  cases hp:isRow p with
  |false=>
   rw[qO hp]at h;obtain⟨a1,a2⟩:=nH (ps:=ps) (j:=j+1) (ob:=ob) h hl;refine⟨a1,fun i q hi hq=> ?_⟩
   cases i with
   |zero=>injection hi with hi;rw[hi,hq]at hp;cases hp
   |succ i=>have:=a2 i q (by simpa using hi) hq;rwa [show j+(i+1)=j+1+i by omega]
  |true=>
   rw[uD hp]at h
   split at h
   ·rename_i o1 ho1;obtain⟨a1,a2⟩:=nH (ps:=ps) (j:=j+1) (ob:=(o1,.dead)::ob) h hl;have hne:o1≠o:=by intro e;subst e;rw[cu]at a1;cases a1;cases hl
    rw[dP _ _ hne]at a1;refine⟨a1,fun i q hi hq=> ?_⟩
    cases i with
    |zero=>rw[Nat.add_zero,ho1];intro ee;injection ee with ee;exact hne ee
    |succ i=>have:=a2 i q (by simpa using hi) hq;rwa [show j+(i+1)=j+1+i by omega]
   ·rename_i hn;obtain⟨a1,a2⟩:=nH (ps:=ps) (j:=j+1) (ob:=ob) h hl;refine⟨a1,fun i q hi hq=> ?_⟩
    cases i with
    |zero=>rw[Nat.add_zero,hn];intro ee;cases ee
    |succ i=>have:=a2 i q (by simpa using hi) hq;rwa [show j+(i+1)=j+1+i by omega]
theorem qA {ren:List (Nat×Nat)}: ∀{ps:List jY} {j:Nat} {ob:List (Nat×Ob G)} {o:Nat},(∀(i:Nat) p,ps[i]? =some p→isRow p=true→get ren (j+i)≠some o)→get (gq ren j ps ob) o=get ob o
 | [],_,_,_,_=>rfl
 |p::ps,j,ob,o,h=>by
  have h': ∀(i:Nat) q,ps[i]? =some q→isRow q=true→get ren (j+1+i)≠some o:=fun i q hi hq=>by have:=h (i+1) q (by simpa using hi) hq;rwa [show j+1+i=j+(i+1) by omega]
  cases hp:isRow p with
  |false=>rw[qO hp];exact qA h'
  |true=>
   rw[uD hp]
   split
   ·rename_i o1 ho1;rw[qA h',dP _ _ (by intro e;subst e;exact h 0 p rfl hp (by rw[Nat.add_zero];exact ho1))]
   ·exact qA h'
theorem qB {ren:List (Nat×Nat)} {nx:Nat}: ∀{ps:List jY} {j:Nat} {ob:List (Nat×Ob G)} {f:Nat→List Nat},Mem W w0 Z pl ob nx w→eH W w0.heap.size Z pl ob nx w f→lI ren nx→Mem W w0 Z pl (gq ren j ps ob) nx w∧eH W w0.heap.size Z pl (gq ren j ps ob) nx w f
 | [],_,_,_,M,T,_=>⟨M,T⟩
 |p::ps,j,ob,f,M,T,hr=>by
  cases hp:isRow p with
  |false=>rw[qO hp];exact qB M T hr
  |true=>
   rw[uD hp]
   split
   ·rename_i o1 ho1;exact qB (M.kill o1 (hr _ _ ho1)) (T.kill o1) hr
   ·exact qB M T hr
def IOp:jY→jY→Prop
 | .cells ro pl,.cells _ dI=>pl.length=dI.length∧ ∀k:Nat,dI[k]? =some .any→k∈ro
 | .arr _ _,.arr _ _=>True
 | .ow false _ _ _,.arr _ _=>True
 | .ow false _ _ _,.ow false _ _ _=>True
 | .ow true a _ _,.ow true b _ _=>a=b
 | .mo _ _ none,.mo _ _ none=>True
 |_,_=>False
theorem PM: ∀{qs:List jY},Ba qs=true→ ∀(i:Nat) t u j,qs[i]? ≠some (.mo t u (some j))
 | [],_,i,t,u,j=>by simp
 |q::qs,h,i,t,u,j=>by
  have hr:Ba qs=true:=by
   cases q with
   |mo t u tg=>cases tg with|none=>exact h|some _=>simp[Ba]at h
   |tk e t=>simp[Ba]at h
   |_=>exact h
  cases i with
  |zero=>
   intro e;injection e with e
   subst e;simp[Ba]at h
  |succ i=>have:=PM hr i t u j;simpa using this
theorem Nk {p q:jY} (h:ZX p q=true):(∀t u j,q≠ .mo t u (some j))∧(∀e t,q≠ .tk e t)∧IOp p q:=by
  cases p with
  |cells ro pl=>
    cases q with
    |cells ro' dI=>
      refine⟨fun _ _ _ e=>(by cases e),fun _ _ e=>(by cases e),?_⟩
      simp only[ZX]at h
      split at h
      · rename_i h1
        refine⟨by rw[len_eq,len_eq]at h1;exact Nat.eq_of_beq_eq_true h1,?_⟩
        have key: ∀(l:List iP) (m:Nat),CG ro m l=true→ ∀k:Nat,l[k]? =some .any→m+k∈ro:=by
          intro l
          induction l with
          |nil=>intro m _ k hk;simp at hk
          |cons x l ih=>
            intro m hm k hk;have hrest:CG ro (m+1) l=true:=by
              cases x with
              |any=>simp only[CG]at hm;split at hm<;>first|exact hm|cases hm
              |_=>exact hm
            cases k with
            |zero=>
              injection hk with hk
              subst hk;simp only[CG]at hm
              split at hm
              · rename_i hh;exact(xO _ _).1 hh
              · cases hm
            |succ k=>have:=ih (m+1) hrest k (by simpa using hk);rwa [show m+(k+1)=m+1+k by omega]
        exact fun k hk=>by have:=key dI 0 h k hk;rwa [Nat.zero_add]at this
      · cases h
    |_=>cases h
  |arr e t=>
    cases q with
    |arr e' t'=>exact⟨fun _ _ _ e=>(by cases e),fun _ _ e=>(by cases e),trivial⟩
    |_=>cases h
  |ow kp tree e t=>
    cases kp with
    |false=>
      cases q with
      |arr e' t'=>exact⟨fun _ _ _ e=>(by cases e),fun _ _ e=>(by cases e),trivial⟩
      |ow kp' tree' e' t'=>
        cases kp' with
        |false=>exact⟨fun _ _ _ e=>(by cases e),fun _ _ e=>(by cases e),trivial⟩
        |true=>cases h
      |_=>cases h
    |true=>
      cases tree<;>
      (cases q with
       |ow kp' tree' e' t'=>
        cases kp'<;>cases tree'<;>first|cases h|exact⟨fun _ _ _ e=>(by cases e),fun _ _ e=>(by cases e),rfl⟩
       |_=>cases h)
  |mo t u tg=>
    cases tg with
    |some j=>cases q<;>cases h
    |none=>
      cases q with
      |mo t' u' QA=>
        cases QA with
        |some j=>cases h
        |none=>exact⟨fun _ _ _ e=>(by cases e),fun _ _ e=>(by cases e),trivial⟩
      |_=>cases h
  |tk e t=>cases q<;>cases h
theorem H7 {p q:jY} {ps qs:List jY} (h:wz (p::ps) (q::qs)=true):ZX p q=true∧wz ps qs=true:=by
 have h:(match ZX p q with|true=>wz ps qs|false=>false)=true:=by
  cases p with
  |ow kp tree e t=>cases kp<;>exact h
  |_=>exact h
 split at h
 ·rename_i h1;exact⟨h1,h⟩
 ·cases h
theorem Ux {p:jY} {ps:List jY} (h:wz (p::ps) []=true):nZ p=false∧wz ps []=true:=by
 cases p with
 |ow kp tree e t=>cases kp<;>first|exact⟨rfl,h⟩|cases h
 |_=>cases h
theorem PN: ∀{ps qs:List jY},wz ps qs=true→ ∀(i:Nat) t u j,qs[i]? ≠some (.mo t u (some j))
 | [],qs,h,i,t,u,j=>PM h i t u j
 |p::ps,[],h,i,t,u,j=>by simp
 |p::ps,q::qs,h,i,t,u,j=>by
  obtain⟨h1,h2⟩:=H7 h;cases i with
  |zero=>intro e;injection e with e;exact(Nk h1).1 _ _ _ e
  |succ i=>have:=PN h2 i t u j;simpa using this
theorem PO: ∀{qs:List jY},Ba qs=true→ ∀(i:Nat) e t,qs[i]? ≠some (.tk e t)
 | [],_,i,e,t=>by simp
 |q::qs,h,i,e,t=>by
  have hr:Ba qs=true:=by
   cases q with
   |mo t u tg=>cases tg with|none=>exact h|some _=>simp[Ba]at h
   |tk e t=>simp[Ba]at h
   |_=>exact h
  cases i with
  |zero=>
   intro e;injection e with e
   subst e;simp[Ba]at h
  |succ i=>have:=PO hr i e t;simpa using this
theorem PR: ∀{ps qs:List jY},wz ps qs=true→ ∀(i:Nat) e t,qs[i]? ≠some (.tk e t)
 | [],qs,h,i,e,t=>PO h i e t
 |p::ps,[],h,i,e,t=>by simp
 |p::ps,q::qs,h,i,e,t=>by
  obtain⟨h1,h2⟩:=H7 h;cases i with
  |zero=>intro e;injection e with e;exact(Nk h1).2.1 _ _ e
  |succ i=>have:=PR h2 i e t;simpa using this
theorem H8: ∀{ps qs:List jY},wz ps qs=true→ ∀(i:Nat) p,ps[i]? =some p→nZ p=true→ ∃q,qs[i]? =some q∧IOp p q
 | [],qs,_,i,p,h,_=>by simp at h
 |p'::ps,[],h,i,p,hp,hf=>by
  obtain⟨h1,h2⟩:=Ux h;cases i with
  |zero=>injection hp with hp;subst hp;rw[h1]at hf;cases hf
  |succ i=>obtain⟨q,q1,_⟩:=H8 h2 i p (by simpa using hp) hf;simp at q1
 |p'::ps,q'::qs,h,i,p,hp,hf=>by
  obtain⟨h1,h2⟩:=H7 h;cases i with
  |zero=>injection hp with hp;subst hp;exact⟨_,rfl,(Nk h1).2.2⟩
  |succ i=>obtain⟨q,q1,q2⟩:=H8 h2 i p (by simpa using hp) hf;exact⟨q,by simpa using q1,q2⟩
def Given (os:List (Nat×Ob G)) (pl:Nat→Value) (fI:Nat→List Nat) (b i:Nat):Prop:=(∃j ob,get os j=some ob∧live ob=true∧bk (pl j)=some b∧(∀ro ls,ob= .cells ro ls→i≤ls.length∧(i=ls.length∨i∉ro)))∨ ∃j,b∈fI j
theorem FO: ∀{ps:List jY} {vs:List (TV G)} {i:Nat} {j:Nat},i<ps.length→ ∃ob,get (gu (fun j=>j) j ps vs).1 (j+i)=some ob∧live ob=true
 | [],vs,i,j,h=>by cases h
 |p::ps,vs,i,j,h=>by
  rw[zo];cases i with
  |zero=>
   refine⟨_,cu _ _ _,?_⟩;cases p with
   |cells ro Ph=>rfl
   |arr e t=>
    cases vs with
    |nil=>rfl
    |cons v r=>obtain⟨t',x⟩:=v;cases t'<;>rfl
   |ow kp tree e t=>
    cases tree<;>
    (cases vs with
    |nil=>rfl
    |cons v r=>obtain⟨t',x⟩:=v;cases t'<;>rfl)
   |mo t u tg=>
    cases vs with
    |nil=>rfl
    |cons v r=>cases r<;>rfl
   |tk e t=>
    cases vs with
    |nil=>rfl
    |cons v r=>
     obtain⟨t',x⟩:=v;cases t' with
     |sl e' t'=>
      cases r with
      |nil=>rfl
      |cons v' r=>obtain⟨t2,x2⟩:=v';cases t2<;>rfl
     |_=>rfl
  |succ i=>
   obtain⟨ob,h1,h2⟩:=FO (ps:=ps) (vs:=(jT (fun j=>j) p none vs).2) (i:=i) (j:=j+1) (by simpa using h)
   refine⟨ob,?_,h2⟩;show get ((j,_)::_) (j+(i+1))=_;rw[dP _ _ (by omega),show j+(i+1)=j+1+i by omega]
   exact h1
theorem QU {fI fB:Nat→List Nat} {za zb:Nat→Nat→Prop} {fa fb:List Nat} {pa pb:Nat→Value} {c:Ct G} {ren:List (Nat×Nat)} {yU EL pr:Nat→Value} {og BI os2:List (Nat×Ob G)} {wO:Nat} {ZI ZB Z':Nat→Nat→Prop} {vr:List (TV G)}
  (ZO:wz c.ip.objs c.rp.objs=true) (MI:Mem ⟨Given og yU fI,za,fa,pa⟩ w ZI yU og c.ip.objs.length w) (MB:Mem W w0 ZB EL BI wO w) (TI:eH (Given og yU fI) w.heap.size ZI yU og c.ip.objs.length w fI) (TB:eH W w0.heap.size ZB EL BI wO w fB) (hfB: ∀o k,k∈fB o→ ∀i,¬Given og yU fI k i)
  (M2:Mem ⟨Given og yU fI,zb,fb,pb⟩ w Z' pr os2 c.rp.objs.length w')
  (aal:os2=(gu (fun j=>j) 0 c.rp.objs vr).1)
  (abX: ∀j,j<c.ip.objs.length→ ∃o,get ren j=some o∧o<wO∧EL o=yU j)
  (Uy: ∀j o,get ren j=some o→j<c.ip.objs.length) (hinj: ∀j j' o,get ren j=some o→get ren j'=some o→j=j')
  (hcells: ∀(j:Nat) ro dI o,c.ip.objs[j]? =some (.cells ro dI)→get ren j=some o→ ∃ro' ls,get BI o=some (.cells ro' ls)∧ls.length=dI.length)
  (hI: ∀(j:Nat) p,c.ip.objs[j]? =some p→ ∃ob,get og j=some ob∧live ob=true∧match p with| .cells ro dI=> ∃ls:List (bD G),ob= .cells ro ls∧ls.length=dI.length|_=> ∀ro ls,ob≠ .cells ro ls)
  (PS: ∀(j:Nat) p o b,c.ip.objs[j]? =some p→isRow p=true→get ren j=some o→get BI o=some b→live b=true→False)
  (J5: ∀j ob,get og j=some ob→ ∀k,bk (yU j)=some k→Own w0.heap.size W ob k) (CS: ∀j k,k∈fI j→w0.heap.size≤k∨ ∀i,W k i)
  (Uz: ∀o b k,get BI o=some b→live b=true→bk (EL o)=some k→(∀j,get ren j≠some o)→ ∀i,¬Given og yU fI k i)
  (hzB: ∀b i,ZB b i→ ∀i',¬Given og yU fI b i') (hzI: ∀b i,ZB b i→Z' b i) (hzN: ∀b i,Z' b i→ZB b i∨w.heap.size≤b∨ ∀j,Given og yU fI b j)
  (hpr: ∀j p,c.ip.objs[j]? =some p→nZ p=true→pr j=yU j):
  let f:=y8 c.ip.objs ren wO
  let mJ:=fun o=>if o<wO then EL o else pr (o-wO)
  NF f pr c.rp.objs.length mJ (wO+c.rp.objs.length)∧Ext ZB w EL wO Z' w' mJ (wO+c.rp.objs.length)∧Mem W w0 Z' mJ (jm f 0 c.rp.objs vr BI) (wO+c.rp.objs.length) w':=by
 intro f mJ;have UA:=H8 ZO;have aan: ∀j p,c.ip.objs[j]? =some p→nZ p=true→ ∃o,get ren j=some o∧f j=o∧o<wO∧EL o=yU j:=by
  intro j p hj hp;obtain⟨o,h1,h2,h3⟩:=abX j (List.getElem?_eq_some_iff.1 hj).1;refine⟨o,h1,?_,h2,h3⟩;cases p with
  |cells ro ls=>simp only[f,y8,lT,hj,h1]
  |arr e t=>cases hp
  |ow kp tree e t=>
   cases kp with
   |false=>cases hp
   |true=>simp only[f,y8,lT,hj,h1]
  |mo t u tg=>simp only[f,y8,lT,hj,h1]
  |tk e t=>cases hp
 have UB: ∀j ro ls,c.ip.objs[j]? =some (.cells ro ls)→ ∃o,get ren j=some o∧f j=o∧o<wO∧EL o=yU j:=fun j ro ls hj=>aan j _ hj rfl
 have UC: ∀j,(∀p,c.ip.objs[j]? =some p→nZ p=false)→f j=wO+j:=by
  intro j hj;cases hh:c.ip.objs[j]? with
  |none=>simp only[f,y8,lT,hh]
  |some p=>
   have:=hj p hh;cases p with
   |cells ro ls=>cases this
   |arr e t=>simp only[f,y8,lT,hh]
   |ow kp tree e t=>
    cases kp with
    |true=>cases this
    |false=>simp only[f,y8,lT,hh]
   |mo t u tg=>cases this
   |tk e t=>simp only[f,y8,lT,hh]
 have J6: ∀j,(∃p o,c.ip.objs[j]? =some p∧nZ p=true∧get ren j=some o∧f j=o∧o<wO∧EL o=yU j∧pr j=yU j)∨((∀p,c.ip.objs[j]? =some p→nZ p=false)∧f j=wO+j):=by
  intro j;cases hj:c.ip.objs[j]? with
  |none=>exact .inr ⟨fun p e=>(by cases e),UC j (fun p e=>by rw[hj]at e;cases e)⟩
  |some p=>
   cases hp:nZ p with
   |true=>
    obtain⟨o,h1,h2,h3,h4⟩:=aan j p hj hp;exact .inl ⟨p,o,rfl,hp,h1,h2,h3,h4,hpr j p hj hp⟩
   |false=>exact .inr ⟨fun q e=>(by injection e with e;rw[←e];exact hp),UC j (fun q e=>by rw[hj]at e;injection e with e;rw[←e];exact hp)⟩
 have v_: ∀o,o<wO→mJ o=EL o:=fun o ho=>by simp only[mJ,if_pos ho]
 have aao: ∀j,mJ (wO+j)=pr j:=fun j=>by simp only[mJ];rw[if_neg (by omega),Nat.add_sub_cancel_left]
 have hNF:NF f pr c.rp.objs.length mJ (wO+c.rp.objs.length):=by
  intro j hj;rcases J6 j with⟨p,o,_,_,_,h2,h3,h4,h5⟩|⟨_,h2⟩
  ·rw[h2];exact⟨by omega,by rw[v_ o h3,h4,h5]⟩
  ·rw[h2];exact⟨by omega,aao j⟩
 have aap: ∀i i',f i=f i'→i=i':=by
  intro i i' e;rcases J6 i with⟨p,o,_,_,h1,h2,h3,_,_⟩|⟨_,h2⟩<;>rcases J6 i' with⟨p',o',_,_,h1',h2',h3',_,_⟩|⟨_,h2'⟩
  ·rw[h2,h2']at e;subst e;exact hinj i i' o h1 h1'
  ·rw[h2,h2']at e;omega
  ·rw[h2,h2']at e;omega
  ·rw[h2,h2']at e;omega
 have hsame: ∀b,b<w.heap.size→(∀i,¬Given og yU fI b i)→w'.heap[b]? =w.heap[b]? :=fun b hb hn=>M2.fr.blk b hb hn
 have X:Ext ZB w EL wO Z' w' mJ (wO+c.rp.objs.length):=
  ⟨Nat.le_add_right _ _,v_,hzI,fun b i hz=>jC (hsame b (MB.qL b i hz) (hzB b i hz)) i⟩
 have hwhole: ∀b,(∀j,Given og yU fI b j)→w0.heap.size≤b∨ ∀i,W b i:=by
  intro b hb;rcases hb 0 with⟨j0,Hq,g1,g2,g3,_⟩|⟨j0,g⟩
  ·have UD: ∀ro ls,Hq≠ .cells ro ls:=by
    intro ro ls e;subst e;rcases hb (ls.length+1) with⟨j1,xK,k1,k2,k3,k4⟩|⟨j1,k1⟩
    ·have:=MI.sep j0 j1 _ xK b g1 g2 k1 k2 g3 k3;subst this;rw[g1]at k1;injection k1 with k1
     have:=(k4 ro ls k1.symm).1;omega
    ·exact TI.root j1 b j0 _ k1 g1 g2 g3
   have:=J5 j0 Hq g1 b g3;cases Hq with
   |cells ro ls=>exact absurd rfl (UD ro ls)
   |arr e t x=>exact this
   |vU e t x=>cases g2
   |dead=>cases g2
   |tr e t x=>exact this
   |fo e t x i off o2=>exact this
   |sw e t x n1 i1 n2 i2 st=>exact this
   |mo t u x y tg=>exact this
   |tk e t x n=>exact this
  ·exact CS j0 b g
 have new: ∀o b,(∃(i:Nat) (p:jY) (vF:List (TV G)),c.rp.objs[i]? =some p∧o=f (0+i)∧b=(jT f p (get BI (f (0+i))) vF).1∧get (gu (fun j=>j) 0 c.rp.objs vr).1 (0+i)=some (jT (fun j=>j) p none vF).1)→
   ∃i,o=f i∧i<c.rp.objs.length∧nT Z' w' mJ (wO+c.rp.objs.length) o b∧live b=true∧mJ o=pr i∧(∃X4,get os2 i=some X4∧live X4=true∧(xR b=true→X4=b)∧isF b=false)∧
    ∀k,bk (mJ o)=some k→Own w0.heap.size W b k∧(∀j,¬Z' k j)∧(w.heap.size≤k∨ ∃i',Given og yU fI k i'):=by
  rintro o b ⟨i,p,vF,hp,ho,hb,hI2⟩;rw[Nat.zero_add]at ho hb hI2;rw[←aal]at hI2;have hlt:i<c.rp.objs.length:=(List.getElem?_eq_some_iff.1 hp).1;obtain⟨q1,q2⟩:=hNF i hlt;have hOb:=M2.ob i _ hI2;have hl2:live (jT (G:=G) (fun j=>j) p none vF).1=true:=by
   cases p with
   |cells ro Ph=>rfl
   |arr e t=>
    cases vF with
    |nil=>rfl
    |cons v r=>obtain⟨t',x⟩:=v;cases t'<;>rfl
   |ow kp tree e t=>
    cases tree<;>
    (cases vF with
    |nil=>rfl
    |cons v r=>obtain⟨t',x⟩:=v;cases t'<;>rfl)
   |mo t u tg=>
    cases vF with
    |nil=>rfl
    |cons v r=>cases r<;>rfl
   |tk e t=>
    cases vF with
    |nil=>rfl
    |cons v r=>
     obtain⟨t',x⟩:=v;cases t' with
     |sl e' t'=>
      cases r with
      |nil=>rfl
      |cons v' r=>obtain⟨t2,x2⟩:=v';cases t2<;>rfl
     |_=>rfl
  have X5: ∀t u j,p≠ .mo t u (some j):=fun t u j e=>PN ZO i t u j (by rw[hp,e])
  have X6: ∀e t,p≠ .tk e t:=fun e t ee=>PR ZO i e t (by rw[hp,ee])
  have e1:isRow p=true→ ∀g old,(jT g p old vF).1=(jT (G:=G) (fun j=>j) p none vF).1:=fun hp g old=>by
   cases p with
   |cells ro Ph=>cases hp
   |arr e t=>
    cases vF with
    |nil=>rfl
    |cons v r=>obtain⟨t',x⟩:=v;cases t'<;>rfl
   |ow kp tree e t=>
    cases tree<;>
    (cases vF with
    |nil=>rfl
    |cons v r=>obtain⟨t',x⟩:=v;cases t'<;>rfl)
   |mo t u tg=>
    cases tg with
    |some j=>exact absurd rfl (X5 t u j)
    |none=>
     cases vF with
     |nil=>rfl
     |cons v r=>cases r<;>rfl
   |tk e t=>exact absurd rfl (X6 e t)
  have aaq:isRow p=true→(∃e' t' x,(jT (G:=G) (fun j=>j) p none vF).1= .arr e' t' x)∨(∃e' t' x,(jT (G:=G) (fun j=>j) p none vF).1= .tr e' t' x)∨ ∃t' u' x y,(jT (G:=G) (fun j=>j) p none vF).1= .mo t' u' x y none:=fun hp=>by
   cases p with
   |cells ro Ph=>cases hp
   |arr e t=>
    cases vF with
    |nil=>exact .inl ⟨_,_,_,rfl⟩
    |cons v r=>obtain⟨t',x⟩:=v;cases t'<;>exact .inl ⟨_,_,_,rfl⟩
   |ow kp tree e t=>
    cases tree with
    |false=>
     cases vF with
     |nil=>exact .inl ⟨_,_,_,rfl⟩
     |cons v r=>obtain⟨t',x⟩:=v;cases t'<;>exact .inl ⟨_,_,_,rfl⟩
    |true=>
     cases vF with
     |nil=>exact .inr (.inl ⟨_,_,_,rfl⟩)
     |cons v r=>obtain⟨t',x⟩:=v;cases t'<;>exact .inr (.inl ⟨_,_,_,rfl⟩)
   |mo t u tg=>
    cases tg with
    |some j=>exact absurd rfl (X5 t u j)
    |none=>
     cases vF with
     |nil=>exact .inr (.inr ⟨_,_,_,_,rfl⟩)
     |cons v r=>cases r<;>exact .inr (.inr ⟨_,_,_,_,rfl⟩)
   |tk e t=>exact absurd rfl (X6 e t)
  have UE:isRow p=false→ ∃ro ls,b= .cells ro ls:=fun hp=>by
   subst hb;cases p with
   |cells ro Ph=>
    cases hold:get BI (f i) with
    |none=>simp only[jT,hold];exact⟨_,_,rfl⟩
    |some old=>cases old<;>(simp only[jT,hold];exact⟨_,_,rfl⟩)
   |arr e t=>cases hp
   |ow kp tree e t=>cases hp
   |mo t u tg=>cases hp
   |tk e t=>cases hp
  refine⟨i,ho,hlt,?_,?_,by rw[ho];exact q2,⟨_,hI2,hl2,fun hbt=> ?_,?_⟩,?_⟩
  ·
   subst ho hb;cases hrow:isRow p with
   |true=>
    rw[e1 hrow];rcases aaq hrow with⟨e',t',x,e2⟩|⟨e',t',x,e2⟩|⟨t',u',x,y,e2⟩
    ·rw[e2]at hOb⊢;obtain⟨vs,o1,o2⟩:=hOb;exact⟨vs,by rw[q2];exact o1,o2⟩
    ·rw[e2]at hOb⊢;obtain⟨vs,o1⟩:=hOb;exact⟨vs,by rw[q2];exact o1⟩
    ·rw[e2]at hOb⊢;obtain⟨kt,vt,ks,vs,o1,o2,rr,es,o3,o4,o5⟩:=hOb;exact⟨kt,vt,ks,vs,o1,o2,rr,es,by rw[q2];exact o3,o4,o5⟩
   |false=>
   cases p with
   |arr e t=>cases hrow
   |ow kp tree e t=>cases hrow
   |mo t u tg=>cases hrow
   |tk e t=>cases hrow
   |cells ro Ph=>
    obtain⟨b2,T2,cs2,m1,m2,m3⟩:=hOb;have m3':=(p_ hNF (ps:=Ph) (vs:=vF)).2.2 m3;cases hold:get BI (f i) with
    |none=>simp only[jT,hold];exact⟨b2,T2,cs2,by rw[q2];exact m1,m2,m3'⟩
    |some old=>
     cases old with
     |cells ro' ls=>
      simp only[jT,hold];rcases J6 i with⟨p0,o0,hi0,hx0,hr0,hf0,hlt0,hpl0,aar⟩|⟨hn,hf0⟩
      ·obtain⟨FP,H9,rfl⟩: ∃FP H9,p0= .cells FP H9:=by
        obtain⟨q,hq1,hq2⟩:=UA i _ hi0 hx0;rw[hp]at hq1;injection hq1 with hq1
        subst hq1;cases p0 with
        |cells FP H9=>exact⟨_,_,rfl⟩
        |arr e t=>exact hq2.elim
        |ow kp tree e t=>cases kp<;>exact hq2.elim
        |mo t u tg=>cases tg<;>exact hq2.elim
        |tk e t=>exact hq2.elim
       obtain⟨q,hq1,hq2⟩:=UA i _ hi0 rfl;rw[hp]at hq1;injection hq1 with hq1
       subst hq1;obtain⟨hlen,hany⟩:=hq2;obtain⟨aas,TG,hcc,hll⟩:=hcells i FP H9 o0 hi0 hr0;rw[hf0,hcc]at hold;injection hold with hold
       injection hold with e1 e2
       subst e1 e2;obtain⟨bB,TB,csB,n1,n2,n3⟩:=MB.ob o0 _ hcc;have hbb:bB=b2:=by rw[hpl0,←aar,m1]at n1;injection n1 with n1;injection n1 with n1;injection n1 with n1;exact n1.symm
       subst hbb;obtain⟨adS,YV,hlI,hcI⟩:=hI i _ hi0;obtain⟨lsI,aat,adb⟩:=hcI;subst aat;have aau:bk (yU i)=some bB:=by rw[←aar,m1];rfl
       have ab1:bB<w.heap.size:=(Array.getElem?_eq_some_iff.1 n2).1;have UF: ∀k:Nat,k∈FP→k<H9.length→ ¬Given og yU fI bB k:=by
        rintro k hk hk2 (⟨j1,xK,g1,g2,g3,g4⟩|⟨j1,g1⟩)
        rotate_left
        ·exact TI.root j1 bB i _ g1 YV hlI aau
        have:=MI.sep i j1 _ xK bB YV hlI g1 g2 aau g3;subst this;rw[YV]at g1;injection g1 with g1
        rcases(g4 FP lsI g1.symm).2 with h|h
        ·omega
        ·exact h hk
       have hkeep: ∀k:Nat,Ph[k]? =some .any→cs2[k]? =csB[k]? :=by
        intro k hk;have hk1:k<Ph.length:=(List.getElem?_eq_some_iff.1 hk).1;have hng:=UF k (hany k hk) (by omega)
        obtain⟨cs',c1,_,c3⟩:=M2.fr.YD bB csB TB (0,0) ab1 ⟨k,hng⟩ n2;rw[m2]at c1;injection c1 with c1
        injection c1 with c1
        have c1:cs2=cs':=by simpa using c1
        rw[c1];exact c3 k hng
       exact⟨bB,T2,cs2,by rw[q2];exact m1,m2,(H6 f (by omega)).2.2 m3' (n3.mono X) hkeep⟩
      ·rw[hf0]at hold;exact absurd (MB.lt _ _ hold) (by omega)
     |_=>simp only[jT,hold];exact⟨b2,T2,cs2,by rw[q2];exact m1,m2,m3'⟩
  ·cases hrow:isRow p with
   |true=>rw[hb,e1 hrow];exact hl2
   |false=>obtain⟨ro,ls,e⟩:=UE hrow;rw[e];rfl
  ·cases hrow:isRow p with
   |true=>exact(hb.trans (e1 hrow _ _)).symm
   |false=>obtain⟨ro,ls,e⟩:=UE hrow;rw[e]at hbt;cases hbt
  ·cases hrow:isRow p with
   |true=>rw[hb,e1 hrow];rcases aaq hrow with⟨_,_,_,e⟩|⟨_,_,_,e⟩|⟨_,_,_,_,e⟩<;>(rw[e];rfl)
   |false=>obtain⟨ro,ls,e⟩:=UE hrow;rw[e];rfl
  ·intro k hk;rw[ho,q2]at hk;have hown:=M2.own i _ k hI2 hl2 hk;have WO:=M2.dU i _ k hI2 hl2 hk;have WQ: ∀i',Given og yU fI k i'→(w0.heap.size≤k∨ ∀j,W k j)∨(∃FP H9 ro' ls,c.ip.objs[i]? =some (.cells FP H9)∧get BI (f i)=some (.cells ro' ls)∧EL (f i)=yU i):=by
    rintro i' (⟨j1,xK,g1,g2,g3,_⟩|⟨j1,g1⟩)
    ·have Pq:=J5 j1 xK g1 k g3;cases xK with
     |arr e t x=>exact .inl Pq
     |tr e t x=>exact .inl Pq
     |fo e t x i off o2=>exact .inl Pq
     |sw e t x n1 i1 n2 i2 st=>exact .inl Pq
     |mo t u x y tg=>exact .inl Pq
     |tk e t x n=>exact .inl Pq
     |vU=>cases g2
     |dead=>cases g2
     |cells ro1 Tq=>
      right;have hj1:j1<c.ip.objs.length:=MI.lt j1 _ g1;obtain⟨p1,hp1⟩: ∃p1,c.ip.objs[j1]? =some p1:=⟨_,List.getElem?_eq_getElem hj1⟩;obtain⟨adU,PT,_,hm⟩:=hI j1 p1 hp1;rw[g1]at PT;injection PT with PT
      subst PT;cases p1 with
      |arr e t=>exact absurd rfl (hm _ _)
      |ow kp tree e t=>exact absurd rfl (hm _ _)
      |mo t u tg=>exact absurd rfl (hm _ _)
      |tk e t=>exact absurd rfl (hm _ _)
      |cells FP H9=>
       have ab2:=hpr j1 _ hp1 rfl;obtain⟨q,hq1,hq2⟩:=UA j1 _ hp1 rfl;have hj2:j1<c.rp.objs.length:=(List.getElem?_eq_some_iff.1 hq1).1;have hex: ∃obJ,get os2 j1=some obJ∧live obJ=true:=by
        have:=FO (G:=G) (ps:=c.rp.objs) (vs:=vr) (i:=j1) (j:=0) hj2;rw[Nat.zero_add,←aal]at this;exact this
       obtain⟨obJ,hJ1,hJ2⟩:=hex;have:=M2.sep i j1 _ obJ k hI2 hl2 hJ1 hJ2 hk (by rw[ab2];exact g3)
       subst this;obtain⟨o0,r1,r2,r3,r4⟩:=UB i FP H9 hp1;obtain⟨ro',ls,hcc,_⟩:=hcells i FP H9 o0 hp1 r1;exact⟨FP,H9,ro',ls,hp1,by rw[r2];exact hcc,by rw[r2];exact r4⟩
    ·exact .inl (CS j1 k g1)
   have UG:w.heap.size≤k∨ ∃i',Given og yU fI k i':=by
    rcases hown with h|h
    ·exact .inl h
    ·right;cases MF:(jT (G:=G) (fun j=>j) p none vF).1 with
     |cells ro ls=>rw[MF]at h;exact⟨ls.length,h ls.length (Nat.le_refl _) (.inl rfl)⟩
     |arr e t x=>rw[MF]at h;exact⟨0,h 0⟩
     |vU e t x=>rw[MF]at h;exact⟨0,h 0⟩
     |dead=>rw[MF]at h;exact⟨0,h 0⟩
     |tr e t x=>rw[MF]at h;exact⟨0,h 0⟩
     |fo e t x i off o2=>rw[MF]at h;exact⟨0,h 0⟩
     |sw e t x n1 i1 n2 i2 st=>rw[MF]at h;exact⟨0,h 0⟩
     |mo t u x y tg=>rw[MF]at h;exact⟨0,h 0⟩
     |tk e t x n=>rw[MF]at h;exact⟨0,h 0⟩
   refine⟨?_,WO,UG⟩;rcases UG with h|⟨i',hg⟩
   ·exact .inl (Nat.le_trans MB.fr.size h)
   ·rcases WQ i' hg with h|⟨FP,H9,ro',ls,g1,g2,g3⟩
    ·rcases h with h|h
     ·exact .inl h
     ·refine .inr ?_;cases b with
      |cells _ _=>exact fun i _ _=>h i
      |_=>exact h
    ·
     have ab3:pr i=yU i:=hpr i _ g1 rfl;have hbB:bk (EL (f i))=some k:=by rw[g3,←ab3];exact hk
     have hO:=MB.own (f i) _ k g2 rfl hbB;rcases hO with h|h
     ·exact .inl h
     ·refine .inr ?_;subst hb;cases p with
      |arr e t=>
       obtain⟨q,hq1,hq2⟩:=UA i _ g1 rfl;rw[hp]at hq1;injection hq1 with hq1
       subst hq1;exact hq2.elim
      |ow kp tree e t=>
       obtain⟨q,hq1,hq2⟩:=UA i _ g1 rfl;rw[hp]at hq1;injection hq1 with hq1
       subst hq1;exact hq2.elim
      |mo t u tg=>
       obtain⟨q,hq1,hq2⟩:=UA i _ g1 rfl;rw[hp]at hq1;injection hq1 with hq1
       subst hq1;exact hq2.elim
      |tk e t=>
       obtain⟨q,hq1,hq2⟩:=UA i _ g1 rfl;rw[hp]at hq1;injection hq1 with hq1
       subst hq1;exact hq2.elim
      |cells ro Ph=>
       obtain⟨q,hq1,hq2⟩:=UA i _ g1 rfl;rw[hp]at hq1;injection hq1 with hq1
       subst hq1;obtain⟨o0,r1,r2,r3,r4⟩:=UB i FP H9 g1;obtain⟨aas,TG,hcc,hll⟩:=hcells i FP H9 o0 g1 r1;rw[r2,hcc]at g2;injection g2 with g2
       injection g2 with e1 e2
       subst e1 e2;simp only[jT,r2,hcc];have hlen:=(H6 (G:=G) (Z:=Z') (w:=w') (pl:=pr) (nx:=0) f (ps:=Ph) (ls:=TG) (vs:=vF) (by have:=hq2.1;omega)).2.1
       intro i2 h2 h3;rw[hlen]at h2 h3;exact h i2 h2 h3
 have kept: ∀o b,(∀i,i<c.rp.objs.length→o≠f (0+i))→get BI o=some b→live b=true→(∀j,get ren j≠some o)∧ ∀k,bk (EL o)=some k→w'.heap[k]? =w.heap[k]? ∧ ∀i,¬Given og yU fI k i:=by
  intro o b hne hg hl;have hnb: ∀j,get ren j≠some o:=by
   intro j hj;have hj1:=Uy j o hj;obtain⟨p1,hp1⟩: ∃p1,c.ip.objs[j]? =some p1:=⟨_,List.getElem?_eq_getElem hj1⟩;cases p1 with
   |arr e t=>exact PS j _ o b hp1 rfl hj hg hl
   |ow kp tree e t=>exact PS j _ o b hp1 rfl hj hg hl
   |mo t u tg=>exact PS j _ o b hp1 rfl hj hg hl
   |tk e t=>exact PS j _ o b hp1 rfl hj hg hl
   |cells ro ls=>
    obtain⟨o0,r1,r2,_⟩:=UB j ro ls hp1;rw[hj]at r1;injection r1 with r1
    obtain⟨q,hq1,_⟩:=UA j _ hp1 rfl;have:=hne j (List.getElem?_eq_some_iff.1 hq1).1;rw[Nat.zero_add]at this;exact this (r1.trans r2.symm)
  refine⟨hnb,fun k hk=> ?_⟩
  have:=Uz o b k hg hl hk hnb;exact⟨hsame k (MB.blt hg hl hk) this,this⟩
 have look: ∀o b,get (jm f 0 c.rp.objs vr BI) o=some b→(∃(i:Nat) (p:jY) (vF:List (TV G)),c.rp.objs[i]? =some p∧o=f (0+i)∧b=(jT f p (get BI (f (0+i))) vF).1∧get (gu (fun j=>j) 0 c.rp.objs vr).1 (0+i)=some (jT (fun j=>j) p none vF).1)∨((∀i,i<c.rp.objs.length→o≠f (0+i))∧get BI o=some b):=by
  refine fun o b hg=>Du hNF (fun i p hp ro Ph ro' ls e1 e2=> ?_) (fun i i' _ _ e=>by rw[Nat.zero_add,Nat.zero_add]at e;exact aap i i' e) o b hg
  subst e1;rw[Nat.zero_add]at e2;rcases J6 i with⟨p0,o0,hi0,hx0,hr0,hf0,_⟩|⟨_,hf0⟩
  ·obtain⟨FP,H9,rfl⟩: ∃FP H9,p0= .cells FP H9:=by
    obtain⟨q,hq1,hq2⟩:=UA i _ hi0 hx0;rw[hp]at hq1;injection hq1 with hq1
    subst hq1;cases p0 with
    |cells FP H9=>exact⟨_,_,rfl⟩
    |arr e t=>exact hq2.elim
    |ow kp tree e t=>cases kp<;>exact hq2.elim
    |mo t u tg=>cases tg<;>exact hq2.elim
    |tk e t=>exact hq2.elim
   obtain⟨q,hq1,hq2⟩:=UA i _ hi0 rfl;rw[hp]at hq1;injection hq1 with hq1
   subst hq1;obtain⟨aas,TG,hcc,hll⟩:=hcells i FP H9 o0 hi0 hr0;rw[hf0,hcc]at e2;injection e2 with e2
   injection e2 with _ e2
   subst e2;have:=hq2.1;omega
  ·rw[hf0]at e2;exact absurd (MB.lt _ _ e2) (by omega)
 refine⟨hNF,X,?_⟩;constructor
 ·intro o b hg;rcases look o b hg with hh|⟨_,hh⟩
  ·obtain⟨i,h1,h2,_⟩:=new o b hh;rw[h1];exact(hNF i h2).1
  ·have:=MB.lt o b hh;omega
 ·intro o b hg;rcases look o b hg with hh|⟨hne,hh⟩
  ·obtain⟨i,_,_,h3,_⟩:=new o b hh;exact h3
  ·exact(MB.ob o b hh).mono X (MB.lt o b hh) (fun hl k hk=>((kept o b hne hh hl).2 k hk).1)
 ·intro o o' b b' k hg hl hg' hl' hk hk';have mix: ∀o b o' b',(∃(i:Nat) (p:jY) (vF:List (TV G)),c.rp.objs[i]? =some p∧o=f (0+i)∧b=(jT f p (get BI (f (0+i))) vF).1∧get (gu (fun j=>j) 0 c.rp.objs vr).1 (0+i)=some (jT (fun j=>j) p none vF).1)→
    (∀i,i<c.rp.objs.length→o'≠f (0+i))→get BI o'=some b'→live b'=true→bk (mJ o)=some k→bk (mJ o')=some k→False:=by
   intro o b o' b' hh hne hh' hl' hk hk';obtain⟨i,_,_,_,_,_,_,h5⟩:=new o b hh;rw[v_ o' (MB.lt o' b' hh')]at hk';have h6:=((kept o' b' hne hh' hl').2 k hk').2;rcases(h5 k hk).2.2 with h|⟨i',h⟩
   ·exact Nat.lt_irrefl _ (Nat.lt_of_lt_of_le (MB.blt hh' hl' hk') h)
   ·exact h6 i' h
  rcases look o b hg with hh|⟨hne,hh⟩<;>rcases look o' b' hg' with hh'|⟨hne',hh'⟩
  ·obtain⟨i,h1,_,_,_,h2,⟨X4,h3,h4,_⟩,_⟩:=new o b hh;obtain⟨i',h1',_,_,_,h2',⟨ab4,h3',h4',_⟩,_⟩:=new o' b' hh';rw[h2]at hk;rw[h2']at hk';have:=M2.sep i i' X4 ab4 k h3 h4 h3' h4' hk hk';rw[h1,h1',this]
  ·exact(mix o b o' b' hh hne' hh' hl' hk hk').elim
  ·exact(mix o' b' o b hh' hne hh hl hk' hk).elim
  ·rw[v_ o (MB.lt o b hh)]at hk;rw[v_ o' (MB.lt o' b' hh')]at hk';exact MB.sep o o' b b' k hh hl hh' hl' hk hk'
 ·intro o b k hg hl hk;rcases look o b hg with hh|⟨hne,hh⟩
  ·obtain⟨i,_,_,_,_,_,_,h5⟩:=new o b hh;exact(h5 k hk).1
  ·rw[v_ o (MB.lt o b hh)]at hk;exact MB.own o b k hh hl hk
 ·intro o b k hg hl hk;rcases look o b hg with hh|⟨hne,hh⟩
  ·obtain⟨i,_,_,_,_,_,_,h5⟩:=new o b hh;exact(h5 k hk).2.1
  ·rw[v_ o (MB.lt o b hh)]at hk;intro i hz;have h6:=((kept o b hne hh hl).2 k hk).2;rcases hzN k i hz with h|h|h
   ·exact MB.dU o b k hh hl hk i h
   ·exact Nat.lt_irrefl _ (Nat.lt_of_lt_of_le (MB.blt hh hl hk) h)
   ·exact h6 0 (h 0)
 ·exact M2.qL
 ·intro b i hz;rcases hzN b i hz with h|h|h
  ·exact MB.zn b i h
  ·exact .inr (.inl (Nat.le_trans MB.fr.size h))
  ·exact .inr (hwhole b h)
 ·exact fun b i hz=>hzI b i (MB.z0 b i hz)
 ·exact fun j hj=>⟨Nat.lt_of_lt_of_le (MB.fx j hj).1 (Nat.le_add_right _ _),(v_ j (MB.fx j hj).1).trans (MB.fx j hj).2⟩
 ·
  have Nl: ∀b i,b<w0.heap.size→Given og yU fI b i→W b i:=by
   rintro b i hb (⟨j,ob,g1,g2,g3,g4⟩|⟨j,g1⟩)
   ·rcases J5 j ob g1 b g3 with h|h
    ·omega
    ·cases ob with
     |cells ro ls=>obtain⟨q1,q2⟩:=g4 ro ls rfl;exact h i q1 q2
     |arr e t x=>exact h i
     |tr e t x=>exact h i
     |fo e t x i1 off o2=>exact h i
     |sw e t x n1 i1 n2 i2 st=>exact h i
     |mo t u x y tg=>exact h i
     |tk e t x n=>exact h i
     |vU=>cases g2
     |dead=>cases g2
   ·rcases CS j b g1 with h|h
    ·omega
    ·exact h i
  refine MB.fr.trans ⟨M2.fr.os,M2.fr.tape,M2.fr.output,M2.fr.size,fun b hb hW=>hsame b (Nat.lt_of_lt_of_le hb MB.fr.size) (fun i hg=>hW i (Nl b i hb hg)),fun b cs T fr hb hn hc=> ?_⟩
  obtain⟨i,hi⟩:=hn;obtain⟨cs',c1,c2,c3⟩:=M2.fr.YD b cs T fr (Nat.lt_of_lt_of_le hb MB.fr.size) ⟨i,fun hg=>hi (Nl b i hb hg)⟩ hc
  exact⟨cs',c1,c2,fun i hi=>c3 i (fun hg=>hi (Nl b i hb hg))⟩
 ·
  obtain⟨f2,T2⟩:=M2.tr
  let f3:Nat→List Nat:=fun o=>match (List.range c.rp.objs.length).find? (fun i=>f i==o) with
   |some i=>f2 i
   |none=>fB o
  have X7: ∀i,i<c.rp.objs.length→f3 (f i)=f2 i:=by
   intro i hi;have:(List.range c.rp.objs.length).find? (fun i'=>f i'==f i)=some i:=by
    cases hf:(List.range c.rp.objs.length).find? (fun i'=>f i'==f i) with
    |none=>
     have:=List.find?_eq_none.1 hf i (List.mem_range.2 hi);simp at this
    |some i'=>
     have:=List.find?_some hf;rw[aap i' i (by simpa using this)]
   show(match (List.range c.rp.objs.length).find? (fun i'=>f i'==f i) with|some i=>f2 i|none=>fB (f i))=_
   rw[this]
  have X8: ∀o,(∀i,i<c.rp.objs.length→o≠f i)→f3 o=fB o:=by
   intro o ho;have:(List.range c.rp.objs.length).find? (fun i'=>f i'==o)=none:=List.find?_eq_none.2 fun i hi=>by
    have:=ho i (List.mem_range.1 hi);simp only[beq_iff_eq];exact fun e=>this e.symm
   show(match (List.range c.rp.objs.length).find? (fun i'=>f i'==o) with|some i=>f2 i|none=>fB o)=_
   rw[this]
  have uF: ∀o,(∃i,i<c.rp.objs.length∧o=f i∧f3 o=f2 i)∨((∀i,i<c.rp.objs.length→o≠f i)∧f3 o=fB o):=by
   intro o
   by_cases h: ∃i,i<c.rp.objs.length∧o=f i
   ·obtain⟨i,hi,e⟩:=h;exact .inl ⟨i,hi,e,by rw[e];exact X7 i hi⟩
   ·have h': ∀i,i<c.rp.objs.length→o≠f i:=fun i hi e=>h ⟨i,hi,e⟩
    exact .inr ⟨h',X8 o h'⟩
  have YW: ∀i k,k∈f2 i→w.heap.size≤k∨ ∀j,Given og yU fI k j:=fun i k hk=>T2.own i k hk
  have apart: ∀i o k,k∈f2 i→k∈fB o→False:=by
   intro i o k h1 h2;rcases YW i k h1 with h|h
   ·exact Nat.lt_irrefl _ (Nat.lt_of_lt_of_le (TB.lt o k h2) h)
   ·exact hfB o k h2 0 (h 0)
  refine⟨f3,?_⟩;constructor
  ·intro o b hg;rcases look o b hg with hh|⟨hne,hh⟩
   ·obtain⟨i,h1,h2,_,_,h5,⟨X4,h6,h7,h8,h9⟩,_⟩:=new o b hh;rw[h1,X7 i h2];cases b with
    |tr e t x=>
     have:=h8 rfl;subst this;obtain⟨vs,k1,k2⟩:=T2.rep i _ h6;exact⟨vs,by rw[←h1,h5];exact k1,k2⟩
    |tk e t x n=>
     have:=h8 rfl;subst this;obtain⟨vs,k1,k2⟩:=T2.rep i _ h6;exact⟨vs,by rw[←h1,h5];exact k1,k2⟩
    |fo e t x i1 off o2=>cases h9
    |sw e t x n1 i1 n2 i2 st=>cases h9
    |_=>trivial
   ·rw[X8 o (fun i hi=>by have:=hne i hi;rwa [Nat.zero_add]at this)]
    refine(TB.rep o b hh).mono (Nat.le_add_right _ _) v_ (MB.lt o b hh) ⟨fun k hk=>hsame k (TB.lt o k hk) (hfB o k hk),X.hZ,X.hw⟩ (fun hl k hk=>((kept o b hne hh hl).2 k hk).1)
  ·intro o;rcases uF o with⟨i,_,_,e⟩|⟨_,e⟩<;>rw[e]
   ·exact T2.nd i
   ·exact TB.nd o
  ·intro o o' k h1 h2;rcases uF o with⟨i,_,e1,e⟩|⟨_,e⟩<;>rcases uF o' with⟨i',_,e1',e'⟩|⟨_,e'⟩<;>rw[e]at h1<;>rw[e']at h2
   ·rw[e1,e1',T2.sep i i' k h1 h2]
   ·exact(apart i o' k h1 h2).elim
   ·exact(apart i' o k h2 h1).elim
   ·exact TB.sep o o' k h1 h2
  ·intro o k o' b h1 hg hl hb;rcases look o' b hg with hh|⟨hne,hh⟩
   ·obtain⟨i',h1',h2',_,_,h5,⟨X4,h6,h7,_⟩,h8⟩:=new o' b hh;rcases uF o with⟨i,_,_,e⟩|⟨_,e⟩<;>rw[e]at h1
    ·rw[h5]at hb;exact T2.root i k i' X4 h1 h6 h7 hb
    ·rcases(h8 k hb).2.2 with h|⟨j,h⟩
     ·exact Nat.lt_irrefl _ (Nat.lt_of_lt_of_le (TB.lt o k h1) h)
     ·exact hfB o k h1 j h
   ·rw[v_ o' (MB.lt o' b hh)]at hb;rcases uF o with⟨i,_,_,e⟩|⟨_,e⟩<;>rw[e]at h1
    ·have h6:=((kept o' b hne hh hl).2 k hb).2;rcases YW i k h1 with h|h
     ·exact Nat.lt_irrefl _ (Nat.lt_of_lt_of_le (MB.blt hh hl hb) h)
     ·exact h6 0 (h 0)
    ·exact TB.root o k o' b h1 hh hl hb
  ·intro o k h1;rcases uF o with⟨i,_,_,e⟩|⟨_,e⟩<;>rw[e]at h1
   ·rcases YW i k h1 with h|h
    ·exact .inl (Nat.le_trans MB.fr.size h)
    ·exact hwhole k h
   ·exact TB.own o k h1
  ·intro o k h1;rcases uF o with⟨i,_,_,e⟩|⟨_,e⟩<;>rw[e]at h1
   ·exact T2.dU i k h1
   ·intro j hz;rcases hzN k j hz with h|h|h
    ·exact TB.dU o k h1 j h
    ·exact Nat.lt_irrefl _ (Nat.lt_of_lt_of_le (TB.lt o k h1) h)
    ·exact hfB o k h1 0 (h 0)
  ·intro o k h1;rcases uF o with⟨i,_,_,e⟩|⟨_,e⟩<;>rw[e]at h1
   ·exact T2.lt i k h1
   ·exact Nat.lt_of_lt_of_le (TB.lt o k h1) M2.fr.size
end
section
open Go Go.RowKit
variable {G:jf} {R:Type} {P:Program} {W:fA} {w0 w w':World} {Z Z':Nat→Nat→Prop} {pl dI:Nat→Value} {N:Nat}
variable {E:Env G R} {o:Oper} {L:St G} {K:St G→Option R} {r:R} {a:Act} {next:Act→World→Prop} {Q:Exit→Act→World→Prop}
theorem bP.Hu {t:Ty} (ht:pV t=true) {x:G.D t} {cs:List Value} (h:bP G Z w t x cs):bP G Z' w t x cs:=by
 cases h with
 |int k x=>exact .int k x
 |bool b=>exact .bool b
 |str s=>exact .str s
 |sl=>cases ht
 |st=>cases ht
 |pn=>cases ht
 |ps=>cases ht
section br
variable {f:Nat→Nat} {n:Nat}
theorem J7 {p:iP} {vs:List (TV G)} {ts ts':List Ty} (h:ZH ts p=some ts') (hv:vs.map (·.t)=ts):(∀{u:Value},gB Z w pl n (lS f p vs).1 u→gB Z' w pl n (lS f p vs).1 u)∧(lS f p vs).2.map (·.t)=ts':=by
 subst hv;cases p with
 |val t=>
  cases vs with
  |nil=>simp only[ZH,List.map_nil,Option.some.injEq]at h;subst h;exact⟨fun h=>h,rfl⟩
  |cons v r=>
   simp only[ZH,List.map_cons]at h
   split at h
   ·rename_i hs;simp only[Option.some.injEq]at h;subst h;exact⟨fun hu=>⟨bP.Hu hs hu.1,hu.2⟩,rfl⟩
   ·cases h
 |_=>simp only[ZH,Option.some.injEq]at h;subst h;exact⟨fun h=>h,rfl⟩
theorem rX: ∀{ps:List iP} {vs:List (TV G)} {ts ts':List Ty},QC ts ps=some ts'→vs.map (·.t)=ts→(∀{us:List Value},dS Z w pl n (eG f ps vs).1 us→dS Z' w pl n (eG f ps vs).1 us)∧(eG f ps vs).2.map (·.t)=ts'
 | [],vs,ts,ts',h,hv=>by simp only[QC,Option.some.injEq]at h;subst h;exact⟨fun h=>h,hv⟩
 |p::ps,vs,ts,ts',h,hv=>by
  simp only[QC]at h
  split at h
  ·rename_i t1 h1;obtain⟨a1,a2⟩:=J7 (f:=f) (Z:=Z) (Z':=Z') (w:=w) (pl:=pl) (n:=n) h1 hv;obtain⟨b1,b2⟩:=rX (ps:=ps) h a2;exact⟨fun⟨u,us,e,k1,k2⟩=>⟨u,us,e,a1 k1,b1 k2⟩,b2⟩
  ·cases h
theorem YY {p:yT} {vs:List (TV G)} {ts ts':List Ty} (h:brS ts p=some ts') (hv:vs.map (·.t)=ts):(∀{u:Value},eU Z w pl n (GY f p vs).1 u→eU Z' w pl n (GY f p vs).1 u)∧(GY f p vs).2.map (·.t)=ts':=by
 cases p with
 |one p=>obtain⟨a1,a2⟩:=J7 (f:=f) (Z:=Z) (Z':=Z') (w:=w) (pl:=pl) (n:=n) (p:=p) h hv;exact⟨fun h=>a1 h,a2⟩
 |agg ps=>obtain⟨a1,a2⟩:=rX (f:=f) (Z:=Z) (Z':=Z') (w:=w) (pl:=pl) (n:=n) (ps:=ps) h hv;exact⟨fun⟨cs,e,h⟩=>⟨cs,e,a1 h⟩,a2⟩
 |st s=>cases h
theorem Dv: ∀{ps:List (Nat×yT)} {vs:List (TV G)} {ts ts':List Ty},QD ts ps=some ts'→vs.map (·.t)=ts→(∀{t:Nat} {d:DV G} {u:Value},get (fU f ps vs).1 t=some d→eU Z w pl n d u→eU Z' w pl n d u)∧(fU f ps vs).2.map (·.t)=ts'
 | [],vs,ts,ts',h,hv=>by simp only[QD,Option.some.injEq]at h;subst h;exact⟨fun h _=>by simp[fU,get]at h,hv⟩
 |(t0,p)::ps,vs,ts,ts',h,hv=>by
  simp only[QD]at h
  split at h
  ·rename_i t1 h1;obtain⟨b1,b2⟩:=YY (f:=f) (Z:=Z) (Z':=Z') (w:=w) (pl:=pl) (n:=n) h1 hv;obtain⟨a1,a2⟩:=Dv (ps:=ps) h b2;refine⟨fun{t d u} h hd=> ?_,a2⟩
   simp only[fU]at h;rw[bn]at h
   split at h
   ·injection h with h;subst h;exact b1 hd
   ·exact a1 h hd
  ·cases h
theorem gX.flat {m:Nat} {t:Ty} (hf:jL G m [t]=true) {xs:List (G.D t)} {vs:List Value} (h:gX G Z w t xs vs):gX G Z' w t xs vs:=(Dc (Z':=Z') hf h).row (fun _ _ h=>h) fun k hk=>by cases hk
theorem dR.deep (hd:jB G.own=true) {t:Ty} {xs:List (G.D t)} {vs:List Value} {fp:List Nat} (h:dR G Z w t xs vs fp):dR G Z' w t xs vs fp:=by
 refine dR.rec (G:=G) (Z:=Z) (w:=w) (motive_1:=fun t x cs fp _=>fD G Z' w t x cs fp)
  (motive_2:=fun ts h cs fp _=>wH G Z' w ts h cs fp) (motive_3:=fun t xs cs fp _=>dR G Z' w t xs cs fp) ?_ ?_ ?_ ?_ ?_ ?_ ?_ ?_ ?_ ?_ ?_ ?_ ?_ h
 ·exact fun k x=> .int k x
 ·exact fun b=> .bool b
 ·exact fun s=> .str s
 ·exact fun e t A c hm=> .sl0 e t A c hm
 ·exact fun e t xs v vs b fp hm ho hbk _ ih=> .sl e t xs v vs b fp hm ho hbk ih
 ·exact fun e t hm=> .ZL e t hm
 ·exact fun e t xs v vs b hm _ _ _=>by rw[mY hd]at hm;cases hm
 ·exact fun e t xs v hm _=>by rw[mY hd]at hm;cases hm
 ·exact fun s x cs fp _ ih=> .st s x cs fp ih
 ·exact .nil
 ·exact fun t ts h cs cs' fp fp' hl _ _ ih1 ih2=> .cons t ts h cs cs' fp fp' hl ih1 ih2
 ·exact fun t=> .nil t
 ·exact fun t x xs cs vs fp fp' hl _ _ ih1 ih2=> .cons t x xs cs vs fp fp' hl ih1 ih2
theorem yc: ∀{ps:List jY} {j:Nat} {vs:List (TV G)} {ts ts':List Ty},ML G ts ps=some ts'→vs.map (·.t)=ts→ ∀{i o:Nat} {b:Ob G},get (gu f j ps vs).1 o=some b→nT Z w pl n i b→nT Z' w pl n i b
 | [],j,vs,ts,ts',_,_,i,o,b,h,_=>by simp[gu,get]at h
 | .cells ro Ph::ps,j,vs,ts,ts',hb,hv,i,o,b,h,hO=>by
  simp only[ML]at hb
  split at hb
  ·rename_i t1 h1;obtain⟨b1,b2⟩:=rX (f:=f) (Z:=Z) (Z':=Z') (w:=w) (pl:=pl) (n:=n) h1 hv;simp only[gu]at h;rw[bn]at h
   split at h
   ·injection h with h
    subst h;obtain⟨bb,T,cs,h1,h2,h3⟩:=hO;exact⟨bb,T,cs,h1,h2,b1 h3⟩
   ·exact yc (ps:=ps) hb b2 h hO
  ·cases hb
 | .arr e t::ps,j,vs,ts,ts',hb,hv,i,o,b,h,hO=>by
  simp only[ML]at hb
  split at hb
  ·rename_i e1 t1 r
   split at hb
   ·rename_i hf;cases vs with
    |nil=>cases hv
    |cons v vs=>
     obtain⟨tv,x⟩:=v;simp only[List.map_cons,List.cons.injEq]at hv;obtain⟨rfl,hv⟩:=hv;simp only[gu]at h;rw[bn]at h
     split at h
     ·injection h with h
      subst h;obtain⟨us,h1,h2⟩:=hO;exact⟨us,h1,gX.flat hf h2⟩
     ·exact yc (ps:=ps) hb hv h hO
   ·cases hb
  ·cases hb
 | .ow kp false e t::ps,j,vs,ts,ts',hb,hv,i,o,b,h,hO=>by
  simp only[ML]at hb
  split at hb
  ·rename_i e1 t1 r
   split at hb
   ·rename_i hf;cases vs with
    |nil=>cases hv
    |cons v vs=>
     obtain⟨tv,x⟩:=v;simp only[List.map_cons,List.cons.injEq]at hv;obtain⟨rfl,hv⟩:=hv;simp only[gu]at h;rw[bn]at h
     split at h
     ·injection h with h
      subst h;obtain⟨us,h1,h2⟩:=hO;exact⟨us,h1,gX.flat hf h2⟩
     ·exact yc (ps:=ps) hb hv h hO
   ·cases hb
  ·cases hb
 | .ow kp true e t::ps,j,vs,ts,ts',hb,hv,i,o,b,h,hO=>by
  simp only[ML]at hb
  split at hb
  ·rename_i e1 t1 r hd;cases vs with
   |nil=>cases hv
   |cons v vs=>
    obtain⟨tv,x⟩:=v;simp only[List.map_cons,List.cons.injEq]at hv;obtain⟨rfl,hv⟩:=hv;simp only[gu]at h;rw[bn]at h
    split at h
    ·injection h with h
     subst h;exact hO
    ·exact yc (ps:=ps) hb hv h hO
  ·cases hb
theorem uG: ∀{ps:List jY} {j:Nat} {vs:List (TV G)} {ts ts':List Ty},ML G ts ps=some ts'→vs.map (·.t)=ts→ ∀{i o:Nat} {b:Ob G} {fp:List Nat},get (gu f j ps vs).1 o=some b→j_ Z w pl n fp i b→j_ Z' w pl n fp i b
 | [],j,vs,ts,ts',_,_,i,o,b,fp,h,_=>by simp[gu,get]at h
 | .cells ro Ph::ps,j,vs,ts,ts',hb,hv,i,o,b,fp,h,hO=>by
  simp only[ML]at hb
  split at hb
  ·rename_i t1 h1;obtain⟨b1,b2⟩:=rX (f:=f) (Z:=Z) (Z':=Z') (w:=w) (pl:=pl) (n:=n) h1 hv;simp only[gu]at h;rw[bn]at h
   split at h
   ·injection h with h
    subst h
    trivial
   ·exact uG (ps:=ps) hb b2 h hO
  ·cases hb
 | .arr e t::ps,j,vs,ts,ts',hb,hv,i,o,b,fp,h,hO=>by
  simp only[ML]at hb
  split at hb
  ·split at hb
   ·cases vs with
    |nil=>cases hv
    |cons v vs=>
     obtain⟨tv,x⟩:=v;simp only[List.map_cons,List.cons.injEq]at hv;obtain⟨rfl,hv⟩:=hv;simp only[gu]at h;rw[bn]at h
     split at h
     ·injection h with h
      subst h
      trivial
     ·exact uG (ps:=ps) hb hv h hO
   ·cases hb
  ·cases hb
 | .ow kp false e t::ps,j,vs,ts,ts',hb,hv,i,o,b,fp,h,hO=>by
  simp only[ML]at hb
  split at hb
  ·split at hb
   ·cases vs with
    |nil=>cases hv
    |cons v vs=>
     obtain⟨tv,x⟩:=v;simp only[List.map_cons,List.cons.injEq]at hv;obtain⟨rfl,hv⟩:=hv;simp only[gu]at h;rw[bn]at h
     split at h
     ·injection h with h
      subst h
      trivial
     ·exact uG (ps:=ps) hb hv h hO
   ·cases hb
  ·cases hb
 | .ow kp true e t::ps,j,vs,ts,ts',hb,hv,i,o,b,fp,h,hO=>by
  simp only[ML]at hb
  split at hb
  ·rename_i e1 t1 r hd;cases vs with
   |nil=>cases hv
   |cons v vs=>
    obtain⟨tv,x⟩:=v;simp only[List.map_cons,List.cons.injEq]at hv;obtain⟨rfl,hv⟩:=hv;simp only[gu]at h;rw[bn]at h
    split at h
    ·injection h with h
     subst h;obtain⟨us,h1,h2⟩:=hO;exact⟨us,h1,h2.deep hd⟩
    ·exact uG (ps:=ps) hb hv h hO
  ·cases hb
theorem J8: ∀{ts:List Ty} {h:HL G.S ts},(eY ts h).map (·.t)=ts:=by
 have key: ∀(ts:List Ty) (t:Ty) (h:Yq G.S t ts),(qV ts t h).map (·.t)=t::ts:=by
  intro ts
  induction ts with
  |nil=>intro t h;rfl
  |cons t' ts ih=>intro t h;simp only[qV,List.map_cons,ih]
 intro ts h;cases ts with
 |nil=>rfl
 |cons t ts=>exact key ts t h
end br
def J9 (os:List (Nat×Ob G)) (ren:List (Nat×Nat)) (n o:Nat):Bool:=
 (List.range n).any fun j=>match get os j,get ren j with|some b,some o'=>xR b&&o'==o|_,_=>false
theorem FQ {os:List (Nat×Ob G)} {ren:List (Nat×Nat)} {n o:Nat}:J9 os ren n o=true↔ ∃j b,j<n∧get os j=some b∧xR b=true∧get ren j=some o:=by
 unfold J9;rw[List.any_eq_true];constructor
 ·rintro⟨j,hj,hx⟩
  split at hx
  ·rename_i b o' h1 h2;rw[Bool.and_eq_true]at hx;exact⟨j,b,List.mem_range.1 hj,h1,hx.1,by rw[h2,beq_iff_eq.1 hx.2]⟩
  ·cases hx
 ·rintro⟨j,b,hj,h1,hb,h2⟩;exact⟨j,List.mem_range.2 hj,by rw[h1,h2];simp[hb]⟩
theorem eH.sub {W:Nat→Nat→Prop} {base:Nat} {objs:List (Nat×Ob G)} {nx:Nat} {f f':Nat→List Nat} (T:eH W base Z pl objs nx w f) (h: ∀o,f' o=f o∨(f' o= []∧ ∀b,get objs o=some b→live b=false)):eH W base Z pl objs nx w f':=by
 have sub: ∀o k,k∈f' o→k∈f o:=fun o k hk=>by
  rcases h o with e|⟨e,_⟩
  ·rwa [e]at hk
  ·rw[e]at hk;cases hk
 exact{
  rep:=fun o b hg=>by
   rcases h o with e|⟨_,e⟩
   ·rw[e];exact T.rep o b hg
   ·have:=e b hg;cases b with
    |tr e t x=>cases this
    |fo e t x i off o2=>cases this
    |sw e t x n1 i1 n2 i2 st=>cases this
    |tk e t x n=>cases this
    |_=>trivial
  nd:=fun o=>by
   rcases h o with e|⟨e,_⟩<;>rw[e]
   ·exact T.nd o
   ·exact List.nodup_nil
  sep:=fun o o' k h1 h2=>T.sep o o' k (sub o k h1) (sub o' k h2)
  root:=fun o k o' b h1=>T.root o k o' b (sub o k h1)
  own:=fun o k h1=>T.own o k (sub o k h1)
  dU:=fun o k h1=>T.dU o k (sub o k h1)
  lt:=fun o k h1=>T.lt o k (sub o k h1)}
theorem wP {f:Nat→Nat}: ∀{ps:List (Nat×yT)} {vs:List (TV G)},(fU f ps vs).1.map (·.1)=ps.map (·.1)
 | [],_=>rfl
 |(t,p)::ps,vs=>by simp only[fU,List.map_cons];rw[wP (ps:=ps)]
theorem zq: ∀{ps:List (Nat×yT)} {j:Nat},um j ps=true→ps.map (·.1)=(List.range' j ps.length)
 | [],_,_=>rfl
 |(k,p)::ps,j,h=>by
  simp only[um]at h
  split at h
  ·rename_i hk;rw[List.map_cons,zq h,Nat.eq_of_beq_eq_true hk];rfl
  ·cases h
theorem WR {nx:Nat} {ds:List (Nat×DV G)} {v:Value} (hk:ds.map (·.1)=List.range' 0 ds.length) (hd: ∀t d,get ds t=some d→eU Z w pl nx d (vY ds.length v t)) (hv:ds.length=1∨ ∃vs:List Value,v= .tuple vs.toArray∧vs.length=ds.length):eU Z w pl nx (Yx (z_ ds)) v:=by
 have key: ∀(ds:List (Nat×DV G)) (j:Nat) (l:List (SV G)),ds.map (·.1)=List.range' j ds.length→z_ ds=some l→l.length=ds.length∧ ∀vs:List Value,vs.length=ds.length→(∀(i:Nat) d u,get ds (j+i)=some d→vs[i]? =some u→eU Z w pl nx d u)→oW Z w pl nx l vs:=by
  intro ds
  induction ds with
  |nil=>intro j l _ h;simp only[z_,Option.some.injEq]at h;subst h;exact⟨rfl,fun vs hvs _=>List.eq_nil_of_length_eq_zero hvs⟩
  |cons x ds ih=>
   intro j l hk h;obtain⟨k,d⟩:=x;simp only[List.map_cons,List.length_cons,List.range'_succ,List.cons.injEq]at hk;obtain⟨rfl,hk⟩:=hk;cases d with
   |sv s=>
    simp only[z_]at h
    split at h
    ·rename_i l' hl';injection h with h
     subst h;obtain⟨a1,a2⟩:=ih (k+1) l' hk hl';refine⟨by simp[a1],fun vs hvs hh=> ?_⟩
     cases vs with
     |nil=>simp at hvs
     |cons u us=>
      refine⟨u,us,rfl,?_,a2 us (by simpa using hvs) (fun i d u' hg hu'=> ?_)⟩
      ·have:=hh 0 (.sv s) u (by rw[Nat.add_zero];exact cu _ _ _) rfl
       exact this
      ·exact hh (i+1) d u' (by rw[show k+(i+1)=k+1+i by omega,dP _ _ (by omega)];exact hg) (by simpa using hu')
    ·cases h
   |yZ _=>cases h
   |und=>cases h
   |nS=>cases h
 cases hl:z_ ds with
 |none=>exact trivial
 |some l=>
  obtain⟨a1,a2⟩:=key ds 0 l hk hl
  by_cases h1:ds.length=1
  ·cases ds with
   |nil=>cases h1
   |cons x ds=>
    cases ds with
    |cons _ _=>simp at h1
    |nil=>
     obtain⟨k,d⟩:=x;simp only[List.map_cons,List.map_nil,List.length_cons,List.length_nil,Nat.zero_add,List.range'_one,List.cons.injEq,and_true]at hk;subst hk;cases d with
     |sv s=>
      simp only[z_,Option.some.injEq]at hl;subst hl;have:=hd 0 (.sv s) (cu _ _ _);exact this
     |yZ _=>cases hl
     |und=>cases hl
     |nS=>cases hl
  ·rcases hv with hv|⟨vs,rfl,hvs⟩
   ·exact absurd hv h1
   ·have hne:l.length≠1:=by rw[a1];exact h1
    have e:Yx (some l)= .yZ l:=by
     cases l with
     |nil=>rfl
     |cons x l=>cases l with
      |nil=>exact absurd rfl hne
      |cons _ _=>rfl
    rw[e];refine⟨vs,rfl,a2 vs hvs (fun i d u hg hu=> ?_)⟩
    have:=hd i d (by rw[Nat.zero_add]at hg;exact hg)
    simp only[vY,if_neg h1]at this;rw[show(vs.toArray.getD i undef)=u from by simp[Array.getD_eq_getD_getElem?,hu]]at this
    exact this
theorem J_ (hs:fH G) {c:Ct G} {fid:FuncId} (hc:c.Holds P fid) {al:List (Nat×DV G)} {vals:List Value} (hlen:al.length=vals.length) (hal: ∀t d,get al t=some d→eU Z w pl L.nx d (vals.getD t undef))
  (h:Aa E o c al L K=some r) (S:Sat E.N W w0 Z pl L a w) (ab5: ∀v w',(callFunc fid vals.toArray).run P w= .ok (.value v) w'→(execOp a.eval o).run P w= .ok (.value v) w')
  (ab6:(callFunc fid vals.toArray).run P w= .ok (.enter fid vals.toArray) w→(execOp a.eval o).run P w= .ok (.enter fid vals.toArray) w) (hK:Then E W w0 K r next):o.wp P a w next Q:=by
 cases L with
 |mk tm ob nx=>
 simp only[Aa]at h
 split at h
 ·rename_i Wy xK Eu ren vs hn hm;rw[len_eq,len_eq]at hn;have hn:=Nat.eq_of_beq_eq_true hn
  split at h
  ·rename_i h1 hh;cases hF:c.F h1 with
   |none=>rw[hF]at h;cases h
   |some r0=>
   rw[hF]at h;simp only[Option.bind_some]at h;obtain⟨Z1,pl1,H⟩:=y9 hs hm (show Mem W w0 Z pl ob nx w from S.mem) (fun j o hj=>by simp[get]at hj) (val:=fun t=>vals.getD t undef) hal
   have hvs:=y_ hh;obtain⟨tmI,rI,og,e1,e2,k1,_,k2⟩:=H.told (fun j=>j) (jO ren pl1) c.ip.objs.length (JA (fun j o hj=>(H.bnd j o hj).1))
   have eI:cZ c.ip vs=⟨tmI,og,c.ip.objs.length⟩:=by simp only[cZ,e1,e2,len_eq]
   have M1:Mem W w0 Z1 pl1 xK Eu w:=H.step.mem;have Uy: ∀j o,get ren j=some o→j<c.ip.objs.length:=fun j o hj=>(H.bnd j o hj).1
   obtain⟨fM,TM⟩:=M1.tr
   let fI:=Bg ren og fM
   have aav: ∀j k,k∈fI j→ ∃bb o,get og j=some bb∧xR bb=true∧get ren j=some o∧k∈fM o:=by
    intro j k hk;have hk:k∈Bg ren og fM j:=hk;unfold Bg at hk
    split at hk
    ·rename_i bb hg
     split at hk
     ·rename_i hb
      split at hk
      ·rename_i o ho;exact⟨bb,o,hg,hb,ho,hk⟩
      ·cases hk
     ·cases hk
    ·cases hk
   obtain⟨TI,MI⟩:eH (Given og (jO ren pl1) fI) w.heap.size Z1 (jO ren pl1) og c.ip.objs.length w fI∧Mem ⟨Given og (jO ren pl1) fI,Z1,iU 0 c.ip.objs,jO ren pl1⟩ w Z1 (jO ren pl1) og c.ip.objs.length w:=by
    refine Jy (W1:=⟨Given og (jO ren pl1) fI,Z1,iU 0 c.ip.objs,jO ren pl1⟩) M1 k2 TM (fun j bb o k hg hb ho hk=> .inr fun i=> .inr ⟨j,?_⟩) H.inj H.bnd (fun j b k hg hk=> .inr ?_) (Fr.refl _ _ _) (fun _ _ h=> .inl h) (fun _ _ h=>h) (fun j hj=>⟨by obtain⟨i,p,e,hi,_⟩:=zf.1 hj;rw[Nat.zero_add]at e;rw[e];exact(List.getElem?_eq_some_iff.1 hi).1,rfl⟩)
    ·show k∈Bg ren og fM j;unfold Bg;rw[hg];simp only[hb,ho];exact hk
    have hl:live b=true:=(k2.lV j b hg).2.2.2.1;cases b with
    |cells ro ls=>exact fun i hi hi2=> .inl ⟨j,_,hg,hl,hk,fun ro' ls' e=>by injection e with e1 e2;subst e1 e2;exact⟨hi,hi2⟩⟩
    |arr e t x=>exact fun i=> .inl ⟨j,_,hg,hl,hk,fun ro' ls' e=>by cases e⟩
    |tr e t x=>exact fun i=> .inl ⟨j,_,hg,hl,hk,fun ro' ls' e=>by cases e⟩
    |fo e t x i1 off o2=>exact fun i=> .inl ⟨j,_,hg,hl,hk,fun ro' ls' e=>by cases e⟩
    |sw e t x n1 i1 n2 i2 st=>exact fun i=> .inl ⟨j,_,hg,hl,hk,fun ro' ls' e=>by cases e⟩
    |tk e t x n=>exact fun i=> .inl ⟨j,_,hg,hl,hk,fun ro' ls' e=>by cases e⟩
    |mo t u x y tg=>exact fun i=> .inl ⟨j,_,hg,hl,hk,fun ro' ls' e=>by cases e⟩
    |vU e t x=>cases hl
    |dead=>cases hl
   have hrun:=hc.run (Given og (jO ren pl1) fI) Z1 (jO ren pl1) w vals.toArray h1 r0 hF (by rw[List.size_toArray,←hlen,hn]) (by
    rw[hvs,eI];intro t d hg;have:=k1 t d hg;rw[show vals.toArray.getD t undef=vals.getD t undef from by simp[Array.getD_eq_getD_getElem?,List.getD_eq_getElem?_getD]]
    exact this) (by rw[hvs,eI];exact MI)
   have hos: ∀(ps:List jY) (j0:Nat) (os:List (Nat×Ob G)),Bf W w0.heap.size Z1 w pl1 ren (fun j=>j) (jO ren pl1) c.ip.objs.length xK j0 ps os→ ∀(i:Nat) p,ps[i]? =some p→ ∃b,get os (j0+i)=some b∧live b=true∧(∃o,get ren (j0+i)=some o)∧match p with| .cells ro dI=> ∃ls:List (bD G),b= .cells ro ls∧ls.length=dI.length|_=> ∀ro ls,b≠ .cells ro ls:=by
    intro ps
    induction ps with
    |nil=>intro j0 os _ i p hi;simp at hi
    |cons p0 ps ih=>
     intro j0 os ⟨b,os',e,g1,g2,g3,⟨o,g4,_,_⟩,g5⟩ i p hi;subst e;cases i with
     |zero=>
      injection hi with hi
      subst hi;refine⟨b,cu _ _ _,g2,⟨o,g4⟩,?_⟩;cases p0 with
      |cells ro dI=>exact g3
      |arr e t=>obtain⟨x,hx⟩:=g3;intro ro ls hh;rw[hx]at hh;cases hh
      |ow kp tree e t=>cases tree<;>(obtain⟨x,hx⟩:=g3;intro ro ls hh;rw[hx]at hh;cases hh)
      |mo t u tg=>obtain⟨x,y,hx⟩:=g3;intro ro ls hh;rw[hx]at hh;cases hh
      |tk e t=>obtain⟨x,y,hx⟩:=g3;intro ro ls hh;rw[hx]at hh;cases hh
     |succ i=>
      obtain⟨b',q1,q2,q3,q4⟩:=ih (j0+1) os' g5 i p (by simpa using hi)
      refine⟨b',?_,q2,?_,q4⟩
      ·show get ((j0,b)::os') (j0+(i+1))=_;rw[dP _ _ (by omega),show j0+(i+1)=j0+1+i by omega];exact q1
      ·rw[show j0+(i+1)=j0+1+i by omega];exact q3
   have hI: ∀(j:Nat) p,c.ip.objs[j]? =some p→ ∃b,get og j=some b∧live b=true∧match p with| .cells ro dI=> ∃ls:List (bD G),b= .cells ro ls∧ls.length=dI.length|_=> ∀ro ls,b≠ .cells ro ls:=by
    intro j p hp;obtain⟨b,q1,q2,_,q4⟩:=hos c.ip.objs 0 og k2 j p hp;rw[Nat.zero_add]at q1;exact⟨b,q1,q2,q4⟩
   have X9: ∀j,j<c.ip.objs.length→ ∃o,get ren j=some o∧o<Eu∧pl1 o=jO ren pl1 j:=by
    intro j hj;obtain⟨_,_,_,⟨o,ho⟩,_⟩:=hos c.ip.objs 0 og k2 j _ (List.getElem?_eq_getElem hj);rw[Nat.zero_add]at ho;exact⟨o,ho,H.lt j o ho,(iM ho).symm⟩
   have H_: ∀(j:Nat) ro dI o,c.ip.objs[j]? =some (.cells ro dI)→get ren j=some o→ ∃ro' ls,get xK o=some (.cells ro' ls)∧ls.length=dI.length:=by
    intro j ro dI o hj ho;obtain⟨b,q1,q2,ls,q3,q4⟩:=hI j _ hj;subst q3;obtain⟨_,_,q5,_⟩:=k2.lV j _ q1;obtain⟨bb,T,cs,q6,q7,q8⟩:=q5;obtain⟨_,b1,hb1,hl1⟩:=H.bnd j o ho;have hO:=M1.ob o b1 hb1;rw[iM ho]at q6;cases b1 with
    |cells ro' ls'=>
     obtain⟨bb',T',cs',m1,m2,m3⟩:=hO;rw[q6]at m1;injection m1 with m1
     injection m1 with m1
     injection m1 with m1
     subst m1;rw[q7]at m2;injection m2 with m2
     injection m2 with m2
     have m2:cs=cs':=by simpa using m2
     subst m2;exact⟨ro',ls',hb1,by have:=m3.length;have:=q8.length;omega⟩
    |arr e t xs=>
     obtain⟨vs',o1,_⟩:=hO;rcases o1.2 with⟨m1,_⟩|⟨g,cap,cur,m1,_⟩<;>(rw[q6]at m1;cases m1)
    |tr e t xs=>
     obtain⟨vs',o1⟩:=hO;rcases o1.2 with⟨m1,_⟩|⟨g,cap,cur,m1,_⟩<;>(rw[q6]at m1;cases m1)
    |fo e t xs i off o2=>
     obtain⟨vs',o1⟩:=hO;rcases o1.2 with⟨m1,_⟩|⟨g,cap,cur,m1,_⟩<;>(rw[q6]at m1;cases m1)
    |sw e t xs n1 i1 n2 i2 st=>
     obtain⟨vs',o1⟩:=hO;rcases o1.2 with⟨m1,_⟩|⟨g,cap,cur,m1,_⟩<;>(rw[q6]at m1;cases m1)
    |tk e t xs n=>
     obtain⟨vs',o1⟩:=hO;rcases o1.2 with⟨m1,_⟩|⟨g,cap,cur,m1,_⟩<;>(rw[q6]at m1;cases m1)
    |mo t u x y tg=>
     exfalso
     cases tg with
     |none=>
      obtain⟨_,_,_,_,_,_,_,_,m1,_⟩:=hO;rw[q6]at m1;cases m1
     |some mc=>
      obtain⟨_,_,_,_,_,rr,_,_,_,m1,m2,_⟩:=hO;rw[q6]at m1;injection m1 with m1
      injection m1 with m1
      injection m1 with m1
      subst m1;rw[q7]at m2;cases m2
    |vU=>cases hl1
    |dead=>cases hl1
   have J5: ∀j b,get og j=some b→ ∀k,bk (jO ren pl1 j)=some k→Own w0.heap.size W b k:=by
    intro j b hg k hk;obtain⟨_,_,_,_,o,ho,hw,_⟩:=k2.lV j b hg;rw[iM ho]at hk;exact hw k hk
   have CS: ∀j k,k∈fI j→w0.heap.size≤k∨ ∀i,W k i:=by
    intro j k hk;obtain⟨_,o,_,_,_,h1⟩:=aav j k hk;exact TM.own o k h1
   have Dw: ∀b i,Given og (jO ren pl1) fI b i→(∃j o c1,get ren j=some o∧bk (pl1 o)=some b∧get xK o=some c1∧live c1=true)∨ ∃j bb o,get og j=some bb∧xR bb=true∧get ren j=some o∧b∈fM o:=by
    rintro b i (⟨j,ob',g1,g2,g3,_⟩|⟨j,g1⟩)
    ·obtain⟨_,_,_,_,o,ho,_⟩:=k2.lV j ob' g1;obtain⟨_,c1,hc1,hl1⟩:=H.bnd j o ho;rw[iM ho]at g3;exact .inl ⟨j,o,c1,ho,g3,hc1,hl1⟩
    ·obtain⟨bb,o,g2,g2b,g3,g4⟩:=aav j b g1;exact .inr ⟨j,bb,o,g2,g2b,g3,g4⟩
   have hz1: ∀b i,Z1 b i→ ∀i',¬Given og (jO ren pl1) fI b i':=by
    intro b i hz i' hg;rcases Dw b i' hg with⟨j,o,c1,_,g2,g3,g4⟩|⟨j,_,o,_,_,_,g4⟩
    ·exact M1.dU o c1 b g3 g4 g2 i hz
    ·exact TM.dU o b g4 i hz
   have post: ∀v w',(∃Z' pr,
     (∀t d,get (cZ c.rp (eY c.oq r0)).tmps t=some d→eU Z' w' pr (cZ c.rp (eY c.oq r0)).nx d (vY c.rp.tmps.length v t))∧
     (c.rp.tmps.length=1∨ ∃vs:List Value,v= .tuple vs.toArray∧vs.length=c.rp.tmps.length)∧
     Mem ⟨Given og (jO ren pl1) fI,Z1,iU 0 c.ip.objs,jO ren pl1⟩ w Z' pr (cZ c.rp (eY c.oq r0)).objs (cZ c.rp (eY c.oq r0)).nx w')→next (a.put o.dst v) w':=by
    rintro v w' ⟨Z2,pr,ZP,ab7,M2⟩;have z1:=M2.z0;have z2:=M2.zn;have hpr: ∀j p,c.ip.objs[j]? =some p→nZ p=true→pr j=jO ren pl1 j:=fun j p hj hp=>(M2.fx j (zf.2 ⟨j,p,(Nat.zero_add j).symm,hj,hp⟩)).2
    have eR:cZ c.rp (eY c.oq r0)=⟨(fU (fun j=>j) c.rp.tmps (eY c.oq r0)).1,(gu (fun j=>j) 0 c.rp.objs (fU (fun j=>j) c.rp.tmps (eY c.oq r0)).2).1,c.rp.objs.length⟩:=by simp only[cZ,len_eq]
    rw[eR]at ZP M2;simp only at ZP M2;have fin: ∀(BI:List (Nat×Ob G)) (wO:Nat) (ZB Zr:Nat→Nat→Prop) (EL:Nat→Value) (fB:Nat→List Nat),G5 E o c ren r0 tm BI wO K=some r→Mem W w0 ZB EL BI wO w→eH W w0.heap.size ZB EL BI wO w fB→(∀o k,k∈fB o→ ∀i,¬Given og (jO ren pl1) fI k i)→Ext Z w pl nx ZB w EL wO→
      (∀j,j<c.ip.objs.length→ ∃o,get ren j=some o∧o<wO∧EL o=jO ren pl1 j)→(∀(j:Nat) ro dI o,c.ip.objs[j]? =some (.cells ro dI)→get ren j=some o→ ∃ro' ls,get BI o=some (.cells ro' ls)∧ls.length=dI.length)→
      (∀(j:Nat) p o b,c.ip.objs[j]? =some p→isRow p=true→get ren j=some o→get BI o=some b→live b=true→False)→(∀o b k,get BI o=some b→live b=true→bk (EL o)=some k→(∀j,get ren j≠some o)→ ∀i,¬Given og (jO ren pl1) fI k i)→
      (∀b i,ZB b i→ ∀i',¬Given og (jO ren pl1) fI b i')→(∀b i,ZB b i→Zr b i)→(∀b i,Zr b i→ZB b i∨w.heap.size≤b∨ ∀j,Given og (jO ren pl1) fI b j)→
      (∀t d,get (fU (fun j=>j) c.rp.tmps (eY c.oq r0)).1 t=some d→eU Zr w' pr c.rp.objs.length d (vY c.rp.tmps.length v t))→
      (∃za fa pa,Mem ⟨Given og (jO ren pl1) fI,za,fa,pa⟩ w Zr pr (gu (fun j=>j) 0 c.rp.objs (fU (fun j=>j) c.rp.tmps (eY c.oq r0)).2).1 c.rp.objs.length w')→next (a.put o.dst v) w':=by
     intro BI wO ZB Zr EL fB hafter MB TB hfB X0 aaw WS YZ Uz hzB hzI hzN ab8 ⟨za,fa,pa,M2R⟩;obtain⟨hNF,X,M3⟩:=QU hc.wf MI MB TI TB hfB M2R rfl aaw Uy H.inj WS hI YZ J5 CS Uz hzB hzI hzN hpr;obtain⟨t1,t2⟩:=FN (Z:=Zr) (w:=w') hNF (ps:=c.rp.tmps) (vs:=eY c.oq r0);simp only[G5]at hafter;rw[t1,len_eq]at hafter;have hkeys:(fU (y8 c.ip.objs ren wO) c.rp.tmps (eY c.oq r0)).1.map (·.1)=c.rp.tmps.map (·.1):=wP
     have hl:(fU (y8 c.ip.objs ren wO) c.rp.tmps (eY c.oq r0)).1.length=c.rp.tmps.length:=by rw[←List.length_map (f:=fun x=>x.1),hkeys,List.length_map]
     have hd:=WR (Z:=Zr) (w:=w') (ds:=(fU (y8 c.ip.objs ren wO) c.rp.tmps (eY c.oq r0)).1) (v:=v) (by rw[hkeys,hl];exact zq hc.keys) (fun t d hg=>by
      obtain⟨d',q1,q2⟩:=t2 t d hg;rw[hl];exact q2 _ (ab8 t d' q1)) (by rw[hl];exact ab7)
     exact out_ok hafter (S.at (L':=⟨tm,_,_⟩) (X0.trans X) M3 rfl) hd hK
    split at h
    ·
     rename_i hbr
     split at h
     ·rename_i hnx;have hnx:=Nat.eq_of_beq_eq_true hnx;subst hnx;have hbo:=hc.Pj hbr;simp only[Uc]at hbo
      split at hbo
      ·rename_i b1 b2;obtain⟨tsT,tsO,hbT,hbO⟩: ∃tsT tsO,QD c.oq c.rp.tmps=some tsT∧ML G tsT c.rp.objs=some tsO:=by
        unfold XR at b2
        split at b2
        ·rename_i tsT h1
         split at b2
         ·rename_i tsO h2;exact⟨tsT,tsO,h1,h2⟩
         ·cases b2
        ·cases b2
       have Y0: ∀o,o<nx→pl1 o=pl o:=H.step.ext.hp;have yf: ∀(ps:List jY),TR ps=true→ ∀(j:Nat) p,isRow p=true→ps[j]? ≠some p:=by
        intro ps
        induction ps with
        |nil=>intro _ j p _ h;simp at h
        |cons p ps ih=>
         intro hh j q hq h;cases p with
         |arr=>cases hh
         |ow=>cases hh
         |mo=>cases hh
         |tk=>cases hh
         |cells ro l=>
          cases j with
          |zero=>injection h with h;subst h;cases hq
          |succ j=>exact ih hh j q hq (by simpa using h)
       have hold: ∀j o,get ren j=some o→ ∃ro ls,get ob o=some (.cells ro ls)∧get xK o=some (.cells ro ls):=by
        intro j o ho;have hj:=Uy j o ho;cases hp:c.ip.objs[j]? with
        |none=>rw[List.getElem?_eq_getElem hj]at hp;cases hp
        |some p=>
         cases p with
         |arr e t=>exact absurd hp (yf _ b1 j _ rfl)
         |ow kp tree e t=>exact absurd hp (yf _ b1 j _ rfl)
         |mo t u tg=>exact absurd hp (yf _ b1 j _ rfl)
         |tk e t=>exact absurd hp (yf _ b1 j _ rfl)
         |cells ro l=>
          obtain⟨ro',ls,q1,_⟩:=H_ j ro l o hp ho;rcases H.back o _ q1 rfl with q|q
          ·exact⟨ro',ls,q,q1⟩
          ·exact absurd (H.lt j o ho) (by have:nx≤o:=q;show¬o<nx;omega)
       have UH: ∀j bb,get og j=some bb→xR bb=true→False:=by
        intro j bb hg hbb;obtain⟨_,hj2,_⟩:=k2.lV j _ hg;rw[Nat.zero_add]at hj2;obtain⟨b',q1,q2,q3⟩:=hI j _ (List.getElem?_eq_getElem hj2);cases hp:c.ip.objs[j]'hj2 with
        |arr e t=>exact yf _ b1 j _ rfl (by rw[List.getElem?_eq_getElem hj2,hp])
        |ow kp tree e t=>exact yf _ b1 j _ rfl (by rw[List.getElem?_eq_getElem hj2,hp])
        |mo t u tg=>exact yf _ b1 j _ rfl (by rw[List.getElem?_eq_getElem hj2,hp])
        |tk e t=>exact yf _ b1 j _ rfl (by rw[List.getElem?_eq_getElem hj2,hp])
        |cells ro l=>
         rw[hp]at q3;obtain⟨ls,q3,_⟩:=q3;rw[hg]at q1;injection q1 with q1
         rw[q3]at q1;subst q1;cases hbb
       obtain⟨f0,T0⟩:=S.mem.tr;refine fin ob nx Z Z pl f0 h S.mem T0 (fun o k hk i hgi=> ?_) (Ext.refl _ _ _ _) (fun j hj=> ?_) (fun j ro dI o hj ho=> ?_) (fun j p o b hj hp=>absurd hj (yf _ b1 j p hp)) (fun o b k hg hl hk hnb i hgi=> ?_) (fun b i hz=>hz1 b i (H.step.ext.hZ b i hz)) (fun _ _ h=>h) (fun _ _ h=> .inl h)
        (fun t d hg=>(Dv hbT J8).1 hg (ZP t d hg)) ?_
       ·rcases Dw k i hgi with⟨j,o',c1,g1,g2,g3,g4⟩|⟨j,bb,o',g1,ZQ,_⟩
        ·obtain⟨ro2,Hf,q3,q4⟩:=hold j o' g1;rw[Y0 o' (S.mem.lt o' _ q3)]at g2;exact T0.root o k o' _ hk q3 rfl g2
        ·exact UH j bb g1 ZQ
       ·obtain⟨o,q1,q2,q3⟩:=X9 j hj;exact⟨o,q1,q2,by rw[←Y0 o q2];exact q3⟩
       ·obtain⟨ro',ls,q1,q2⟩:=H_ j ro dI o hj ho;obtain⟨ro2,Hf,q3,q4⟩:=hold j o ho;rw[q1]at q4;injection q4 with q4
        injection q4 with e1 e2
        subst e1 e2;exact⟨ro',ls,q3,q2⟩
       ·rcases Dw k i hgi with⟨j,o',c1,g1,g2,g3,g4⟩|⟨j,bb,o',g1,ZQ,_⟩
        rotate_left
        ·exact UH j bb g1 ZQ
        obtain⟨ro2,Hf,q3,q4⟩:=hold j o' g1;rw[Y0 o' (S.mem.lt o' _ q3)]at g2;have:=S.mem.sep o o' b _ k hg hl q3 rfl hk g2;subst this;exact hnb j g1
       ·have hrest:=(Dv (Z:=Z2) (Z':=Z) (w:=w') (pl:=pr) (n:=c.rp.objs.length) (f:=fun j=>j) hbT (J8 (h:=r0))).2
        refine⟨Z,[],pl,?_⟩;exact⟨M2.lt,fun o b hg=>yc hbO hrest hg (M2.ob o b hg),M2.sep,M2.own,fun o b k hg hl hk i hz=>M2.dU o b k hg hl hk i (z1 k i (H.step.ext.hZ k i hz)),fun b i hz=>M2.qL b i (z1 b i (H.step.ext.hZ b i hz)),fun _ _ h=> .inl h,fun _ _ h=>h,fun j hj=>absurd hj List.not_mem_nil,⟨M2.fr.os,M2.fr.tape,M2.fr.output,M2.fr.size,M2.fr.blk,M2.fr.YD⟩,M2.tr.elim fun f2 T2=>⟨f2,{T2 with rep:=fun o b hg=>uG hbO hrest hg (T2.rep o b hg),dU:=fun o k hk j hz=>T2.dU o k hk j (z1 k j (H.step.ext.hZ k j hz))}⟩⟩
      ·cases hbo
     ·cases h
    ·obtain⟨MK,TK⟩:=qB (ren:=ren) (ps:=c.ip.objs) (j:=0) M1 TM H.lt;have hkd: ∀(j:Nat) p o b,c.ip.objs[j]? =some p→isRow p=true→get ren j=some o→get (gq ren 0 c.ip.objs xK) o=some b→live b=true→False:=by
      intro j p o b hj hp ho hg hl;have:=(nH hg hl).2 j p hj hp;rw[Nat.zero_add]at this;exact this ho
     let fB:Nat→List Nat:=fun o=>if J9 og ren c.ip.objs.length o=true then [] else fM o
     have ab_: ∀o k,k∈fB o→k∈fM o∧ ∀j bb,get og j=some bb→xR bb=true→get ren j≠some o:=by
      intro o k hk;have hk:k∈(if J9 og ren c.ip.objs.length o=true then [] else fM o):=hk
      split at hk
      ·cases hk
      ·rename_i hn;refine⟨hk,fun j bb hg hb ho=>hn ?_⟩
       exact FQ.2 ⟨j,bb,Uy j o ho,hg,hb,ho⟩
     have TB:eH W w0.heap.size Z1 pl1 (gq ren 0 c.ip.objs xK) Eu w fB:=TK.sub fun o=>by
      by_cases hn:J9 og ren c.ip.objs.length o=true
      ·refine .inr ⟨if_pos hn,fun b hg=> ?_⟩
       obtain⟨j,bb,hj2,hq,hqb,hmr⟩:=FQ.1 hn;cases hl:live b with
       |false=>rfl
       |true=>
        exfalso
        obtain⟨b2,q1,q2,q3⟩:=hI j _ (List.getElem?_eq_getElem hj2);rw[hq]at q1;injection q1 with q1
        subst q1;cases hp:c.ip.objs[j]'hj2 with
        |arr e t=>exact hkd j _ o b (by rw[List.getElem?_eq_getElem hj2,hp]) rfl hmr hg hl
        |ow kp tree e t=>exact hkd j _ o b (by rw[List.getElem?_eq_getElem hj2,hp]) rfl hmr hg hl
        |mo t u tg=>exact hkd j _ o b (by rw[List.getElem?_eq_getElem hj2,hp]) rfl hmr hg hl
        |tk e t=>exact hkd j _ o b (by rw[List.getElem?_eq_getElem hj2,hp]) rfl hmr hg hl
        |cells ro l=>
         rw[hp]at q3;obtain⟨ls,q3,_⟩:=q3;subst q3;cases hqb
      ·exact .inl (if_neg hn)
     refine fin (gq ren 0 c.ip.objs xK) Eu Z1 Z2 pl1 fB h MK TB (fun o k hk i hgi=> ?_) H.step.ext X9 (fun j ro dI o hj ho=> ?_) hkd (fun o b k hg hl hk hnb i hgi=> ?_) hz1 z1 z2 ZP ⟨_,_,_,M2⟩
     ·obtain⟨h1,h2⟩:=ab_ o k hk;rcases Dw k i hgi with⟨j,o',c1,g1,g2,g3,g4⟩|⟨j,bb,o',g1,ZQ,g2,g3⟩
      ·exact TM.root o k o' c1 h1 g3 g4 g2
      ·have:=TM.sep o o' k h1 g3;subst this;exact h2 j bb g1 ZQ g2
     ·obtain⟨ro',ls,q1,q2⟩:=H_ j ro dI o hj ho;refine⟨ro',ls,?_,q2⟩;rw[qA (fun i p hi hp hr=> ?_)]
      ·exact q1
      ·rw[Nat.zero_add]at hr;have:=H.inj i j o hr ho;subst this;rw[hj]at hi;injection hi with hi;subst hi;cases hp
     ·have hg1:=(nH hg hl).1;rcases Dw k i hgi with⟨j,o',c1,g1,g2,g3,g4⟩|⟨j,bb,o',g1,ZQ,g2,g3⟩
      rotate_left
      ·exact TM.root o' k o b g3 hg1 hl hk
      have:=M1.sep o o' b c1 k hg1 hl g3 g4 hk g2;subst this;exact hnb j g1
   rcases hrun with⟨v,w',q1,q2⟩|⟨q1,q2⟩
   ·exact CV (ab5 v w' q1) (post v w' q2)
   ·unfold Oper.wp;rw[ab6 q1,Oper.upon_enter];exact q2.mono fun e w'' ⟨v,e1,q⟩=>by subst e1;exact post v w'' q
  ·cases h
 ·cases h
end
end Go.Proofs.YtmcbhnbemhfifaaGreatDoor.RX
namespace Go.Proofs.YtmcbhnbemhfifaaGreatDoor.RX.K
section
open Go Go.Proofs.YtmcbhnbemhfifaaGreatDoor.RX
def Ev {α:Type} (g:Nat→Option α) (r:α):Prop:= ∃K,∀k,K≤k→g k=some r
section
variable {α β:Type} {r:α}
theorem Ev.now (r:α):Ev (fun _=>some r) r:=⟨0,fun _ _=>rfl⟩
theorem Ev.of {g:Nat→Option α} (h: ∀k,g k=some r):Ev g r:=⟨0,fun k _=>h k⟩
theorem Ev.eq {g:Nat→Option α} {r':α} (h:Ev g r) (e:r=r'):Ev g r':=e▸h
theorem Ev.bind {g:Nat→Option α} {h:Nat→α→Option β} {b:β} (hg:Ev g r) (hh:Ev (fun k=>h k r) b):Ev (fun k=>(g k).bind (h k)) b:=by
 obtain⟨K,hK⟩:=hg;obtain⟨K',hK'⟩:=hh;exact⟨max K K',fun k hk=>by show(g k).bind (h k)=_;rw[hK k (by omega)];exact hK' k (by omega)⟩
theorem Ev.shift {g:Nat→Option α} (h:Ev (fun k=>g (k+1)) r):Ev g r:=by
 obtain⟨K,hK⟩:=h;refine⟨K+1,fun k hk=> ?_⟩
 obtain⟨m,rfl⟩: ∃m,k=m+1:=⟨k-1,by omega⟩
 exact hK m (by omega)
theorem Ev.det {g:Nat→Option α} {q:α} (h:Ev g r) (h':Ev g q):r=q:=by
 obtain⟨K,hK⟩:=h;obtain⟨K',hK'⟩:=h';have h1:=hK (max K K') (Nat.le_max_left _ _);rw[hK' (max K K') (Nat.le_max_right _ _)]at h1;exact(Option.some.inj h1).symm
theorem Ev.some {g:Nat→Option α} (h:Ev g r): ∃k,g k=some r:=by
 obtain⟨K,hK⟩:=h;exact⟨K,hK K (Nat.le_refl _)⟩
theorem Ev.congr {g h:Nat→Option α} (e: ∀k,g k=h k) (H:Ev h r):Ev g r:=by rwa [show g=h from funext e]
theorem Ev.ite {c:Prop} [Decidable c] {g f:Nat→Option α} (h1:c→Ev g r) (h2: ¬c→Ev f r):Ev (fun k=>if c then g k else f k) r:=by
 by_cases h:c
 ·simpa only[if_pos h]using h1 h
 ·simpa only[if_neg h]using h2 h
end
def aH {α:Type} (g:Nat→Option α) (P:α→Prop):Prop:= ∃r,P r∧Ev g r
section
variable {α β:Type} {P Q:α→Prop}
theorem aH.of {g:Nat→Option α} {r:α} (h:Ev g r) (p:P r):aH g P:=⟨r,p,h⟩
theorem aH.now {r:α} (h:P r):aH (fun _=>Option.some r) P:=⟨r,h,Ev.now r⟩
theorem aH.bind {g:Nat→Option α} {h:Nat→α→Option β} {S:β→Prop} (hg:aH g P) (hh: ∀r,P r→aH (fun k=>h k r) S):aH (fun k=>(g k).bind (h k)) S:=by
 obtain⟨r,p,e⟩:=hg;obtain⟨s,q,e'⟩:=hh r p;exact⟨s,q,e.bind e'⟩
theorem aH.shift {g:Nat→Option α} (h:aH (fun k=>g (k+1)) P):aH g P:=by
 obtain⟨r,p,e⟩:=h;exact⟨r,p,e.shift⟩
theorem aH.mono {g:Nat→Option α} (h:aH g P) (hq: ∀r,P r→Q r):aH g Q:=by
 obtain⟨r,p,e⟩:=h;exact⟨r,hq r p,e⟩
theorem aH.congr {g h:Nat→Option α} (e: ∀k,g k=h k) (H:aH h P):aH g P:=by rwa [show g=h from funext e]
theorem aH.ite {c:Prop} [Decidable c] {g f:Nat→Option α} (h1:c→aH g P) (h2: ¬c→aH f P):aH (fun k=>if c then g k else f k) P:=by
 by_cases h:c
 ·simpa only[if_pos h]using h1 h
 ·simpa only[if_neg h]using h2 h
end
theorem eu {x:Int} (h0: -9223372036854775808≤x) (h1:x≤9223372036854775807):IntKind.i64.wrap x=x:=by rw[IntKind.wrap_i64];omega
theorem g_ {α:Type} (d:α) (l:List α) (i:Nat) (h:i<l.length):aF d l (i:Int)=l[i]:=by
 simp[aF,List.getD_eq_getElem?_getD,h]
theorem dF {α:Type} (d:α) (l:List α) (i:Int) (h0:0≤i) (h:i<(l.length:Int)):aF d l i∈l:=by
 obtain⟨n,rfl⟩:=Int.eq_ofNat_of_zero_le h0;rw[g_ d l n (by omega)]
 exact List.getElem_mem _
theorem Np {α:Type} (l:List α) {P:Int→List α→Prop} (h0:P (l.length:Int) [])
  (hs: ∀(i:Int) (x:α) (r:List α),0≤i→i<(l.length:Int)→(∀d,aF d l i=x)→x∈l→(l.length:Int)=i+1+(r.length:Int)→l.drop i.toNat=x::r→l.take (i.toNat+1)=l.take i.toNat++ [x]→P (i+1) r→P i (x::r)):
  ∀n:Nat,n≤l.length→P (n:Int) (l.drop n):=by
 intro n hn
 induction hm:l.length-n generalizing n with
 |zero=>
  have:n=l.length:=by omega
  subst this;rw[List.drop_eq_nil_of_le (Nat.le_refl _)];exact h0
 |succ m ih=>
  have hlt:n<l.length:=by omega
  rw[List.drop_eq_getElem_cons hlt];have:=ih (n+1) (by omega) (by omega)
  refine hs n l[n] _ (by omega) (by omega) (fun d=>g_ d l n hlt) (List.getElem_mem _) (by rw[List.length_drop];omega) ?_ ?_ (by simpa using this)
  ·rw[Int.toNat_natCast];exact List.drop_eq_getElem_cons hlt
  ·rw[Int.toNat_natCast,List.take_succ_eq_append_getElem hlt]
theorem dG {α:Type} (l:List α) {P:Int→List α→Prop} (h0:P (l.length:Int) [])
  (hs: ∀(i:Int) (x:α) (r:List α),0≤i→i<(l.length:Int)→(∀d,aF d l i=x)→x∈l→(l.length:Int)=i+1+(r.length:Int)→l.drop i.toNat=x::r→l.take (i.toNat+1)=l.take i.toNat++ [x]→P (i+1) r→P i (x::r)):P 0 l:=Np l h0 hs 0 (Nat.zero_le _)
theorem UI {α:Type} (l:List α) {P:Int→List α→Prop} (h0:P (-1) [])
  (hs: ∀(i:Int) (x:α) (r:List α),0≤i→i<(l.length:Int)→(∀d,aF d l i=x)→x∈l→i=(r.length:Int)→l.take i.toNat=r→P (i-1) r→P i (r++ [x])):P ((l.length:Int)-1) l:=by
 have key: ∀n:Nat,n≤l.length→P ((n:Int)-1) (l.take n):=by
  intro n
  induction n with
  |zero=>intro _;simpa using h0
  |succ n ih=>
   intro hn;have hlt:n<l.length:=by omega
   rw[List.take_succ_eq_append_getElem hlt,show((n+1:Nat):Int)-1=(n:Int) by omega]
   exact hs n l[n] _ (by omega) (by omega) (fun d=>g_ d l n hlt) (List.getElem_mem _) (by rw[List.length_take];omega) (by simp) (ih (by omega))
 simpa using key l.length (Nat.le_refl _)
theorem goUp {P:Int→Prop} (n:Int) (h0: ∀i,n≤i→P i) (hs: ∀i,i<n→P (i+1)→P i) (i:Int):P i:=by
 by_cases h:n≤i
 ·exact h0 i h
 ·obtain⟨m,hm⟩: ∃m:Nat,n=i+m:=⟨(n-i).toNat,by omega⟩
  clear h
  induction m generalizing i with
  |zero=>exact h0 i (by omega)
  |succ m ih=>exact hs i (by omega) (ih (i+1) (by omega))
theorem goDown {P:Int→Prop} (h0: ∀i,i≤0→P i) (hs: ∀i,0<i→P (i-1)→P i) (i:Int):P i:=by
 obtain⟨m,hm⟩: ∃m:Nat,i≤m:=⟨i.toNat,by omega⟩
 induction m generalizing i with
 |zero=>exact h0 i (by omega)
 |succ m ih=>
  by_cases h:i≤0
  ·exact h0 i h
  ·exact hs i (by omega) (ih (i-1) (by omega))
theorem uH {α:Type} {l r:List α} {x d:α} {i:Int} (h:(l.length:Int)=i):(l++x::r).getD i.toNat d=x:=by
 rw[show i.toNat=l.length by omega]
 simp[List.getD_eq_getElem?_getD]
theorem UJ {α:Type} {l r:List α} {x d:α} {i:Int} (h:(l.length:Int)=i):aF d (l++x::r) i=x:=uH h
theorem Ia {α:Type} {l r:List α} {x y:α} {i:Int} (h:(l.length:Int)=i):(l++x::r).set i.toNat y=(l++ [y])++r:=by
 rw[show i.toNat=l.length by omega]
 simp
theorem toList_data (c:ByteArray):c.toList=c.data.toList:=by
 have hl: ∀(i:Nat) (r:List UInt8),i≤c.size→ByteArray.toList.loop c i r=r.reverse++c.data.toList.drop i:=by
  intro i r hi
  induction hd:c.size-i generalizing i r with
  |zero=>
   have:i=c.size:=by omega
   subst this;unfold ByteArray.toList.loop;have hz:c.data.toList.drop c.size= []:=List.drop_eq_nil_of_le (by rw[Array.length_toList];exact Nat.le_refl _)
   simp[hz]
  |succ d ih=>
   have hlt:i<c.size:=by omega
   unfold ByteArray.toList.loop;rw[if_pos hlt,ih (i+1) (c.get! i::r) (by omega) (by omega)]
   have hlt':i<c.data.toList.length:=by rw[Array.length_toList];exact hlt
   rw[List.drop_eq_getElem_cons hlt'];have:c.get! i=c.data.toList[i]:=by
    show c.data[i]! =_;rw[getElem!_pos c.data i hlt,Array.getElem_toList]
   simp[this]
 unfold ByteArray.toList;rw[hl 0 [] (Nat.zero_le _)];simp
theorem toList_inj {a b:ByteArray}:a.toList=b.toList↔a=b:=by
 refine⟨fun h=> ?_,fun h=>h▸rfl⟩
 rw[toList_data,toList_data]at h;cases a;cases b
 simpa using h
theorem Ko (s:ByteArray):s.toList.length=s.size:=by rw[toList_data,Array.length_toList];rfl
theorem o8 (s:ByteArray):bytesOf s=s.toList.map fun b=>(b.toNat:Int):=by rw[toList_data];rfl
theorem bytesOf_length (s:ByteArray):(bytesOf s).length=s.size:=by rw[o8,List.length_map,Ko]
theorem Kq {a b:ByteArray}:bytesOf a=bytesOf b↔a=b:=by
 refine⟨fun h=>toList_inj.1 ?_,fun h=>h▸rfl⟩
 rw[o8,o8]at h;exact(List.map_inj_right (fun x y e=>UInt8.toNat_inj.1 (by omega))).1 h
theorem lg (s:ByteArray) (a b:Nat):bytesOf (s.extract a b)=((bytesOf s).take b).drop a:=by
 unfold bytesOf;rw[←List.map_take,←List.map_drop]
 congr 1
 rw[ByteArray.data_extract,Array.toList_extract];simp[List.extract,List.drop_take]
theorem Ah (s:ByteArray) (i:Int):bt s i=aF 0 (bytesOf s) i:=by
 unfold bt aF bytesOf;rw[List.getD_eq_getElem?_getD,List.getElem?_map,Array.getElem?_toList,Array.getD_eq_getD_getElem?];cases s.data[i.toNat]? <;>rfl
theorem Ib (s:ByteArray): ∀c∈bytesOf s,0≤c∧c≤255:=by
 intro c h;unfold bytesOf at h;obtain⟨b,_,rfl⟩:=List.mem_map.1 h;have:=b.toNat_lt;omega
def leB (a b:Int):Bool:=decide (a≤b)
theorem PU {a b:Int} (h:a≤b):leB a b=true:=decide_eq_true h
theorem UK {a b:Int} (h: ¬a≤b):leB a b=false:=decide_eq_false h
theorem wQ {x n:Int} (hx:0≤x) (hn:0<n):0≤x.tmod n∧x.tmod n<n:=⟨Int.tmod_nonneg _ hx,Int.tmod_lt_of_pos _ hn⟩
theorem Dx {x n:Int} (hx:0≤x) (hn:0≤n):0≤x.tdiv n∧x.tdiv n≤x:=⟨Int.tdiv_nonneg hx hn,Int.tdiv_le_self _ hx⟩
theorem QV {x y:Int} (hx0:0≤x) (hx:x<4611686018427387904) (hy0:0≤y) (hy:y<4611686018427387904):0≤IntKind.i64.wrap ((BitVec.ofInt IntKind.i64.bits x^^^BitVec.ofInt IntKind.i64.bits y).toNat:Int):=by
 obtain⟨a,rfl⟩:=Int.eq_ofNat_of_zero_le hx0;obtain⟨b,rfl⟩:=Int.eq_ofNat_of_zero_le hy0;have h:a^^^b<2^62:=Nat.xor_lt_two_pow (by omega) (by omega)
 have ha:(BitVec.ofInt 64 (a:Int)).toNat=a:=by rw[BitVec.toNat_ofInt];omega
 have hb:(BitVec.ofInt 64 (b:Int)).toNat=b:=by rw[BitVec.toNat_ofInt];omega
 show 0≤IntKind.i64.wrap ((BitVec.ofInt 64 (a:Int)^^^BitVec.ofInt 64 (b:Int)).toNat:Int);rw[BitVec.toNat_xor,ha,hb,eu (by omega) (by omega)]
 omega
end
end Go.Proofs.YtmcbhnbemhfifaaGreatDoor.RX.K
namespace Go.Proofs.YtmcbhnbemhfifaaGreatDoor.RX
section
open Go Go.RowKit Go.MapKept
open Go.ChangeMaps (setBlock)
variable {G:jf} {R:Type} {P:Program} {W:fA} {w0 w w':World} {Z Z':Nat→Nat→Prop} {pl dI:Nat→Value} {N:Nat}
variable {E:Env G R} {o:Oper} {L:St G} {K:St G→Option R} {r:R} {a:Act} {next:Act→World→Prop} {Q:Exit→Act→World→Prop}
theorem Jo.rep {t:Ty} {x:G.D t} {v:Value} (h:Jo G t x v):bP G Z w t x [v]∧v.oneCell'=true:=by
 cases t with
 |int k=>have h:v= .int k x:=h;subst h;exact⟨.int k x,rfl⟩
 |bool=>have h:v= .bool x:=h;subst h;exact⟨.bool x,rfl⟩
 |str=>have h:v= .string x:=h;subst h;exact⟨.str x,rfl⟩
 |sl e t=>exact h.elim
 |st s=>exact h.elim
 |po t=>exact h.elim
theorem Jo.of {t:Ty} {x:G.D t} {v:Value} (hs:pV t=true) (h:bP G Z w t x [v]):Jo G t x v:=by
 generalize hq: [v]=q at h;cases h with
 |int k x=>injection hq
 |bool b=>injection hq
 |str s=>injection hq
 |sl=>cases hs
 |st=>cases hs
 |pn=>cases hs
 |ps=>cases hs
theorem Jo.key {t:Ty} {x:G.D t} {v:Value} (hk:G6 t=true) (h:Jo G t x v):IsKey (descOf t) v:=by
 cases t with
 |int k=>have h:v= .int k x:=h;subst h;exact rfl
 |str=>have h:v= .string x:=h;subst h;exact trivial
 |bool=>cases hk
 |sl e t=>exact h.elim
 |st s=>exact h.elim
 |po t=>exact h.elim
theorem Nq (S:Sat N W w0 Z pl L a w) {t:Ty} {x:Operand} {k:G.D t} (h:ZY t (dB L x) L=some k):Jo G t k (a.eval x):=by
 unfold ZY at h
 split at h
 ·rename_i l hs hx
  split at h
  ·rename_i v L1 hv;have hu:gB Z w pl L.nx l (a.eval x):=aK S hx;obtain⟨Z1,_,_,R1⟩:=xP hv S.mem hu;have:=fQ h;subst this;exact Jo.of hs R1
  ·cases h
 ·cases h
theorem yg (S:Sat N W w0 Z pl L a w) {kt vt:Ty} {x:Operand} {i:Nat} {ks:List (G.D kt)} {vs:List (G.D vt)} (h:mapOf L kt vt (dB L x)=some (i,ks,vs)):
  get L.objs i=some (.mo (.sl 0 kt) (.sl 0 vt) ks vs none)∧a.eval x=pl i∧ ∃r es,pl i= .map (some r)∧w.heap[r]? =some (.map es es.size)∧oz G kt vt ks vs es.toList 0:=by
 unfold mapOf at h
 split at h
 ·rename_i o' hx
  split at h
  ·rename_i t u y z hg
   split at h
   ·rename_i ks' vs' h1 h2;simp only[Option.some.injEq,Prod.mk.injEq]at h;obtain⟨rfl,rfl,rfl⟩:=h;have e1:=fQ h1;have e2:=fQ h2;injection e1 with e1 e1'
    injection e2 with e2 e2'
    subst e1 e2;have e1':=eq_of_heq e1';have e2':=eq_of_heq e2';subst e1' e2';have hu:gB Z w pl L.nx (.h_ o':bD G) (a.eval x):=aK S hx;refine⟨hg,hu.1.2,?_⟩;obtain⟨kt',vt',ks',vs',e1,e2,r,es,k1,k2,k3⟩:=S.mem.ob o' _ hg;injection e1 with e1 e1'
    injection e2 with e2 e2'
    injection e1 with _ e1
    injection e2 with _ e2
    subst e1 e2;have e1':=eq_of_heq e1';have e2':=eq_of_heq e2';subst e1' e2';exact⟨r,es,k1,k2,k3⟩
   ·cases h
  ·cases h
 ·cases h
theorem Ic (ht:fJ P G) {T:TypeId} {kt vt:Ty} (h:We (G.tab T)=some (kt,vt)):G6 kt=true∧pV vt=true∧ ∃k e i,P.underlying T=some (.map k e)∧P.underlying k=some (descOf kt)∧P.info? e=some i∧i.zero=some (zv (.t vt)):=by
 unfold We at h
 split at h
 ·rename_i kt' vt' fl ag ty hT
  split at h
  ·rename_i h1 h2;simp only[Option.some.injEq,Prod.mk.injEq]at h;obtain⟨rfl,rfl⟩:=h;exact⟨h1,h2,(ht T _ hT).mp kt' vt' rfl h1 h2⟩
  ·cases h
 ·cases h
section lists
variable {kt vt:Ty}
theorem oz.length: ∀{ks:List (G.D kt)} {vs:List (G.D vt)} {es:List MapEntry} {i:Nat},oz G kt vt ks vs es i→ks.length=es.length∧vs.length=es.length
 | [],[],[],_,_=>⟨rfl,rfl⟩
 |k::ks,v::vs,e::es,i,h=>by
  obtain⟨a,b⟩:=oz.length h.2.2.2;exact⟨by rw[List.length_cons,List.length_cons,a],by rw[List.length_cons,List.length_cons,b]⟩
 | [],[],_::_,_,h=>h.elim
 | [],_::_,_,_,h=>h.elim
 |_::_,[],_,_,h=>h.elim
 |_::_,_::_,[],_,h=>h.elim
theorem oz.at: ∀{ks:List (G.D kt)} {vs:List (G.D vt)} {es:List MapEntry} {i:Nat},oz G kt vt ks vs es i→ ∀(j:Nat) e,es[j]? =some e→ ∃k v,ks[j]? =some k∧vs[j]? =some v∧Jo G kt k e.key∧Jo G vt v e.val∧e.born=i+j
 | [],[],[],_,_,j,e,he=>by simp at he
 |k::ks,v::vs,e::es,i,h,j,e',he=>by
  cases j with
  |zero=>injection he with he;subst he;exact⟨k,v,rfl,rfl,h.1,h.2.1,h.2.2.1⟩
  |succ j=>
   obtain⟨k',v',a,b,c,d,f⟩:=oz.at h.2.2.2 j e' (by simpa using he)
   exact⟨k',v',by simpa using a,by simpa using b,c,d,by omega⟩
 | [],[],_::_,_,h,_,_,_=>h.elim
 | [],_::_,_,_,h,_,_,_=>h.elim
 |_::_,[],_,_,h,_,_,_=>h.elim
 |_::_,_::_,[],_,h,_,_,_=>h.elim
theorem oz.push {k:G.D kt} {v:G.D vt} {ek ev:Value} (hk:Jo G kt k ek) (hv:Jo G vt v ev): ∀{ks:List (G.D kt)} {vs:List (G.D vt)} {es:List MapEntry} {i:Nat},oz G kt vt ks vs es i→oz G kt vt (ks++ [k]) (vs++ [v]) (es++ [⟨ek,ev,i+es.length⟩]) i
 | [],[],[],i,_=>⟨hk,hv,rfl,trivial⟩
 |k'::ks,v'::vs,e::es,i,h=>by
  refine⟨h.1,h.2.1,h.2.2.1,?_⟩;have:=oz.push hk hv h.2.2.2;rw[show i+(e::es).length=i+1+es.length by rw[List.length_cons];omega]
  exact this
 | [],[],_::_,_,h=>h.elim
 | [],_::_,_,_,h=>h.elim
 |_::_,[],_,_,h=>h.elim
 |_::_,_::_,[],_,h=>h.elim
theorem oz.put {v:G.D vt} {ev:Value} (hv:Jo G vt v ev): ∀{ks:List (G.D kt)} {vs:List (G.D vt)} {es:List MapEntry} {i:Nat} (j:Nat) (e:MapEntry),oz G kt vt ks vs es i→es[j]? =some e→oz G kt vt ks (vs.set j v) (es.set j {e with val:=ev}) i
 | [],[],[],i,j,e,_,he=>by simp at he
 |k'::ks,v'::vs,e::es,i,j,e',h,he=>by
  cases j with
  |zero=>injection he with he;subst he;exact⟨h.1,hv,h.2.2.1,h.2.2.2⟩
  |succ j=>exact⟨h.1,h.2.1,h.2.2.1,oz.put hv j e' h.2.2.2 (by simpa using he)⟩
 | [],[],_::_,_,_,_,h,_=>h.elim
 | [],_::_,_,_,_,_,h,_=>h.elim
 |_::_,[],_,_,_,_,h,_=>h.elim
 |_::_,_::_,[],_,_,_,h,_=>h.elim
theorem oz.keys (hk:G6 kt=true) {ks:List (G.D kt)} {vs:List (G.D vt)} {es:List MapEntry} {i:Nat} (h:oz G kt vt ks vs es i): ∀x∈es,IsKey (descOf kt) x.key:=by
 intro x hx;obtain⟨j,hj⟩:=List.getElem?_of_mem hx;obtain⟨k,v,_,_,h1,_⟩:=h.at j x hj;exact h1.key hk
theorem uI (hk:G6 kt=true) {k:G.D kt} {kv:Value} (hkv:Jo G kt k kv): ∀{ks:List (G.D kt)} {vs:List (G.D vt)} {es:List MapEntry} {i:Nat} (n:Nat),oz G kt vt ks vs es i→
  (mIdx kt ks k=none∧Instr.findNow (descOf kt) kv es n=some none)∨ ∃j e,mIdx kt ks k=some j∧es[j]? =some e∧e.key=kv∧Instr.findNow (descOf kt) kv es n=some (some (n+j,e.val))
 | [],[],[],i,n,_=> .inl ⟨(by cases kt<;>first|rfl|cases hk),rfl⟩
 |k'::ks,v'::vs,e::es,i,n,h=>by
  obtain⟨q,hq,hiff⟩:=sameNow_of_keys (hkv.key hk) (h.1.key hk);have hidx:(kv=e.key→mIdx kt (k'::ks) k=some 0)∧(¬kv=e.key→mIdx kt (k'::ks) k=(mIdx kt ks k).map (· +1)):=by
   have h1:=h.1;cases kt with
   |int kk=>
    have h1:e.key= .int kk k':=h1;have h2:kv= .int kk k:=hkv;rw[h1,h2];refine⟨fun hc=> ?_,fun hc=> ?_⟩
    ·injection hc with _ hc
     exact if_pos (show(k':Int)=(k:Int) from hc.symm)
    ·exact if_neg (fun e:(k':Int)=(k:Int)=>hc (by rw[e]))
   |str=>
    have h1:e.key= .string k':=h1;have h2:kv= .string k:=hkv;rw[h1,h2];refine⟨fun hc=> ?_,fun hc=> ?_⟩
    ·injection hc with hc
     exact if_pos (show(show ByteArray from k').toList=(show ByteArray from k).toList by rw[←hc])
    ·exact if_neg (fun e:(show ByteArray from k').toList=(show ByteArray from k).toList=>hc (by rw[K.toList_inj.1 e]))
   |_=>cases hk
  cases q with
  |true=>
   have he:kv=e.key:=hiff.1 rfl;refine .inr ⟨0,e,by rw[hidx.1 he],rfl,he.symm,?_⟩
   simp[Instr.findNow,hq]
  |false=>
   have he: ¬kv=e.key:=fun h=>by have:=hiff.2 h;cases this
   rcases uI hk hkv (n+1) h.2.2.2 with⟨h1,h2⟩|⟨j,e',h1,h2,h3,h4⟩
   ·exact .inl ⟨by rw[hidx.2 he,h1];rfl,by simp[Instr.findNow,hq,h2]⟩
   ·refine .inr ⟨j+1,e',by rw[hidx.2 he,h1];rfl,by simpa using h2,h3,?_⟩
    simp only[Instr.findNow,hq,h4];rw[show n+(j+1)=n+1+j by omega]
 | [],[],_::_,_,_,h=>h.elim
 | [],_::_,_,_,_,h=>h.elim
 |_::_,[],_,_,_,h=>h.elim
 |_::_,_::_,[],_,_,h=>h.elim
end lists
theorem X_ (S:Sat N W w0 Z pl L a w) {i b:Nat} {t u:Ty} {x:G.D t} {y:G.D u} {tg:Option (Nat×Option Int)} {ob:Obj} (hg:get L.objs i=some (.mo t u x y tg)) (hb:bk (pl i)=some b) (hd:w.heap[b]? =some ob) (hnc: ∀cs T fr,ob≠ .cells cs T fr)
  {w':World} (e1:w'.os=w.os) (e2:w'.tape=w.tape) (e3:w'.output=w.output) (hs:w.heap.size≤w'.heap.size) (hw: ∀k,k≠b→w'.heap[k]? =w.heap[k]?):Fr W w0.heap.size w w':=by
 have hown:=S.mem.own i _ b hg rfl hb;refine⟨e1,e2,e3,hs,fun k hk hW=>hw k (fun e=> ?_),fun k cs T fr hk hn hc=> ?_⟩
 ·subst e;rcases hown with h|h
  ·omega
  ·exact hW 0 (h 0)
 ·by_cases e:k=b
  ·subst e;rw[hd]at hc;injection hc with hc
   exact absurd hc (hnc _ _ _)
  ·exact⟨cs,by rw[hw k e];exact hc,rfl,fun _ _=>rfl⟩
theorem FT (ht:fJ P G) {T:TypeId} {m k v:Operand} (h:uq E o T m k v L K=some r) (exe: ∀w1,(Instr.mapUpdate T (a.eval m) (a.eval k) (a.eval v)).run P w= .ok () w1→(execOp a.eval o).run P w= .ok .skip w1)
  (S:Sat E.N W w0 Z pl L a w) (hK:Then E W w0 K r next):o.wp P a w next Q:=by
 unfold uq at h
 split at h
 ·rename_i kt vt hmp;obtain⟨hkt,hvt,kT,eT,ie,hu,UL,_,_⟩:=Ic ht hmp
  split at h
  ·rename_i i ks vs k' v' hm hk hv;cases L with
   |mk tm ob nx=>
   obtain⟨hg,hev,rr,es,hp,hheap,hC⟩:=yg S hm;have hkv:=Nq S hk;have hvv:=Nq S hv;have hkey:=hkv.key hkt;have hbk:bk (pl i)=some rr:=by rw[hp];rfl
   have fin: ∀es':Array MapEntry,(Instr.mapUpdate T (a.eval m) (a.eval k) (a.eval v)).run P w= .ok () (setBlock w rr (.map es' es'.size))→oz G kt vt (MN (mIdx kt ks k') ks k') (Yy (mIdx kt ks k') vs v') es'.toList 0→o.wp P a w next Q:=by
    intro es' hrun hC';have hset:=heap_set (o':=Obj.map es' es'.size) hheap;have hfr:=X_ S hg hbk hheap (fun _ _ _ e=>by cases e) (w':=setBlock w rr (.map es' es'.size)) rfl rfl rfl (by simp[setBlock]) hset.2
    have S2:=S.write (w':=setBlock w rr (.map es' es'.size)) (ob':= .mo (.sl 0 kt) (.sl 0 vt) (MN (mIdx kt ks k') ks k') (Yy (mIdx kt ks k') vs v') none) hg rfl hbk hset.2 hfr (fun _ h=>h)
     (fun _=>⟨kt,vt,_,_,rfl,rfl,rr,es',hp,hset.1,hC'⟩)
    exact o7 (exe _ hrun) (out_ok h S2 (show eU _ _ _ _ DV.und undef from rfl) hK)
   rcases uI hkt hkv 0 hC with⟨h1,h2⟩|⟨j,e,h1,h2,h3,h4⟩
   ·refine fin (es.push {key:=a.eval k,val:=a.eval v,born:=es.size}) ?_ ?_
    ·rw[hev,hp];simp[Instr.mapUpdate,run_underlying hu,MapKept.run_getObj_map hheap,run_checkKey UL hkey,run_findKey UL h2,MapKept.run_setObj_map _ hheap,Result.andThen,setBlock]
    ·rw[h1];have:=oz.push hkv hvv hC
     simpa [MN,Yy]using this
   ·have hj:es[j]? =some e:=by simpa using h2
    refine fin (es.modify j fun e=>{e with key:=a.eval k,val:=a.eval v}) ?_ ?_
    ·rw[hev,hp];simp[Instr.mapUpdate,run_underlying hu,MapKept.run_getObj_map hheap,run_checkKey UL hkey,run_findKey UL h4,hj,h3,run_keyThatStays hkey,MapKept.run_setObj_map _ hheap,Result.andThen,setBlock]
    ·rw[h1];have:=oz.put hvv j e hC h2;have e1:(es.modify j fun e=>{e with key:=a.eval k,val:=a.eval v}).toList=es.toList.set j {e with val:=a.eval v}:=by
      apply List.ext_getElem?;intro n;rw[Array.getElem?_toList,Array.getElem?_modify,List.getElem?_set];have hlt:j<es.toList.length:=(List.getElem?_eq_some_iff.1 h2).1
      by_cases hn:j=n
      ·subst hn;rw[if_pos rfl,if_pos rfl,if_pos hlt,hj,←h3]
       rfl
      ·rw[if_neg hn,if_neg hn,Array.getElem?_toList]
     rw[e1];exact this
  ·cases h
 ·cases h
theorem UM (ht:fJ P G) {T:TypeId} (h:CO E o T L K=some r) (exe: ∀u w1,(Instr.makeMap T none).run P w= .ok u w1→(execOp a.eval o).run P w= .ok (.value u) w1)
  (S:Sat E.N W w0 Z pl L a w) (hK:Then E W w0 K r next):o.wp P a w next Q:=by
 unfold CO at h
 split at h
 ·rename_i kt vt hmp;cases L with
  |mk tm ob nx=>
  simp only[iZ]at h
  let v:Value:= .map (some w.heap.size)
  have hpl:upd pl nx v nx=v:=upd_same _ _ _;obtain⟨M,X⟩:=S.mem.newP (w':=w.alloc (.map #[] 0)) (.mo (.sl 0 kt) (.sl 0 vt) ([]:List (G.D kt)) ([]:List (G.D vt)) none) (.map #[] 0) v rfl (Fr.kU (World.grownBy_alloc w _ none) S.mem.fr.size (fun k hk=>by cases hk)) (fun k hk=>Below.heap_alloc w _ _ hk)
   ⟨kt,vt,[],[],rfl,rfl,w.heap.size, #[],hpl,by rw[heap_alloc_new];rfl,trivial⟩
  exact jc (exe _ _ (run_makeMap_plain w T)) h (S.at X M rfl) ⟨⟨Nat.lt_succ_self _,hpl.symm⟩,rfl⟩ hK
 ·cases h
theorem UN (ht:fJ P G) {T:TypeId} {x k:Operand} (h:CJ E o T x k L K=some r) (exe: ∀u,(Instr.lookup T (a.eval x) (a.eval k) false).run P w= .ok u w→(execOp a.eval o).run P w= .ok (.value u) w)
  (S:Sat E.N W w0 Z pl L a w) (hK:Then E W w0 K r next):o.rd P a w next:=by
 unfold CJ at h
 split at h
 ·rename_i kt vt hmp;obtain⟨hkt,hvt,kT,eT,ie,hu,UL,hie,hz⟩:=Ic ht hmp
  split at h
  ·rename_i i ks vs k' hm hk;obtain⟨hg,hev,rr,es,hp,hheap,hC⟩:=yg S hm;have hkv:=Nq S hk;have hkey:=hkv.key hkt;have hzero:(zeroValue eT).run P w= .ok (zv (.t vt)) w:=by simp[zeroValue,typeInfo,hie,hz]
   rcases uI hkt hkv 0 hC with⟨h1,h2⟩|⟨j,e,h1,h2,h3,h4⟩
   ·rw[h1]at h;have hd:Jo G vt (tK G vt) (zv (.t vt)):=by cases vt<;>first|rfl|cases hvt
    refine jk (u:=zv (.t vt)) (exe _ ?_) h S hd.rep hK;rw[hev,hp];simp[Instr.lookup,run_underlying hu,MapKept.run_getObj_map hheap,run_checkKey UL hkey,run_findKey UL h2,Result.andThen,hzero]
   ·rw[h1]at h;obtain⟨k2,v2,_,g2,_,g4,_⟩:=hC.at j e h2;have hgv:Yz (some j) vs (tK G vt)=v2:=by simp[Yz,List.getD_eq_getElem?_getD,g2]
    rw[hgv]at h;refine jk (u:=e.val) (exe _ ?_) h S g4.rep hK;rw[hev,hp];simp[Instr.lookup,run_underlying hu,MapKept.run_getObj_map hheap,run_checkKey UL hkey,run_findKey UL h4,Result.andThen]
  ·cases h
 ·cases h
theorem WT (ht:fJ P G) {T ty:TypeId} {x:Operand} (h:Jn E o T x L K=some r) (exe: ∀u,(Builtin.len_ #[T] ty #[a.eval x]).run P w= .ok u w→(execOp a.eval o).run P w= .ok (.value u) w)
  (S:Sat E.N W w0 Z pl L a w) (hK:Then E W w0 K r next):o.rd P a w next:=by
 unfold Jn at h
 split at h
 ·rename_i kt vt hmp;obtain⟨hkt,hvt,kT,eT,ie,hu,UL,hie,hz⟩:=Ic ht hmp
  split at h
  ·rename_i i ks vs hm;obtain⟨hg,hev,rr,es,hp,hheap,hC⟩:=yg S hm;have hl:ks.length=es.size:=hC.length.1;refine jk (u:= .int .i64 (ks.length:Int)) (exe _ ?_) h S (jH .i64 _) hK;rw[hev,hp,hl];simp[Builtin.len_,run_underlying hu,MapKept.run_getObj_map hheap,Result.andThen,goInt]
  ·cases h
 ·cases h
theorem QW (n:Nat):upTo n=rO n #[]:=by
 unfold upTo rO
 congr 1
 symm
 rw[List.filter_eq_self];intro a _;simp
theorem QX (ht:fJ P G) {T:TypeId} {x:Operand} (h:wG E o T x L K=some r) (exe: ∀u w1,(Instr.range T (a.eval x)).run P w= .ok u w1→(execOp a.eval o).run P w= .ok (.value u) w1)
  (S:Sat E.N W w0 Z pl L a w) (hK:Then E W w0 K r next):o.wp P a w next Q:=by
 unfold wG at h
 split at h
 ·rename_i kt vt hmp;obtain⟨hkt,hvt,kT,eT,ie,hu,UL,hie,hz⟩:=Ic ht hmp
  split at h
  ·rename_i m ks vs hm;obtain⟨hg,hev,rr,es,hp,hheap,hC⟩:=yg S hm;have hl:ks.length=es.size:=hC.length.1;cases L with
   |mk tm ob nx=>
   simp only[iZ]at h;have aaA:m<nx:=S.mem.lt m _ hg
   let v:Value:= .pointer (some ⟨w.heap.size,0,none⟩)
   have hpl:upd pl nx v nx=v:=upd_same _ _ _;have hpm:upd pl nx v m=pl m:=kZ pl v (Nat.ne_of_lt aaA);obtain⟨M,X⟩:=S.mem.newP (w':=w.alloc (.mapIter (some rr) es.size #[] es.size)) (.mo (.int .i64) (.sl 0 (.int .i64)) (ks.length:Int) (upTo ks.length) (some (m,none))) (.mapIter (some rr) es.size #[] es.size) v rfl (Fr.kU (World.grownBy_alloc w _ none) S.mem.fr.size (fun k hk=>by cases hk)) (fun k hk=>Below.heap_alloc w _ _ hk)
    ⟨Nat.lt_succ_of_lt aaA,ks.length,upTo ks.length,rfl,rfl,w.heap.size,rr, #[],by rw[hpm];exact hp,hpl,by rw[heap_alloc_new,hl],QW _,fun c hc=>by cases hc⟩
   exact jc (exe _ _ (by rw[hev,hp];exact run_range_map w T kT eT rr es es.size hu hheap)) h (S.at X M rfl) ⟨⟨Nat.lt_succ_self _,hpl.symm⟩,rfl⟩ hK
  ·cases h
 ·cases h
theorem FU (S:Sat N W w0 Z pl L a w) {x:Operand} {i m:Nat} {n:Int} {rest:List Int} {c:Option Int} (h:G7 L (dB L x)=some (i,m,n,rest,c)):
  get L.objs i=some (.mo (.int .i64) (.sl 0 (.int .i64)) n rest (some (m,c)))∧a.eval x=pl i∧ ∃(n':Nat) (rr mr:Nat) (seen:Array Nat),n=(n':Int)∧m<L.nx∧pl m= .map (some mr)∧pl i= .pointer (some ⟨rr,0,none⟩)∧w.heap[rr]? =some (.mapIter (some mr) n' seen n')∧rest=rO n' seen∧
   ∀d,c=some d→ ∃k:Nat,d=(k:Int)∧k<n'∧seen.back? =some k:=by
 unfold G7 at h
 split at h
 ·rename_i o' hx
  split at h
  ·rename_i n1 adi m1 c1 hg;simp only[Option.some.injEq,Prod.mk.injEq]at h;obtain⟨rfl,rfl,rfl,rfl,rfl⟩:=h;have hu:gB Z w pl L.nx (.h_ o':bD G) (a.eval x):=aK S hx;refine⟨hg,hu.1.2,?_⟩;obtain⟨hm,n',rest',e1,e2,rr,mr,seen,k1,k2,k3,k4,k5⟩:=S.mem.ob o' _ hg;injection e1 with _ e1
   injection e2 with _ e2
   exact⟨n',rr,mr,seen,e1,hm,k1,k2,k3,(show rest=rest' from e2).trans k4,k5⟩
  ·cases h
 ·cases h
theorem Kr (S:Sat N W w0 Z pl L a w) {m:Nat} {kt vt:Ty} {ks:List (G.D kt)} {vs:List (G.D vt)} (h:O9 L m=some ⟨kt,vt,ks,vs⟩):
  G6 kt=true∧pV vt=true∧ ∃r es,pl m= .map (some r)∧w.heap[r]? =some (.map es es.size)∧oz G kt vt ks vs es.toList 0:=by
 unfold O9 at h
 split at h
 ·rename_i e1 kt' e2 vt' ks' vs' hg
  split at h
  ·rename_i hk hv;cases h;obtain⟨kt',vt',ks',vs',e1,e2,r,es,k1,k2,k3⟩:=S.mem.ob m _ hg;injection e1 with e1 e1'
   injection e2 with e2 e2'
   injection e1 with _ e1
   injection e2 with _ e2
   subst e1 e2;have e1':=eq_of_heq e1';have e2':=eq_of_heq e2';subst e1' e2';exact⟨hk,hv,r,es,k1,k2,k3⟩
  ·cases h
 ·cases h
theorem Kt (n:Nat) (seen:Array Nat) (j:Nat):rO n (seen.push j)=(rO n seen).filter fun x=>decide (x≠(j:Int)):=by
 unfold rO;rw[List.filter_map,List.filter_filter]
 congr 1
 apply List.filter_congr;intro k _
 by_cases h:k=j
 ·subst h;simp
 ·have h': ¬(Int.ofNat k=(j:Int)):=fun e=>h (Int.ofNat.inj (show Int.ofNat k=Int.ofNat j from e))
  simp[h];exact fun _ e=>h' e
theorem rY {rest:List Int} {F:Int→List Int→Option R} (h:kY rest F=some r): ∀c,c∈rest→F c (rest.filter fun x=>decide (x≠c))=some r:=by
 unfold kY at h
 split at h
 ·rename_i hh;injection h with h
  intro c hc;have:=(Classical.choose_spec hh).2 c hc;rw[this,h]
 ·cases h
theorem UO {x:Operand} {ty:TypeId} (h:nextK E o x L K=some r) (exe: ∀u w1,(Instr.next (a.eval x) false ty).run P w= .ok u w1→(execOp a.eval o).run P w= .ok (.value u) w1)
  (S:Sat E.N W w0 Z pl L a w) (hK:Then E W w0 K r next):o.wp P a w next Q:=by
 unfold nextK at h
 split at h
 ·rename_i i m n rest c hit;obtain⟨hg,hev,n',rr,mr,seen,rfl,hm,hpm,hpi,hheap,hrest,_⟩:=FU S hit
  split at h
  ·rename_i kt vt ks vs hat;obtain⟨hkt,hvt,r2,es,zu,hmap,hC⟩:=Kr S hat;rw[hpm]at zu;injection zu with zu
   injection zu with zu
   subst zu
   split at h
   ·rename_i hn;have hlen:es.toList.length=n':=by have:=hC.length.1;omega
    have hsz:es.size=n':=by rw[←hlen];exact Array.length_toList.symm
    have born: ∀e∈es.toList,∃j,j<n'∧es.toList[j]? =some e∧e.born=j:=by
     intro e he;obtain⟨j,hj⟩:=List.getElem?_of_mem he;obtain⟨_,_,_,_,_,_,hb⟩:=hC.at j e hj;exact⟨j,by rw[←hlen];exact(List.getElem?_eq_some_iff.1 hj).1,hj,by omega⟩
    have hold: ∀x∈es.toList,x.born<n':=fun e he=>by obtain⟨j,h1,_,h3⟩:=born e he;omega
    have hleft: ∀e,e∈(leftOf es seen).toList↔e∈es.toList∧ ¬seen.contains e.born=true:=by
     intro e;unfold leftOf;rw[Array.toList_filter,List.mem_filter];simp
    rcases run_next_at (P:=P) w ty rr mr n' n' seen es es.size hheap hmap hold (Nat.le_refl _) with⟨h0,hrun⟩|⟨e,he,w1,hw1,hrun⟩
    ·have hr:rest= []:=by
      rw[hrest];unfold rO;rw[List.map_eq_nil_iff,List.filter_eq_nil_iff];intro j hj;have hj:j<n':=List.mem_range.1 hj;have hlt:j<es.toList.length:=by omega
      obtain⟨e,Y1⟩: ∃e,es.toList[j]? =some e:=⟨_,List.getElem?_eq_getElem hlt⟩;obtain⟨_,_,_,_,_,_,hb⟩:=hC.at j e Y1;have hnot:e∉(leftOf es seen).toList:=by
       have:(leftOf es seen).toList= []:=List.eq_nil_of_length_eq_zero (by rw[Array.length_toList];exact h0)
       rw[this];exact List.not_mem_nil
      rw[hleft]at hnot;have hm':e∈es.toList:=List.mem_of_getElem? Y1;have hc:seen.contains e.born=true:=Classical.byContradiction fun hc=>hnot ⟨hm',hc⟩
      rw[hb,Nat.zero_add]at hc;simp only[hc];simp
     rw[if_pos hr]at h;rw[←hpi,←hev]at hrun;exact jc (exe _ _ hrun) h S ⟨[.bool false],rfl,.bool false,[],rfl,⟨rfl,rfl⟩,rfl⟩ hK
    ·obtain⟨he1,he2⟩:=(hleft e).1 he;obtain⟨j,hj,Y1,hb⟩:=born e he1;have hmem:(j:Int)∈rest:=by
      rw[hrest];unfold rO;refine List.mem_map.2 ⟨j,List.mem_filter.2 ⟨List.mem_range.2 hj,?_⟩,rfl⟩;rw[hb]at he2
      simpa using he2
     have hne:rest≠ []:=fun e=>by rw[e]at hmem;cases hmem
     rw[if_neg hne]at h;have h:=rY h (j:Int) hmem;obtain⟨k1,v1,g1,g2,g3,g4,_⟩:=hC.at j e Y1;cases L with
     |mk tm ob nx=>
     simp only at h;have hrk:aF (tK G kt) ks (j:Int)=k1:=by simp[aF,List.getD_eq_getElem?_getD,g1]
     have hrv:aF (tK G vt) vs (j:Int)=v1:=by simp[aF,List.getD_eq_getElem?_getD,g2]
     rw[hrk,hrv]at h;have hh1:w1.heap=w.heap∧w1.os=w.os∧w1.tape=w.tape∧w1.output=w.output:=by rcases hw1 with rfl|rfl<;>exact⟨rfl,rfl,rfl,rfl⟩
     have Y2:w1.heap[rr]? =some (.mapIter (some mr) n' seen n'):=by rw[hh1.1];exact hheap
     have hset:=heap_set (o':=Obj.mapIter (some mr) n' (seen.push e.born) es.size) Y2;have hbk:bk (pl i)=some rr:=by rw[hpi];rfl
     have hother: ∀k,k≠rr→(setBlock w1 rr (.mapIter (some mr) n' (seen.push e.born) es.size)).heap[k]? =w.heap[k]? :=fun k hk=>by rw[←hh1.1];exact hset.2 k hk
     have hfr:=X_ S hg hbk hheap (fun _ _ _ e=>by cases e) (w':=setBlock w1 rr (.mapIter (some mr) n' (seen.push e.born) es.size)) hh1.2.1 hh1.2.2.1 hh1.2.2.2 (by simp[setBlock,hh1.1]) hother
     have S2:=S.write (w':=setBlock w1 rr (.mapIter (some mr) n' (seen.push e.born) es.size)) (ob':= .mo (.int .i64) (.sl 0 (.int .i64)) (n':Int) (show List Int from rest.filter fun x:Int=>decide (x≠(j:Int))) (some (m,some (j:Int)))) hg rfl hbk hother hfr (fun _ h=>h)
      (fun _=>⟨hm,n',_,rfl,rfl,rr,mr,seen.push e.born,hpm,hpi,by rw[hsz]at hset;rw[hsz];exact hset.1,by rw[hb,Kt,←hrest],fun d hd=>by
       injection hd with hd
       exact⟨j,hd.symm,hj,by rw[hb];simp⟩⟩)
     rw[←hpi,←hev]at hrun;exact jc (exe _ _ hrun) h S2 ⟨[.bool true,e.key,e.val],rfl,.bool true,[e.key,e.val],rfl,⟨rfl,rfl⟩,e.key,[e.val],rfl,g3.rep,e.val,[],rfl,g4.rep,rfl⟩ hK
   ·cases h
  ·cases h
 ·cases h
theorem QY {x:Operand} (h:wF E o x L K=some r) (exe: ∀u,(Instr.entry (a.eval x)).run P w= .ok u w→(execOp a.eval o).run P w= .ok (.value u) w)
  (S:Sat E.N W w0 Z pl L a w) (hK:Then E W w0 K r next):o.rd P a w next:=by
 unfold wF at h
 split at h
 ·rename_i i m n rest c hit;obtain⟨hg,hev,n',rr,mr,seen,rfl,hm,hpm,hpi,hheap,hrest,zk⟩:=FU S hit
  split at h
  ·rename_i kt vt ks vs hat;obtain⟨hkt,hvt,r2,es,zu,hmap,hC⟩:=Kr S hat;rw[hpm]at zu;injection zu with zu
   injection zu with zu
   subst zu
   split at h
   ·rename_i hn;have hlen:es.toList.length=n':=by have:=hC.length.1;omega
    have hsz:es.size=n':=by rw[←hlen];exact Array.length_toList.symm
    obtain⟨j,rfl,hj,hback⟩:=zk c rfl;have hlt:j<es.toList.length:=by omega
    obtain⟨e,Y1⟩: ∃e,es.toList[j]? =some e:=⟨_,List.getElem?_eq_getElem hlt⟩;obtain⟨k1,v1,g1,g2,g3,g4,hb⟩:=hC.at j e Y1;rw[Nat.zero_add]at hb;have hrk:aF (tK G kt) ks (j:Int)=k1:=by simp[aF,List.getD_eq_getElem?_getD,g1]
    have hrv:aF (tK G vt) vs (j:Int)=v1:=by simp[aF,List.getD_eq_getElem?_getD,g2]
    rw[hrk,hrv]at h;have aaB: ∃s0:Array Nat,seen=s0.push j:=by
     refine⟨seen.pop,?_⟩;have h1:=Array.back?_eq_some_iff.1 hback;obtain⟨xs,hx⟩:=h1;rw[hx];simp
    obtain⟨s0,hs0⟩:=aaB;have hnd:(es.toList.map (·.born)).Nodup:=by
     have:es.toList.map (·.born)=List.range es.toList.length:=by
      apply List.ext_getElem?;intro q;rw[List.getElem?_map]
      by_cases hq:q<es.toList.length
      ·have hq':es.toList[q]? =some es.toList[q]:=List.getElem?_eq_getElem hq;obtain⟨_,_,_,_,_,_,hb'⟩:=hC.at q _ hq';rw[hq',List.getElem?_range hq];simp only[Option.map_some,Option.some.injEq];omega
      ·rw[List.getElem?_eq_none (by omega),List.getElem?_eq_none (by rw[List.length_range];omega)]
       rfl
     rw[this];exact List.nodup_range
    have hrun:=run_entry_at (P:=P) w rr mr n' s0 es es.size e (by rw[hb,←hs0,hsz];exact hheap) hmap (List.mem_of_getElem? Y1) hnd
    rw[←hpi,←hev]at hrun;exact jk (exe _ hrun) h S ⟨[e.key,e.val],rfl,e.key,[e.val],rfl,g3.rep,e.val,[],rfl,g4.rep,rfl⟩ hK
   ·cases h
  ·cases h
 ·cases h
end
section
open Go Go.RowKit
variable {G:jf} {R:Type} {P:Program} {W:fA} {w0 w w':World} {Z Z':Nat→Nat→Prop} {pl dI:Nat→Value} {N:Nat} {objs:List (Nat×Ob G)} {nx:Nat} {f:Nat→List Nat}
variable {E:Env G R} {o:Oper} {L:St G} {K:St G→Option R} {r:R} {a:Act} {next:Act→World→Prop} {Q:Exit→Act→World→Prop}
theorem Ku {tm:List (Nat×DV G)} {ob:List (Nat×Ob G)} {e:TypeId} {t:Ty} {s:SV G} {xs:List (G.D t)} {L':St G} (h:O8 ⟨tm,ob,nx⟩ e t s=some (xs,L')) (M:Mem W w0 Z pl ob nx w) (T:eH W w0.heap.size Z pl ob nx w f) {D:List Nat} (hD:zi W w0.heap.size Z pl ob w f D)
  {u:Value} (hu:lU Z w pl nx s u): ∃ob' f' fq vs fp,L'=⟨tm,ob',nx⟩∧Mem W w0 Z pl ob' nx w∧eH W w0.heap.size Z pl ob' nx w f'∧zi W w0.heap.size Z pl ob' w f' (D++fq)∧w.ownsRow 0 e (G.aY t) u xs.length vs∧dR G Z w t xs vs fp∧
   ((bk u=none∧fp= []∧fq= [])∨ ∃b,bk u=some b∧fq=b::fp):=by
 unfold O8 at h
 split at h
 ·simp only[Option.some.injEq,Prod.mk.injEq]at h;obtain⟨rfl,rfl⟩:=h;have hu:u= .slice none 0 0:=hu.1;subst hu;exact⟨ob,f,[],[],[],rfl,M,T,by rw[List.append_nil];exact hD,World.ownsRow_nil w 0 e _,.nil t,.inl ⟨rfl,rfl,rfl⟩⟩
 ·rename_i o';simp only at h
  split at h
  ·rename_i e' t' xs' hg
   split at h
   ·rename_i y hy;simp only[Option.some.injEq,Prod.mk.injEq]at h;obtain⟨rfl,rfl⟩:=h;have he:=fQ hy;injection he with he1 he2
    injection he1 with he1 he3
    subst he1 he3;have he2:=eq_of_heq he2;subst he2;obtain⟨q1,q2⟩:=hu.1;obtain⟨fq,_,_,T',D',vs,fp,o1,o2,o3⟩:=T.take M hD (.inr hg);have o2:=o2 hg;rw[←q2]at o1 o3;exact⟨_,_,fq,vs,fp,rfl,M.kill o' q1,T',D',o1,o2,o3⟩
   ·cases h
  ·cases h
 ·cases h
theorem UQ {tm:List (Nat×DV G)} {ob:List (Nat×Ob G)} {e:TypeId} {t:Ty} {s:SV G} {xs:List (G.D t)} {L':St G} (h:TY ⟨tm,ob,nx⟩ e t s=some (xs,L')) (M:Mem W w0 Z pl ob nx w) (T:eH W w0.heap.size Z pl ob nx w f) {D:List Nat} (hD:zi W w0.heap.size Z pl ob w f D)
  {u:Value} (hu:lU Z w pl nx s u): ∃ob' f' fq vs fp u2,L'=⟨tm,ob',nx⟩∧Mem W w0 Z pl ob' nx w∧eH W w0.heap.size Z pl ob' nx w f'∧zi W w0.heap.size Z pl ob' w f' (D++fq)∧w.ownsRow 0 e (G.aY t) u2 xs.length vs∧dR G Z w t xs vs fp∧
   ((bk u2=none∧fp= []∧fq= [])∨ ∃b,bk u2=some b∧fq=b::fp)∧Be u2 u:=by
 unfold TY at h
 split at h
 ·rename_i o';simp only at h
  split at h
  ·rename_i e' t' xs' hg
   split at h
   ·rename_i y hy;simp only[Option.some.injEq,Prod.mk.injEq]at h;obtain⟨rfl,rfl⟩:=h;have he:=fQ hy;injection he with he1 he2
    injection he1 with he1 he3
    subst he1 he3;have he2:=eq_of_heq he2;subst he2;obtain⟨q1,q2⟩:=hu.1;obtain⟨fq,_,_,T',D',vs,fp,o1,o2,o3⟩:=T.take M hD (.inr hg);have o2:=o2 hg;exact⟨_,_,fq,vs,fp,pl o',rfl,M.kill o' q1,T',D',o1,o2,o3,q2⟩
   ·cases h
  ·cases h
 ·obtain⟨ob',f',fq,vs,fp,q1,q2,q3,q4,q5,q6,q7⟩:=Ku h M T hD hu;exact⟨ob',f',fq,vs,fp,u,q1,q2,q3,q4,q5,q6,q7,.inl rfl⟩
theorem dR.append {t:Ty}: ∀{xs ys:List (G.D t)} {vs us:List Value} {fp fq:List Nat},dR G Z w t xs vs fp→dR G Z w t ys us fq→dR G Z w t (xs++ys) (vs++us) (fp++fq):=by
 intro xs
 induction xs with
 |nil=>intro ys vs us fp fq h k;cases h;exact k
 |cons x xs ih=>
  intro ys vs us fp fq h k;cases h with
  |cons _ _ _ cs vs fp fp' hl h1 h2=>
   rw[List.append_assoc,List.append_assoc];exact .cons t x (xs++ys) cs _ fp _ hl h1 (ih h2 k)
theorem Nr (hs:fH G) (ht:fJ P G) {x y:Operand} {T ty:TypeId} {e:TypeId} {t:Ty} {l1:List Tm} {l2:List (Nat×Nat)} {l3:Bool} (hT:G.tab T=some ⟨l1,l2,l3,some (.sl e t)⟩) (S:Sat E.N W w0 Z pl L a w)
  {s i:SV G} (hx:dB L x=some s) (hy:dB L y=some i) (h:rM E o e t s i L K=some r)
  (exe: ∀u w',(Builtin.append_ #[T,T] ty #[a.eval x,a.eval y]).run P w= .ok u w'→(execOp a.eval o).run P w= .ok (.value u) w') (hK:Then E W w0 K r next):o.wp P a w next Q:=by
 obtain⟨hu,ie,z,hie,hsz,MC,hzs,hpos,hcap,hcm⟩:=(ht T _ hT).sl e t rfl;unfold rM at h
 split at h
 ·rename_i xs L1 h1
  split at h
  ·rename_i ys L2 h2
   split at h
   ·rename_i hc;cases L with
    |mk tm ob nx=>
    obtain⟨f,T0⟩:=S.mem.tr;obtain⟨xK,f1,fq1,vs,vZ,rfl,M1,T1,D1,o1,r1,q1⟩:=Ku h1 S.mem T0 zi.nil (aK S hx);obtain⟨ob2,f2,fq2,us,fp2,u2,rfl,M2,T2,D2,o2,r2,q2,hwk⟩:=UQ h2 M1 T1 D1 (aK S hy);rw[List.nil_append]at D2;have hbytes:(xs.length+ys.length)*ie.bytes≤140737488355328:=Nat.le_trans (Nat.mul_le_mul_right _ hc) hcap;have h63:xs.length+ys.length≤maxLen:=Nat.le_trans hc hcm
    have hul:us.length=ys.length*G.aY t:=o2.1;have hone: ∀u∈us,u.oneCell'=true:=r2.rows.one;have hrun: ∃v' w',(Builtin.append_ #[T,T] ty #[a.eval x,a.eval y]).run P w= .ok v' w'∧w'.ownsRow 0 e (G.aY t) v' (xs.length+ys.length) (vs++us)∧w.grownBy w' (a.eval x).ownBlock∧(v'.ownBlock=(a.eval x).ownBlock∨v'.ownBlock=some w.heap.size):=by
     have empty: ∀A c,a.eval y= .slice A 0 c→ys= []→us= []→ ∃v' w',(Builtin.append_ #[T,T] ty #[a.eval x,a.eval y]).run P w= .ok v' w'∧w'.ownsRow 0 e (G.aY t) v' (xs.length+ys.length) (vs++us)∧w.grownBy w' (a.eval x).ownBlock∧(v'.ownBlock=(a.eval x).ownBlock∨v'.ownBlock=some w.heap.size):=by
      intro A c e1 hys hus;subst hys hus;rw[e1];cases A with
      |none=>exact⟨a.eval x,w,sZ hu hie o1 c,by rw[List.append_nil];exact o1,World.grownBy.refl w _,.inl rfl⟩
      |some ad=>
       obtain⟨v',w',k1,k2,k3,_,k4⟩:=run_append_own_at (P:=P) w 0 T ty e ie z (G.aY t) ie.bytes hu hie MC hsz rfl hzs hpos (a.eval x) xs.length vs o1 ad 0 c [] (by simp) (fun j u hj=>by simp at hj) (fun u hu=>by simp at hu) h63 hbytes (Nat.zero_le _)
       exact⟨v',w',k1,k2,k3,k4⟩
     rcases o2.2 with⟨e1,e2⟩|⟨g,cap,cur,e1,_⟩
     ·have hys:ys= []:=List.eq_nil_of_length_eq_zero e2;have hus:us= []:=List.eq_nil_of_length_eq_zero (by rw[hul,hys];simp)
      rcases hwk with e3|⟨_,A,c,e3⟩
      ·exact empty none 0 (e3.trans e1) hys hus
      ·exact empty A c e3 hys hus
     ·have hcell:=fun j u hj=>o2.cells (g:=g) (by rw[e1];rfl) j u hj
      have e3:a.eval y= .slice (some ⟨g,0,none⟩) ys.length cap:=by
       rcases hwk with e3|⟨e3,_⟩
       ·rw[e3,e1]
       ·rw[e1]at e3;cases e3
      rw[e3];obtain⟨v',w',k1,k2,k3,_,k4⟩:=run_append_own_at (P:=P) w 0 T ty e ie z (G.aY t) ie.bytes hu hie MC hsz rfl hzs hpos (a.eval x) xs.length vs o1 ⟨g,0,none⟩ ys.length cap us hul (fun j u hj=>hcell j u hj) hone h63 hbytes (Nat.zero_le _)
      exact⟨v',w',k1,k2,k3,k4⟩
    obtain⟨v',w',k1,k2,k3,k4⟩:=hrun;simp only[iZ]at h;have ZR: ∀k,(a.eval x).ownBlock=some k→k∈fq1:=by
     intro k hk;rw[←qM (b:=k) o1]at hk;rcases q1 with⟨e1,_⟩|⟨b,e1,e2⟩
     ·rw[e1]at hk;cases hk
     ·rw[e1]at hk;injection hk with hk;subst hk;rw[e2];exact List.mem_cons_self
    have hmem:=fun k (hk:k∈fq1)=>D2.mem k (List.mem_append_left _ hk)
    have hfr:Fr W w0.heap.size w w':=Fr.kU k3 M2.fr.size (fun k hk=>(hmem k (ZR k hk)).2.2.1)
    have stay: ∀k,k<w.heap.size→(∀b,(a.eval x).ownBlock=some b→k≠b)→w'.heap[k]? =w.heap[k]? :=fun k hk hne=>k3.block k hk (fun ee=>hne k ee.symm rfl)
    have Ya: ∀o' b k,get ob2 o'=some b→live b=true→bk (pl o')=some k→w'.heap[k]? =w.heap[k]? :=fun o' b k hg hl hk=>stay k (M2.blt hg hl hk) (fun b' hb' ee=>by subst ee;exact(hmem k (ZR k hb')).2.1 o' b hg hl hk)
    have Yb: ∀o' k,k∈f2 o'→w'.heap[k]? =w.heap[k]? :=fun o' k hk=>stay k (T2.lt o' k hk) (fun b' hb' ee=>by subst ee;exact(hmem k (ZR k hb')).1 o' hk)
    have Yc: ∀k,k∈vZ→k∈fq1:=fun k hk=>by
     rcases q1 with⟨_,e1,_⟩|⟨b,_,e1⟩
     ·rw[e1]at hk;cases hk
     ·rw[e1];exact List.mem_cons_of_mem _ hk
    have hsub2: ∀k,k∈fp2→k∈fq2:=fun k hk=>by
     rcases q2 with⟨_,e1,_⟩|⟨b,_,e1⟩
     ·rw[e1]at hk;cases hk
     ·rw[e1];exact List.mem_cons_of_mem _ hk
    have nd:=D2.nd;have EH:vZ.Nodup:=by
     rw[List.nodup_append]at nd;rcases q1 with⟨_,e1,_⟩|⟨b,_,e1⟩
     ·rw[e1];exact List.nodup_nil
     ·have:=nd.1;rw[e1]at this;exact(List.nodup_cons.1 this).2
    have nd2:fp2.Nodup:=by
     rw[List.nodup_append]at nd;rcases q2 with⟨_,e1,_⟩|⟨b,_,e1⟩
     ·rw[e1];exact List.nodup_nil
     ·have:=nd.2.1;rw[e1]at this;exact(List.nodup_cons.1 this).2
    have ndd:(vZ++fp2).Nodup:=by
     rw[List.nodup_append]at nd⊢;exact⟨EH,nd2,fun a ha b hb=>nd.2.2 a (Yc a ha) b (hsub2 b hb)⟩
    have inD: ∀k,k∈vZ++fp2→k∈fq1++fq2:=fun k hk=>by
     rcases List.mem_append.1 hk with hk|hk
     ·exact List.mem_append_left _ (Yc k hk)
     ·exact List.mem_append_right _ (hsub2 k hk)
    have PV: ∀k,k∈vZ++fp2→ ∀b,(a.eval x).ownBlock=some b→k≠b:=by
     intro k hk b hb ee;subst ee;rw[←qM (b:=k) o1]at hb;rcases q1 with⟨e1,_⟩|⟨b',e1,e2⟩
     ·rw[e1]at hb;cases hb
     ·rw[e1]at hb;injection hb with hb
      subst hb;rw[List.nodup_append]at nd;rcases List.mem_append.1 hk with hk|hk
      ·have:=nd.1;rw[e2]at this;exact(List.nodup_cons.1 this).1 hk
      ·exact nd.2.2 b' (by rw[e2];exact List.mem_cons_self) b' (hsub2 b' hk) rfl
    have hzs': ∀k j,Z k j→w'.heap[k]? =w.heap[k]? :=fun k j hz=>stay k (M2.qL k j hz) (fun b' hb' ee=>by subst ee;exact(hmem k (ZR k hb')).2.2.2.1 j hz)
    have hO:dR G Z w' t (xs++ys) (vs++us) (vZ++fp2):=(r1.append r2).mono ⟨fun k hk=>stay k (D2.mem k (inD k hk)).2.2.2.2 (PV k hk),fun _ _ h=>h,fun k j hz=>jC (hzs' k j hz) j⟩
    have X:=(Ext.rP (Z:=Z) (pl:=pl) (nx:=nx) (w':=w') hzs').upd rfl v';have hpl:upd pl nx v' nx=v':=upd_same _ _ _;have hrow:w'.ownsRow 0 e (G.aY t) (upd pl nx v' nx) (xs++ys).length (vs++us):=by rw[hpl,List.length_append];exact k2
    have K1:=M2.keep X (fun o' b k hg hl hk=>⟨Ya o' b k hg hl hk,M2.dU o' b k hg hl hk⟩) (fun k j hz=>Nat.lt_of_lt_of_le (M2.qL k j hz) hfr.size) (fun _ _ h=> .inl h) hfr ⟨f2,T2,fun o' k hk=>⟨Yb o' k hk,T2.dU o' k hk⟩⟩
    have T3:=T2.keep (dI:=upd pl nx v') (nx':=nx+1) (w':=w') (Z':=Z) M2.lt (Nat.le_succ _) X.hp (fun o' b k hg hl hk=>Ya o' b k hg hl hk) X.hZ X.hw (fun o' k hk=>⟨Yb o' k hk,T2.dU o' k hk⟩) hfr.size
    have hnone: ∀b,get ob2 nx=some b→False:=fun b hb=>Nat.lt_irrefl _ (M2.lt nx b hb)
    have T4:=T3.set nx (vZ++fp2) (fun b hb=>(hnone b hb).elim) ndd (fun k hk=>by
     obtain⟨a1,a2,a3,a4,a5⟩:=D2.mem k (inD k hk);exact .inr ⟨a1,fun o' b hgb hl hb=>a2 o' b hgb hl (by rw[←X.hp o' (M2.lt o' b hgb)];exact hb),a3,a4,Nat.lt_of_lt_of_le a5 hfr.size⟩)
    have hroot: ∀k,bk v'=some k→(a.eval x).ownBlock=some k∨k=w.heap.size:=by
     intro k hk;rw[qM (b:=k) k2]at hk;rcases k4 with k4|k4
     ·rw[hk]at k4;exact .inl k4.symm
     ·rw[hk]at k4;injection k4 with k4;exact .inr k4
    have T5:=T4.put nx (.tr e t (xs++ys)) (by
     show∃vs,_∧dR G Z w' t (xs++ys) vs (if nx=nx then vZ++fp2 else f2 nx);rw[if_pos rfl];exact⟨_,hrow,hO⟩) (fun _ k hk o' hm=>by
     rw[hpl]at hk;have hm:k∈(if o'=nx then vZ++fp2 else f2 o'):=hm;rcases hroot k hk with h|h
     ·split at hm
      ·exact PV k hm k h rfl
      ·exact(hmem k (ZR k h)).1 o' hm
     ·subst h
      split at hm
      ·exact Nat.lt_irrefl _ (D2.mem _ (inD _ hm)).2.2.2.2
      ·exact Nat.lt_irrefl _ (T2.lt o' _ hm))
    have M:Mem W w0 Z (upd pl nx v') ((nx,.tr e t (xs++ys))::ob2) (nx+1) w':=K1.add nx (.tr e t (xs++ys)) (Nat.lt_succ_self _) ⟨_,hrow⟩ (fun _ k hk=>by
     rw[hpl]at hk;rcases hroot k hk with h|h
     ·obtain⟨a1,a2,a3,a4,a5⟩:=hmem k (ZR k h);refine⟨a3,a4,fun o' b' ho' hg' hl' hk'=> ?_⟩
      rw[kZ pl v' ho']at hk';exact a2 o' b' hg' hl' hk'
     ·subst h;refine⟨.inl M2.fr.size,fun j hz=>Nat.lt_irrefl _ (M2.qL _ j hz),fun o' b' ho' hg' hl' hk'=> ?_⟩
      rw[kZ pl v' ho']at hk';exact Nat.lt_irrefl _ (M2.blt hg' hl' hk')) ⟨_,T5⟩
    exact jc (exe v' w' k1) h (S.at (L':=⟨tm,_,nx+1⟩) X M rfl) ⟨⟨Nat.lt_succ_self _,hpl.symm⟩,by
     rcases k2.2 with⟨e1,_⟩|⟨g,cap,cur,e1,_⟩<;>rw[e1]<;>rfl⟩ hK
   ·cases h
  ·cases h
 ·cases h
end
section
open Go Go.RowKit
variable {G:jf} {R:Type} {P:Program} {W:fA} {w0 w w':World} {Z Z':Nat→Nat→Prop} {pl dI:Nat→Value} {N:Nat}
variable {E:Env G R} {o:Oper} {L:St G} {K:St G→Option R} {r:R} {a:Act} {next:Act→World→Prop} {Q:Exit→Act→World→Prop}
theorem rZ {α:Type} {xs:Array α} {x:α} (h:xs.toList= [x]):xs= #[x]:=by cases xs;simpa using h
theorem Dy {α:Type} {xs:Array α} {x y:α} (h:xs.toList= [x,y]):xs= #[x,y]:=by cases xs;simpa using h
theorem uJ {c:Call} {b:Builtin} (hc:c.callee= .builtin b) (ho:o.op= .call c): ∃cs,∀w,(execOp a.eval o).run P w=(builtin b c.argTypes o.type cs (c.args.map a.eval)).run P w:=by
 refine⟨c.args.map (fun| .const _=>true|_=>false),fun w=> ?_⟩
 unfold execOp;rw[ho];simp only[resolve,hc,Sem.run_bind,Sem.run_pure,Result.andThen_ok,invoke]
 rfl
theorem UR (ht:fJ P G) {c:Call} (ho:o.op= .call c) (hc:c.callee= .builtin .len) (hmp: ∀T,c.argTypes.toList= [T]→We (G.tab T)=none) (h:bJ E o L K=some r) (S:Sat E.N W w0 Z pl L a w) (hK:Then E W w0 K r next):o.pu P a w next:=by
 obtain⟨cs,exe⟩:=uJ (P:=P) (a:=a) hc ho;simp only[bJ,ho,hc]at h
 split at h
 ·rename_i x T h1 h2;have e1:=rZ h1;have e2:=rZ h2
  split at h
  ·rename_i s hx
   split at h
   ·rename_i n hn;refine dW (u:= .int .i64 n) (fun w'=> ?_) h S (jH .i64 n) hK
    rw[exe,e1,e2];have:=PE (P:=P) (T':=o.type) ht S hx hn;simp only[builtin,List.map_toArray,List.map_cons,List.map_nil];exact jE _ (this w')
   ·simp only[Jn,hmp T h2]at h;cases h
  ·cases h
 ·cases h
theorem PW (ht:fJ P G) {c:Call} (ho:o.op= .call c) (hc:c.callee= .builtin .len) (h:bJ E o L K=some r) (S:Sat E.N W w0 Z pl L a w) (hK:Then E W w0 K r next):o.rd P a w next:=by
 by_cases hmp: ∀T,c.argTypes.toList= [T]→We (G.tab T)=none
 ·exact nC (UR ht ho hc hmp h S hK)
 ·obtain⟨cs,exe⟩:=uJ (P:=P) (a:=a) hc ho;simp only[bJ,ho,hc]at h
  split at h
  ·rename_i x T h1 h2;have e1:=rZ h1;have e2:=rZ h2
   split at h
   ·rename_i s hx
    split at h
    ·rename_i n hn;refine jk (u:= .int .i64 n) ?_ h S (jH .i64 n) hK;rw[exe,e1,e2];have:=PE (P:=P) (T':=o.type) ht S hx hn;simp only[builtin,List.map_toArray,List.map_cons,List.map_nil];exact jE _ (this w)
    ·refine WT (ty:=o.type) ht h (fun u hu=> ?_) S hK
     rw[exe,e1,e2];simp only[builtin,List.map_toArray,List.map_cons,List.map_nil];exact jE _ hu
   ·cases h
  ·cases h
theorem WU (hs:fH G) (ht:fJ P G) (hct: ∀f c,E.ct f=some c→c.Holds P f) {c:Call} (ho:o.op= .call c) (h:bJ E o L K=some r) (S:Sat E.N W w0 Z pl L a w) (hK:Then E W w0 K r next):o.wp P a w next Q:=by
 cases hc:c.callee with
 |invoke x m=>simp[bJ,ho,hc]at h
 |builtin b=>
  obtain⟨cs,exe⟩:=uJ (P:=P) (a:=a) hc ho;cases b with
  |len=>exact kK (PW ht ho hc h S hK)
  |append=>
   simp only[bJ,ho,hc]at h
   split at h
   ·rename_i x y T T' h1 h2;have e1:=Dy h1;have e2:=Dy h2
    split at h
    ·rename_i hTT;have hTT:=Nat.eq_of_beq_eq_true hTT;subst hTT
     split at h
     ·rename_i e t hT
      split at h
      ·split at h
       ·rename_i s i hx hy;refine Nr hs ht hT S hx hy h (ty:=o.type) (fun u w' hu=> ?_) hK
        rw[exe,e1,e2];simp only[builtin,List.map_toArray,List.map_cons,List.map_nil];exact jE _ hu
       ·cases h
      split at h
      ·rename_i s i hx hy
       split at h
       ·rename_i ys xs L' hi hg
        split at h
        ·rename_i hcap;obtain⟨Z1,S1,e3⟩:=S.MM i;refine QS hs ht hT S1 ((Dk e3).trans hx) ((Dk e3).trans hy) hi hg hcap h (ty:=o.type) (fun u w' hu=> ?_) hK
         rw[exe,e1,e2];simp only[builtin,List.map_toArray,List.map_cons,List.map_nil];exact jE _ hu
        ·cases h
       ·cases h
      ·cases h
     ·cases h
    ·cases h
   ·cases h
  |_=>simp[bJ,ho,hc]at h
 |value x=>
  cases x with
  |func f=>
   simp only[bJ,ho,hc]at h
   split at h
   ·rename_i ct Y3
    split at h
    ·rename_i l hl;obtain⟨k1,k2⟩:=Dt S hl;have hrun:(execOp a.eval o).run P w=(callFunc f (c.args.toList.map a.eval).toArray).run P w:=by
      unfold execOp;rw[ho];have:c.args.map a.eval=(c.args.toList.map a.eval).toArray:=by cases c.args;simp
      simp only[resolve,hc,Deferred.ofValue,Act.eval,Sem.run_bind,Sem.run_pure,Result.andThen_ok,invoke];rw[←this];simp only[Array.empty_append,Array.append_empty]
     exact J_ hs (hct f ct Y3) (vals:=c.args.toList.map a.eval) (by rw[k1,List.length_map]) (fun t d hg=>by have:=(k2 t d hg).2.2;rwa [Nat.sub_zero]at this) h S (fun v w' hh=>by rw[hrun];exact hh) (fun hh=>by rw[hrun];exact hh) hK
    ·cases h
   ·cases h
  |tmp t=>
   simp only[bJ,ho,hc]at h
   split at h
   ·rename_i f caps hg
    split at h
    ·rename_i ct Y3
     split at h
     ·rename_i l hl;obtain⟨k1,k2⟩:=Dt S hl;obtain⟨⟨q1,q2⟩,_⟩:=S.tm t _ hg;obtain⟨m1,m2⟩:=J3 (G:=G) (Z:=Z) (w:=w) (caps:=caps) (j:=len l) q1;have hrun:(execOp a.eval o).run P w=(callFunc f (c.args.toList.map a.eval++caps.map pl).toArray).run P w:=by
       unfold execOp;rw[ho];have:c.args.map a.eval=(c.args.toList.map a.eval).toArray:=by cases c.args;simp
       simp only[resolve,hc,Act.eval,q2,Deferred.ofValue,Sem.run_bind,Sem.run_pure,Result.andThen_ok,invoke];have e:(#[]:Array Value)++c.args.map a.eval++(caps.map pl).toArray=(c.args.toList.map a.eval++caps.map pl).toArray:=by rw[this];simp
       show(callFunc f (#[]++c.args.map a.eval++(caps.map pl).toArray)).run P w=_;rw[e]
      refine J_ hs (hct f ct Y3) (vals:=c.args.toList.map a.eval++caps.map pl) (by rw[List.length_append,List.length_append,k1,m1,List.length_map,List.length_map]) (fun t' d hg'=> ?_) h S (fun v w' hh=>by rw[hrun];exact hh) (fun hh=>by rw[hrun];exact hh) hK
      rcases PI hg' with hg'|hg'
      ·obtain⟨_,n2,n3⟩:=k2 t' d hg';rw[Nat.sub_zero]at n3;rw[List.getD_eq_getElem?_getD]at n3⊢;rw[List.getElem?_append_left (by rw[List.length_map];omega)]
       exact n3
      ·obtain⟨n1,n2⟩:=m2 t' d hg';rw[len_eq,k1]at n1 n2;rw[List.getD_eq_getElem?_getD]at n2⊢;rw[List.getElem?_append_right (by rw[List.length_map];exact n1),List.length_map]
       exact n2
     ·cases h
    ·cases h
   ·cases h
  |const v=>simp[bJ,ho,hc]at h
  |global g=>simp[bJ,ho,hc]at h
theorem Kv (hs:fH G) (ht:fJ P G) (hct: ∀f c,E.ct f=some c→c.Holds P f) (h:bJ E o L K=some r) (S:Sat E.N W w0 Z pl L a w) (hK:Then E W w0 K r next):o.wp P a w next Q:=by
 cases ho:o.op with
 |move x=>exact kK (nC (BG (by simp only[bJ,ho]at h;exact h) (.inl ho) S hK))
 |assign x=>exact kK (nC (BG (by simp only[bJ,ho]at h;exact h) (.inr ho) S hK))
 |pick c x y=>exact kK (nC (Pm ho h S hK))
 |alloc T=>exact Uf hs ht ho h S hK
 |box T x=>exact YI ho h S hK
 |makeSlice T l c=>exact HY hs ht ho h S hK
 |build T ps=>exact kK (nC (JY ht ho h S hK))
 |buildSlice T n ps=>exact EJ hs ht ho h S hK
 |load T x=>exact kK (Px hs ht ho h S hK)
 |store T x v=>exact Ur hs ht ho h S hK
 |nilCheck x=>exact kK (nC (Ag ho h S hK))
 |binOp op T x y T'=>exact kK (nC (JR ht ho h S hK))
 |unOp op T x=>exact kK (nC (PD ho h S hK))
 |convert T T' x=>exact Dq hs ht ho h S hK
 |makeFunc fn fst caps=>
  cases fn with
  |func f=>exact JX ho h S hK
  |_=>simp[bJ,ho]at h
 |slice T x lo hi mx=>exact kK (nC (JW ht ho h S hK))
 |fieldAddr T x f=>exact kK (nC (xZ hs ht ho h S hK))
 |field T x f=>exact kK (nC (JU ht ho h S hK))
 |indexAddr T x i=>exact kK (nC (x_ hs ht ho h S hK))
 |index T x i=>exact kK (nC (JS ht ho h S hK))
 |extract x i=>exact kK (nC (Dn ho h S hK))
 |call c=>exact WU hs ht hct ho h S hK
 |makeMap T r0=>
  cases r0 with
  |none=>
   simp only[bJ,ho]at h;refine UM ht h (fun u w1 hu=> ?_) S hK
   unfold execOp;rw[ho];exact jE _ hu
  |some _=>simp[bJ,ho]at h
 |insert T m k v=>
  simp only[bJ,ho]at h;refine FT ht h (fun w1 hu=> ?_) S hK
  unfold execOp;rw[ho];exact Ue _ hu
 |mapUpdate T m k v=>
  simp only[bJ,ho]at h;refine FT ht h (fun w1 hu=> ?_) S hK
  unfold execOp;rw[ho];exact Ue _ hu
 |lookup T x k ok=>
  cases ok with
  |false=>
   simp only[bJ,ho]at h;refine kK (UN ht h (fun u hu=> ?_) S hK)
   unfold execOp;rw[ho];exact jE _ hu
  |true=>simp[bJ,ho]at h
 |range T x=>
  simp only[bJ,ho]at h;refine QX ht h (fun u w1 hu=> ?_) S hK
  unfold execOp;rw[ho];exact jE _ hu
 |next x s=>
  cases s with
  |false=>
   simp only[bJ,ho]at h;refine UO (ty:=o.type) h (fun u w1 hu=> ?_) S hK
   unfold execOp;rw[ho];exact jE _ hu
  |true=>simp[bJ,ho]at h
 |entry x=>
  simp only[bJ,ho]at h;refine kK (QY h (fun u hu=> ?_) S hK)
  unfold execOp;rw[ho];exact jE _ hu
 |_=>simp[bJ,ho]at h
theorem Kw (ht:fJ P G) (hs:fH G) (hk:Nat.beq (kd G o.op) 2=true) (h:bJ E o L K=some r) (S:Sat E.N W w0 Z pl L a w) (hK:Then E W w0 K r next):o.pu P a w next:=by
 cases ho:o.op with
 |move x=>exact BG (by simp only[bJ,ho]at h;exact h) (.inl ho) S hK
 |assign x=>exact BG (by simp only[bJ,ho]at h;exact h) (.inr ho) S hK
 |slice T x lo hi mx=>exact JW ht ho h S hK
 |fieldAddr T x f=>exact xZ hs ht ho h S hK
 |pick c x y=>exact Pm ho h S hK
 |nilCheck x=>exact Ag ho h S hK
 |binOp op T x y T'=>exact JR ht ho h S hK
 |unOp op T x=>exact PD ho h S hK
 |field T x f=>exact JU ht ho h S hK
 |indexAddr T x i=>exact x_ hs ht ho h S hK
 |index T x i=>exact JS ht ho h S hK
 |extract x i=>exact Dn ho h S hK
 |build T ps=>exact JY ht ho h S hK
 |call c=>
  rw[ho]at hk;simp only[kd]at hk
  split at hk
  ·rename_i hc;refine UR ht ho hc (fun T hT=> ?_) h S hK
   rw[hT]at hk;simp only at hk
   split at hk
   ·cases hk
   ·rename_i hm;exact hm
  ·cases hk
 |convert T T' x=>
  rw[ho]at hk;simp only[kd]at hk
  split at hk
  ·rename_i e;exact Dl ht ⟨_,_,_,_,e⟩ ho h S hK
  ·cases hk
 |_=>rw[ho]at hk;cases hk
theorem UT (ht:fJ P G) (hs:fH G) (hk:Nat.ble 1 (kd G o.op)=true) (h:bJ E o L K=some r) (S:Sat E.N W w0 Z pl L a w) (hK:Then E W w0 K r next):o.rd P a w next:=by
 by_cases h2:Nat.beq (kd G o.op) 2=true
 ·exact nC (Kw ht hs h2 h S hK)
 cases ho:o.op with
 |load T x=>exact Px hs ht ho h S hK
 |call c=>
  rw[ho]at hk;simp only[kd]at hk
  split at hk
  ·rename_i hc;exact PW ht ho hc h S hK
  ·cases hk
 |convert T T' x=>
  rw[ho]at hk h2;simp only[kd]at hk h2
  split at hk
  ·rename_i e;simp[e]at h2
  ·cases hk
 |_=>first|(rw[ho]at hk;cases hk;done)|(rw[ho]at h2;exact absurd rfl h2)
end
section
open Go Go.RowKit
def qC (m:List Nat):List Edge→Bool
 | []=>true
 |e::es=>match Region.binds .any e with
  |false=>qC m es
  |true=>match kS m e.on with|true=>qC m es|false=>false
def iG (m:List Nat):Nat→List Oper→List Nat
 |_,[]=> []
 |j,o::os=>match kS m j,qC m o.after.toList with
  |false,true=>j::iG m (j+1) os
  |_,_=>iG m (j+1) os
def zx (i:Nat):List Nat→Nat→List Oper→List Nat
 |b,_,[]=>b
 |b,j,o::os=>match Nat.beq j i,kS b j,qC b o.after.toList with
  |false,false,true=>zx i (j::b) (j+1) os
  |_,_,_=>zx i b (j+1) os
def yh (i:Nat) (b:List Nat):Nat→List Oper→Bool
 |_,[]=>true
 |j,o::os=>match Nat.beq j i,kS b j,qC b o.after.toList with
  |false,false,true=>false
  |_,_,_=>yh i b (j+1) os
def apartB (G:jf) (all:Array Oper) (oi:Oper) (i:Nat) (m b:List Nat):Nat→List Oper→Bool
 |_,[]=>true
 |j,o::os=>match Nat.beq j i,kS b j,kS m j with
  |false,true,false=>match oi.apart all o,Nat.ble 2 (kd G oi.op),Nat.ble 1 (kd G o.op) with
   |true,true,_=>apartB G all oi i m b (j+1) os
   |true,_,true=>apartB G all oi i m b (j+1) os
   |_,_,_=>false
  |_,_,_=>apartB G all oi i m b (j+1) os
def takeB (G:jf) (ops:List Oper) (m:List Nat) (i:Nat):Bool:=
 match nth ops i with
 |some oi=>match Nat.ble 1 (kd G oi.op),Qz m (zx i m 0 ops),yh i (zx i m 0 ops) 0 ops,apartB G ops.toArray oi i m (zx i m 0 ops) 0 ops with
  |true,true,true,true=>true
  |_,_,_,_=>false
 |none=>false
def tails (i:Nat):List (List Nat)→List (List Nat)
 | []=> []
 |(j::p)::ps=>match Nat.beq i j with|true=>p::tails i ps|false=>tails i ps
 | []::ps=>tails i ps
def r_:List (List Nat)→Bool
 | []=>false
 | []::_=>true
 |(_::_)::ps=>r_ ps
def Ky (f:Nat→Bool):List Nat→Bool
 | []=>true
 |i::is=>match f i with|true=>Ky f is|false=>false
def uK (G:jf) (ops:List Oper):Nat→List Nat→List (List Nat)→Bool
 |0,m,ps=>match iG m 0 ops with| []=>r_ ps|_::_=>false
 |n+1,m,ps=>match iG m 0 ops with
  | []=>r_ ps
  |r::rs=>match ps with
   |(i::_)::_=>match takeB G ops m i,kS (r::rs) i with
    |true,true=>match tails i ps with| []=>false|q::qs=>uK G ops n (i::m) (q::qs)
    |_,_=>Ky (fun i=>uK G ops n (i::m) (tails i ps)) (r::rs)
   |_=>false
section
variable {G:jf} {P:Program} {ops:List Oper} {Q:Exit→Act→World→Prop}
theorem lq {l:List Nat} {n:Nat}:kS l n=true↔n∈l:=by
 induction l with
 |nil=>simp[kS]
 |cons k l ih=>
  unfold kS
  split
  ·rename_i h;simp[Nat.eq_of_beq_eq_true h]
  ·rename_i h;rw[ih];constructor
   ·exact fun h=>List.mem_cons_of_mem _ h
   ·intro h';rcases List.mem_cons.1 h' with e|e
    ·subst e;rw[Nat.beq_refl]at h;cases h
    ·exact e
theorem uM {m:List Nat} {l:List Edge}:qC m l=true↔ ∀e∈l,Region.binds .any e=true→e.on∈m:=by
 induction l with
 |nil=>simp[qC]
 |cons e l ih=>
  unfold qC
  split
  ·rename_i h;rw[ih];simp[h]
  ·rename_i h
   split
   ·rename_i h';rw[ih];simp[h,lq.1 h']
   ·rename_i h';simp only[Bool.false_eq_true,List.mem_cons,forall_eq_or_imp,h,false_iff,true_implies,not_and];intro h2;rw[lq.2 h2]at h';cases h'
theorem wR {m:List Nat}: ∀{l:List Oper} {k j:Nat},j∈iG m k l↔j∉m∧k≤j∧ ∃o,l[j-k]? =some o∧ ∀e∈o.after,Region.binds .any e=true→e.on∈m
 | [],k,j=>by simp[iG]
 |o::l,k,j=>by
  unfold iG;have rest:(j∉m∧k+1≤j∧ ∃o,l[j-(k+1)]? =some o∧ ∀e∈o.after,Region.binds .any e=true→e.on∈m)↔(j∉m∧k<j∧ ∃o',(o::l)[j-k]? =some o'∧ ∀e∈o'.after,Region.binds .any e=true→e.on∈m):=by
   constructor
   ·rintro⟨h1,h2,h3⟩;refine⟨h1,h2,?_⟩;rw[show j-k=(j-(k+1))+1 by omega,List.getElem?_cons_succ]
    exact h3
   ·rintro⟨h1,h2,h3⟩;refine⟨h1,h2,?_⟩;rw[show j-k=(j-(k+1))+1 by omega,List.getElem?_cons_succ]at h3
    exact h3
  split
  ·rename_i h1 h2;have h1':k∉m:=fun h=>by rw[lq.2 h]at h1;cases h1
   have h2':=uM.1 h2;rw[List.mem_cons,wR,rest];constructor
   ·rintro(e|⟨a,b,c⟩)
    ·subst e;exact⟨h1',Nat.le_refl _,o,by simp,fun e he=>h2' e (by simpa using he)⟩
    ·exact⟨a,by omega,c⟩
   ·rintro⟨a,b,c⟩
    by_cases e:j=k
    ·exact .inl e
    ·exact .inr ⟨a,by omega,c⟩
  ·rename_i hne;rw[wR,rest];constructor
   ·rintro⟨a,b,c⟩;exact⟨a,by omega,c⟩
   ·rintro⟨a,b,o',c1,c2⟩;refine⟨a,?_,o',c1,c2⟩
    by_cases e:j=k
    ·subst e;rw[Nat.sub_self,List.getElem?_cons_zero]at c1;injection c1 with c1
     subst c1;refine absurd (uM.2 fun e he=>c2 e (by simpa using he)) fun h=>hne ?_ h
     cases hh:kS m j with
     |false=>rfl
     |true=>exact absurd (lq.1 hh) a
    ·omega
theorem lF {m:List Nat} {j:Nat}:j∈iG m 0 ops↔j∉m∧ ∃o,ops[j]? =some o∧ ∀e∈o.after,Region.binds .any e=true→e.on∈m:=by
 rw[wR];simp
def nI (G:jf) (P:Program) (ops:List Oper) (Q:Exit→Act→World→Prop) (i:Nat) (K:Act→World→Prop) (a:Act) (w:World):Prop:=
 match ops[i]? with
 |none=>K a w
 |some o=>match Region.wanted o (yielded ops.toArray a.tmps) with
  |true=>match kd G o.op with
   |0=>o.wp P a w K Q
   |1=>o.rd P a w K
   |_=>o.pu P a w K
  |false=>K (a.put o.dst undef) w
def AnyX (G:jf) (P:Program) (ops:List Oper) (Q:Exit→Act→World→Prop):Nat→List Nat→Act→World→Prop
 |0,m,a,w=>iG m 0 ops= []∧Q .normal a w
 |n+1,m,a,w=>(iG m 0 ops= []→Q .normal a w)∧ ∀i∈iG m 0 ops,nI G P ops Q i (AnyX G P ops Q n (i::m)) a w
theorem UU {i:Nat} {K:Act→World→Prop} {a:Act} {w:World} (h:nI G P ops Q i K a w):wpOp P ops.toArray Q i K a w:=by
 unfold nI at h;unfold wpOp;simp only[List.getElem?_toArray]
 split
 ·rename_i e;rw[e]at h;exact h
 ·rename_i o e;rw[e]at h;simp only at h
  split at h
  ·rename_i hw;rw[if_pos hw]
   split at h
   ·exact .inl h
   ·exact .inl (kK h)
   ·exact .inl (kK (nC h))
  ·rename_i hw;rw[if_neg (by rw[hw];decide)]
   exact h
theorem Dz {i:Nat} {K K':Act→World→Prop} {a:Act} {w:World} (hh: ∀a w,K a w→K' a w) (h:nI G P ops Q i K a w):nI G P ops Q i K' a w:=by
 unfold nI at*
 split
 ·rename_i e;rw[e]at h;exact hh _ _ h
 ·rename_i o e;rw[e]at h;simp only at h
  split
  ·rename_i hw;rw[hw]at h;simp only at h
   split
   ·rename_i hk;rw[hk]at h;exact Oper.wp_mono hh h
   ·rename_i hk;rw[hk]at h;obtain⟨u,h1,h2⟩:=h;exact⟨u,h1,hh _ _ h2⟩
   ·rename_i hk1 hk2
    split at h
    ·rename_i hk;exact absurd hk hk1
    ·rename_i hk;exact absurd hk hk2
    ·obtain⟨u,h1,h2⟩:=h;exact⟨u,h1,hh _ _ h2⟩
  ·rename_i hw;rw[hw]at h;exact hh _ _ h
theorem WV: ∀(n:Nat) (m:List Nat) (listed:Array Bool) (a:Act) (w:World),listed.size=ops.length→(∀j,listed.getD j false=kS m j)→AnyX G P ops Q n m a w→wpAny P .any ops.toArray Q n listed a w:=by
 intro n;have rd: ∀(m:List Nat) (listed:Array Bool),listed.size=ops.length→(∀j,listed.getD j false=kS m j)→ ∀j,j∈Region.ready .any ops.toArray listed↔j∈iG m 0 ops:=by
  intro m listed hs hl j;rw[mem_ready,lF];have e1: ∀e:Edge,(listed.getD e.on false=true↔e.on∈m):=fun e=>by rw[hl,lq]
  constructor
  ·rintro⟨h1,o,h2,h3⟩;refine⟨fun hm=> ?_,o,by simpa using h2,fun e he hb=>(e1 e).1 (h3 e he hb)⟩
   have:=(hl j).trans (lq.2 hm);have hlt:j<listed.size:=by
    rcases Nat.lt_or_ge j listed.size with h|h
    ·exact h
    ·rw[Array.getD_eq_getD_getElem?,Array.getElem?_eq_none h]at this;cases this
   rw[Array.getD_eq_getD_getElem?,Array.getElem?_eq_getElem hlt]at this h1;simp at this h1;rw[this]at h1;cases h1
  ·rintro⟨h1,o,h2,h3⟩;refine⟨?_,o,by simpa using h2,fun e he hb=>(e1 e).2 (h3 e he hb)⟩
   have hlt:j<listed.size:=by rw[hs];exact(List.getElem?_eq_some_iff.1 h2).1
   have:=hl j;rw[show kS m j=false from by cases hh:kS m j with|false=>rfl|true=>exact absurd (lq.1 hh) h1]at this
   rw[Array.getD_eq_getD_getElem?,Array.getElem?_eq_getElem hlt]at this⊢
   simpa using this
 have em: ∀(m:List Nat) (listed:Array Bool),listed.size=ops.length→(∀j,listed.getD j false=kS m j)→Region.ready .any ops.toArray listed= []→iG m 0 ops= []:=by
  intro m listed hs hl h;rw[List.eq_nil_iff_forall_not_mem]at h⊢;exact fun j hj=>h j ((rd m listed hs hl j).2 hj)
 have em': ∀(m:List Nat) (listed:Array Bool),listed.size=ops.length→(∀j,listed.getD j false=kS m j)→iG m 0 ops= []→Region.ready .any ops.toArray listed= []:=by
  intro m listed hs hl h;rw[List.eq_nil_iff_forall_not_mem]at h⊢;exact fun j hj=>h j ((rd m listed hs hl j).1 hj)
 induction n with
 |zero=>exact fun m listed a w hs hl h=>⟨em' m listed hs hl h.1,h.2⟩
 |succ n ih=>
  intro m listed a w hs hl h;refine⟨fun h0=>h.1 (em m listed hs hl h0),fun i hi=> ?_⟩
  have hi':=(rd m listed hs hl i).1 hi;refine wpOp_mono (fun a w=>ih (i::m) _ a w (by simpa using hs) fun j=> ?_) (UU (h.2 i hi'))
  obtain⟨_,o,ho,_⟩:=lF.1 hi';have hlt:i<listed.size:=by rw[hs];exact(List.getElem?_eq_some_iff.1 ho).1
  unfold kS
  split
  ·rename_i e;have e:=Nat.eq_of_beq_eq_true e;subst e;simp[hlt]
  ·rename_i e;rw[getD_set_ne false (fun h=>by subst h;rw[Nat.beq_refl]at e;cases e)]
   exact hl j
theorem Kz {id:Nat} {a:Act} {w:World} (hm:P.follows .mixedOrders=true) (h:AnyX G P ops Q ops.length [] a {w with drawn:=w.drawn+1}):(Code.region id ops.toArray true).wp P Q a w:=by
 refine wp_region_any hm (WV _ [] _ _ _ (by simp) (fun j=> ?_) (by simpa using h))
 rw[Array.getD_eq_getD_getElem?,Array.getElem?_replicate]
 split<;>rfl
theorem Ns: ∀(n:Nat) (m m':List Nat) (a:Act) (w:World),(∀j,j∈m↔j∈m')→AnyX G P ops Q n m a w→AnyX G P ops Q n m' a w:=by
 intro n;have rd: ∀(m m':List Nat),(∀j,j∈m↔j∈m')→ ∀j,j∈iG m 0 ops↔j∈iG m' 0 ops:=by
  intro m m' h j;rw[lF,lF];simp only[h]
 have em: ∀(m m':List Nat),(∀j,j∈m↔j∈m')→iG m 0 ops= []→iG m' 0 ops= []:=by
  intro m m' h h0;rw[List.eq_nil_iff_forall_not_mem]at h0⊢;exact fun j hj=>h0 j ((rd m m' h j).2 hj)
 induction n with
 |zero=>exact fun m m' a w h H=>⟨em m m' h H.1,H.2⟩
 |succ n ih=>
  intro m m' a w h H;refine⟨fun h0=>H.1 (em m' m (fun j=>(h j).symm) h0),fun i hi=>Dz (fun a w=>ih _ _ a w fun j=> ?_) (H.2 i ((rd m m' h i).2 hi))⟩
  simp only[List.mem_cons,h]
def YX (G:jf) (P:Program) (ops:List Oper) (o:Oper) (v:Value) (a:Act) (w:World):Prop:=
 (Region.wanted o (yielded ops.toArray a.tmps)=true∧(execOp a.eval o).run P w= .ok (.value v) w∧(2≤kd G o.op→ ∀w',(execOp a.eval o).run P w'= .ok (.value v) w'))∨
 (Region.wanted o (yielded ops.toArray a.tmps)=false∧v=undef)
theorem YX.same {o:Oper} {v:Value} {a a':Act} {w:World} (h:YX G P ops o v a w) (he:execOp a'.eval o=execOp a.eval o) (hw:Region.wanted o (yielded ops.toArray a'.tmps)=Region.wanted o (yielded ops.toArray a.tmps)):YX G P ops o v a' w:=by
 unfold YX at*;rw[he,hw];exact h
theorem YX.far {o:Oper} {v:Value} {a:Act} {w w':World} (h:YX G P ops o v a w) (hk:2≤kd G o.op):YX G P ops o v a w':=by
 rcases h with⟨h1,_,h3⟩|h
 ·exact .inl ⟨h1,h3 hk w',h3⟩
 ·exact .inr h
theorem YX.WW {i:Nat} {o:Oper} {K:Act→World→Prop} {a:Act} {w:World} (hi:ops[i]? =some o) (hk:1≤kd G o.op) (h:nI G P ops Q i K a w): ∃v,YX G P ops o v a w∧K (a.put o.dst v) w:=by
 unfold nI at h;rw[hi]at h;simp only at h
 split at h
 ·rename_i hw
  split at h
  ·rename_i h0;omega
  ·rename_i h1;obtain⟨u,k1,k2⟩:=h;exact⟨u,.inl ⟨hw,k1,fun h=>by omega⟩,k2⟩
  ·obtain⟨u,k1,k2⟩:=h;exact⟨u,.inl ⟨hw,k1 w,fun _=>k1⟩,k2⟩
 ·rename_i hw;exact⟨undef,.inr ⟨hw,rfl⟩,h⟩
theorem YX.step {i:Nat} {o:Oper} {K:Act→World→Prop} {v:Value} {a:Act} {w:World} (hi:ops[i]? =some o) (hk:1≤kd G o.op) (hy:YX G P ops o v a w) (h:K (a.put o.dst v) w):nI G P ops Q i K a w:=by
 unfold nI;rw[hi];simp only;rcases hy with⟨h1,h2,h3⟩|⟨h1,h2⟩
 ·rw[h1];simp only
  split
  ·rename_i h0;omega
  ·exact⟨v,h2,h⟩
  ·rename_i n0 n1;have n0:kd G o.op≠0:=n0;have n1:kd G o.op≠1:=n1;exact⟨v,h3 (by omega),h⟩
 ·rw[h1];subst h2;exact h
theorem QZ {j:Nat} {oi oj:Oper} {v:Value} (hj:ops[j]? =some oj) (hap:oi.apart ops.toArray oj=true) (hsi: ∀cs b,oi.op≠ .select cs b) (hsj: ∀cs b,oj.op≠ .select cs b) (hk:2≤kd G oi.op∨1≤kd G oj.op)
  (hQ: ∀c a w,Q (.panic c) (a.put oi.dst v) w→Q (.panic c) a w) {K:Act→World→Prop} {a:Act} {w:World} (hy:YX G P ops oi v a w) (h:nI G P ops Q j K (a.put oi.dst v) w):
  nI G P ops Q j (fun a' w'=>YX G P ops oi v a' w'∧K (a'.put oi.dst v) w') a w:=by
 obtain⟨h1,h2,h3⟩:=Oper.apart_spec hap;have keep: ∀(a:Act) (w:World),YX G P ops oi v a w→ ∀u,YX G P ops oi v (a.put oj.dst u) w:=fun a w hy u=>
  hy.same (execOp_put oi hsi a oj.dst u h3) (wanted_put oi a oj.dst u h3)
 have keepD: ∀w d,YX G P ops oi v a w→YX G P ops oi v {a with defers:=d::a.defers} w:=fun w d h=>h.same rfl rfl
 unfold nI at*;rw[hj]at*;simp only at*;rw[wanted_put oj a oi.dst v h1]at h
 split
 ·rename_i hw;rw[hw]at h;simp only at h
  split
  ·rename_i h0;rw[h0]at h;simp only at h;have hk2:2≤kd G oi.op:=hk.resolve_right (by omega)
   unfold Oper.wp at*;rw[execOp_put oj hsj a oi.dst v h1]at h;generalize (execOp a.eval oj).run P w=r at*;cases r with
   |ok n w'=>
    have hy': ∀w',YX G P ops oi v a w':=fun w'=>hy.far hk2
    cases n<;>simp only[Oper.upon]at h⊢
    case value u=>exact⟨keep a _ (hy' _) u,by rw[←Act.put_comm a v u h2];exact h⟩
    case skip=>exact⟨keep a _ (hy' _) _,by rw[←Act.put_comm a v undef h2];exact h⟩
    case defer d=>
     refine⟨keep _ _ (keepD _ d (hy' _)) _,?_⟩;rw[←Act.put_comm _ v undef h2,←Act.put_defers];exact h
    case enter f args=>
     refine Calls.mono h fun e w'' he=> ?_
     cases e with
     |returned u=>exact⟨keep a _ (hy' _) u,by rw[←Act.put_comm a v u h2];exact he⟩
     |panicked c=>exact hQ _ _ _ he
     |outgrown=>exact he
    case row row args=>exact Rows.mono h fun u w'' he=>⟨keep a _ (hy' _) u,by rw[←Act.put_comm a v u h2];exact he⟩
   |halt x w'=>
    cases x<;>simp only[Oper.upon]at h⊢
    case panic u=>exact hQ _ _ _ h
  ·rename_i h0;rw[h0]at h;simp only at h;obtain⟨u,k1,k2⟩:=h;rw[execOp_put oj hsj a oi.dst v h1]at k1;exact⟨u,k1,keep a _ hy u,by rw[←Act.put_comm a v u h2];exact k2⟩
  ·rename_i n0 n1
   split at h
   ·rename_i h0;exact absurd h0 n0
   ·rename_i h0;exact absurd h0 n1
   ·obtain⟨u,k1,k2⟩:=h;refine⟨u,fun w'=> ?_,keep a _ hy u,by rw[←Act.put_comm a v u h2];exact k2⟩
    have:=k1 w'
    rwa [execOp_put oj hsj a oi.dst v h1]at this
 ·rename_i hw;rw[hw]at h;simp only at h;exact⟨keep a _ hy _,by rw[←Act.put_comm a v undef h2];exact h⟩
theorem Nu {i:Nat} {oi:Oper} {v:Value} {B:List Nat} (hi:ops[i]? =some oi) (hk:1≤kd G oi.op) (hsel: ∀(j:Nat) (o:Oper) cs b,ops[j]? =some o→o.op≠ .select cs b)
  (hQ: ∀c a w,Q (.panic c) (a.put oi.dst v) w→Q (.panic c) a w) (hB: ∀j o,ops[j]? =some o→j≠i→(∀e∈o.after,Region.binds .any e=true→e.on∈B)→j∈B): ∀(n:Nat) (m:List Nat) (a:Act) (w:World),(∀j∈m,j∈B)→
   (∀j oj,ops[j]? =some oj→j≠i→j∈B→j∉m→oi.apart ops.toArray oj=true∧(2≤kd G oi.op∨1≤kd G oj.op))→i∈iG m 0 ops→YX G P ops oi v a w→AnyX G P ops Q n (i::m) (a.put oi.dst v) w→AnyX G P ops Q (n+1) m a w:=by
 intro n;have mono: ∀{m:List Nat} {j k:Nat},j∈iG m 0 ops→j≠k→j∈iG (k::m) 0 ops:=by
  intro m j k h hne;rw[lF]at*;obtain⟨h1,o,h2,h3⟩:=h;exact⟨by simp[hne,h1],o,h2,fun e he hb=>List.mem_cons_of_mem _ (h3 e he hb)⟩
 induction n with
 |zero=>
  intro m a w hm hfree hr hy H;refine⟨fun h=>(by rw[h]at hr;cases hr),fun j hj=> ?_⟩
  by_cases hji:j=i
  ·subst hji;exact hy.step hi hk H
  ·have:=mono hj hji;rw[H.1]at this;cases this
 |succ n ih=>
  intro m a w hm hfree hr hy H;refine⟨fun h=>(by rw[h]at hr;cases hr),fun j hj=> ?_⟩
  by_cases hji:j=i
  ·subst hji;exact hy.step hi hk H
  ·have h1:=H.2 j (mono hj hji);obtain⟨hjun,oj,hoj,hall⟩:=lF.1 hj;have hjB:j∈B:=hB j oj hoj hji fun e he hb=>hm _ (hall e he hb)
   obtain⟨f1,f2⟩:=hfree j oj hoj hji hjB hjun;have h2:=QZ hoj f1 (fun cs b=>hsel i oi cs b hi) (fun cs b=>hsel j oj cs b hoj) f2 hQ hy h1
   refine Dz (fun a' w' h3=>ih (j::m) a' w' ?_ ?_ (mono hr (Ne.symm hji)) h3.1 ?_) h2
   ·intro k hk;rcases List.mem_cons.1 hk with e|e
    ·subst e;exact hjB
    ·exact hm k e
   ·exact fun k ok hok hki hkB hkm=>hfree k ok hok hki hkB fun h=>hkm (List.mem_cons_of_mem _ h)
   ·exact Ns _ _ _ _ _ (fun k=>by simp only[List.mem_cons];exact or_left_comm) h3.2
theorem DC {i:Nat} {b:List Nat}: ∀{l:List Oper} {k:Nat},yh i b k l=true→ ∀j o,l[j]? =some o→k+j≠i→(∀e∈o.after,Region.binds .any e=true→e.on∈b)→k+j∈b
 | [],k,_,j,o,ho,_,_=>by simp at ho
 |o'::l,k,h,j,o,ho,hne,he=>by
  unfold yh at h;cases j with
  |zero=>
   simp only[List.getElem?_cons_zero,Option.some.injEq]at ho;subst ho;rw[Nat.add_zero]at hne⊢
   split at h
   ·cases h
   ·rename_i hn;cases hh:kS b k with
    |true=>exact lq.1 hh
    |false=>
     refine absurd (uM.2 fun e hm=>he e (by simpa using hm)) fun h3=>hn ?_ hh h3
     cases h4:Nat.beq k i with
     |false=>rfl
     |true=>exact absurd (Nat.eq_of_beq_eq_true h4) hne
  |succ j=>
   rw[List.getElem?_cons_succ]at ho;have h':yh i b (k+1) l=true:=by
    split at h
    ·cases h
    ·exact h
   have:=DC h' j o ho (by omega) he
   rwa [show k+1+j=k+(j+1) by omega]at this
theorem FV {all:Array Oper} {oi:Oper} {i:Nat} {m b:List Nat}: ∀{l:List Oper} {k:Nat},apartB G all oi i m b k l=true→ ∀j o,l[j]? =some o→k+j≠i→k+j∈b→k+j∉m→oi.apart all o=true∧(2≤kd G oi.op∨1≤kd G o.op)
 | [],k,_,j,o,ho,_,_,_=>by simp at ho
 |o'::l,k,h,j,o,ho,hne,hb,hm=>by
  unfold apartB at h;cases j with
  |zero=>
   simp only[List.getElem?_cons_zero,Option.some.injEq]at ho;subst ho;rw[Nat.add_zero]at hne hb hm;have e1:Nat.beq k i=false:=by
    cases h4:Nat.beq k i with
    |false=>rfl
    |true=>exact absurd (Nat.eq_of_beq_eq_true h4) hne
   have e2:=lq.2 hb;have e3:kS m k=false:=by
    cases h4:kS m k with
    |false=>rfl
    |true=>exact absurd (lq.1 h4) hm
   rw[e1,e2,e3]at h;simp only at h
   split at h
   ·rename_i _ h1 h2;exact⟨h1,.inl (jV.1 h2)⟩
   ·rename_i h1 h2 _;exact⟨h1,.inr (jV.1 h2)⟩
   ·cases h
  |succ j=>
   rw[List.getElem?_cons_succ]at ho;have h':apartB G all oi i m b (k+1) l=true:=by
    split at h
    ·split at h
     ·exact h
     ·exact h
     ·cases h
    ·exact h
   exact FV h' j o ho (by omega) (by rwa [show k+1+j=k+(j+1) by omega]) (by rwa [show k+1+j=k+(j+1) by omega])
theorem UW {l b:List Nat} (h:Qz l b=true): ∀j∈l,j∈b:=by
 induction l with
 |nil=>intro j hj;cases hj
 |cons k l ih=>
  unfold Qz at h
  split at h
  ·rename_i hk;intro j hj;rcases List.mem_cons.1 hj with e|e
   ·subst e;exact lq.1 hk
   ·exact ih h j e
  ·cases h
theorem Q3 {i n:Nat} {m:List Nat} {a:Act} {w:World} (ht:takeB G ops m i=true) (hr:i∈iG m 0 ops) (hsel: ∀(j:Nat) (o:Oper) cs b,ops[j]? =some o→o.op≠ .select cs b)
  (hQ: ∀c a d v w,Q (.panic c) (a.put d v) w→Q (.panic c) a w) (h:nI G P ops Q i (AnyX G P ops Q n (i::m)) a w):AnyX G P ops Q (n+1) m a w:=by
 unfold takeB at ht
 split at ht
 ·rename_i oi hi;rw[lT]at hi
  split at ht
  ·rename_i h1 h2 h3 h4;have hk:=jV.1 h1;obtain⟨v,hy,hK⟩:=YX.WW hi hk h;refine Nu (B:=zx i m 0 ops) hi hk hsel (fun c a w=>hQ c a _ _ w) (fun j o ho hne he=> ?_) n m a w (UW h2) (fun j oj hoj hne hb hm=> ?_) hr hy hK
   ·have:=DC h3 j o ho (by omega) he
    rwa [Nat.zero_add]at this
   ·have:=FV h4 j oj hoj (by omega) (by rwa [Nat.zero_add]) (by rwa [Nat.zero_add])
    exact this
  ·cases ht
 ·cases ht
end
end
section
open Go Go.RowKit
variable {G:jf} {R:Type} {r:R}
def Both (r:R) (x y z:Option R):Prop:=x=some r→y=some r→z=some r
section
variable {E:Env G R} {o:Oper} {A B C:St G→Option R}
theorem Both.none {y z:Option R}:Both r Option.none y z:=fun h=>by cases h
theorem KA (h: ∀L,Both r (A L) (B L) (C L)) (v:DV G) (L:St G):Both r (out E o v L A) (out E o v L B) (out E o v L C):=by
 unfold out;cases o.dst with
 |none=>exact h L
 |some d=>
  simp only;cases Nat.blt d E.N with
  |true=>exact h _
  |false=>exact .none
theorem iC {p:Prop} [Decidable p] {a b c a' b' c':Option R} (h:Both r a b c) (h':Both r a' b' c'):Both r (if p then a else a') (if p then b else b') (if p then c else c'):=by
 split
 ·exact h
 ·exact h'
theorem DD {s:SV G} {a b c a' b' c':Option R} (h:Both r a b c) (h':Both r a' b' c'):Both r (vW s a a') (vW s b b') (vW s c c'):=by
 unfold vW;cases s with
 |agg ls=>exact .none
 |one l=>
  cases l with
  |kb b=>cases b with|true=>exact h|false=>exact h'
  |prop p d=>exact @iC _ _ p d _ _ _ _ _ _ h h'
  |val t x=>cases t with|bool=>exact iC h h'|_=>exact .none
  |_=>exact .none
theorem Q4 {op:BinOp} {k:IntKind} {x y:Int} {f g h:bD G→Option R} (hh: ∀l,Both r (f l) (g l) (h l)):Both r (MH op k x y f) (MH op k x y g) (MH op k x y h):=by
 unfold MH;cases op<;>first|exact hh _|exact iC .none (hh _)|exact .none
theorem Q5 {op:BinOp} {x y:ByteArray} {f g h:bD G→Option R} (hh: ∀l,Both r (f l) (g l) (h l)):Both r (MJ op x y f) (MJ op x y g) (MJ op x y h):=by
 unfold MJ;cases op<;>first|exact hh _|exact iC (hh _) .none|exact .none
theorem Q7 {T:Option TI} {op:BinOp} {x y:SV G} {f g h:bD G→Option R} (hh: ∀l,Both r (f l) (g l) (h l)):Both r (QB T op x y f) (QB T op x y g) (QB T op x y h):=by
 unfold QB
 repeat' (first|exact Both.none|exact hh _|exact Q4 hh|exact Q5 hh|split)
theorem FW {α:Type} {x:Option α} {f g h:α→Option R} (hh: ∀a,Both r (f a) (g a) (h a)):Both r (x.bind f) (x.bind g) (x.bind h):=by
 cases x with
 |none=>exact .none
 |some a=>exact hh a
theorem DF: ∀{gs:List Nat} {x y z:Option R},Both r x y z→Both r (TJ gs x) (TJ gs y) (TJ gs z)
 | [],_,_,_,h=>h
 |n::gs,_,_,_,h=>iC (DF h) .none
theorem Nv {ti:TI} {L:St G} {i n z off:Nat} {e:TypeId} {t:Ty} {xs:List (G.D t)} (ho: ∀(v:DV G) (L:St G),Both r (out E o v L A) (out E o v L B) (out E o v L C)):Both r (loadT E o ti L i n z off e t xs A) (loadT E o ti L i n z off e t xs B) (loadT E o ti L i n z off e t xs C):=by
 unfold loadT
 repeat' (first|exact Both.none|exact ho _ _|split)
theorem KC {s:SV G} {L:St G} {i n z off:Nat} {e:TypeId} {t:Ty} {xs:List (G.D t)} (ho: ∀(v:DV G) (L:St G),Both r (out E o v L A) (out E o v L B) (out E o v L C)):Both r (storeT E o s L i n z off e t xs A) (storeT E o s L i n z off e t xs B) (storeT E o s L i n z off e t xs C):=by
 unfold storeT
 repeat' (first|exact Both.none|exact DF (ho _ _)|split)
theorem KD {s:SV G} {L:St G} {i n z off i0 Bc:Nat} {e:TypeId} {t:Ty} {xs:List (G.D t)} (ho: ∀(v:DV G) (L:St G),Both r (out E o v L A) (out E o v L B) (out E o v L C)):Both r (wB E o s L i n z off e t xs i0 Bc A) (wB E o s L i n z off e t xs i0 Bc B) (wB E o s L i n z off e t xs i0 Bc C):=by
 unfold wB
 repeat' (first|exact Both.none|exact iC (ho _ _) Both.none|split)
theorem Nw {ti:TI} {L:St G} {i n z off n1 i1:Nat} {e:TypeId} {t:Ty} {xs:List (G.D t)} (ho: ∀(v:DV G) (L:St G),Both r (out E o v L A) (out E o v L B) (out E o v L C)):Both r (Ac E o ti L i n z off e t xs n1 i1 A) (Ac E o ti L i n z off e t xs n1 i1 B) (Ac E o ti L i n z off e t xs n1 i1 C):=by
 unfold Ac
 repeat' (first|exact Both.none|exact ho _ _|split)
theorem Ny {ti:TI} {L:St G} {i n z off:Nat} {e:TypeId} {t:Ty} {xs:List (G.D t)} (ho: ∀(v:DV G) (L:St G),Both r (out E o v L A) (out E o v L B) (out E o v L C)):Both r (Ae E o ti L i n z off e t xs A) (Ae E o ti L i n z off e t xs B) (Ae E o ti L i n z off e t xs C):=by
 unfold Ae
 repeat' (first|exact Both.none|exact ho _ _|split)
theorem Nz {ti:TI} {L:St G} {i n z off m:Nat} {e:TypeId} {t:Ty} {xs:List (G.D t)} (ho: ∀(v:DV G) (L:St G),Both r (out E o v L A) (out E o v L B) (out E o v L C)):Both r (Ad E o ti L i n z off e t xs m A) (Ad E o ti L i n z off e t xs m B) (Ad E o ti L i n z off e t xs m C):=by
 unfold Ad
 repeat' (first|exact Both.none|exact iC (ho _ _) Both.none|split)
theorem KE {L:St G} {i:Nat} {l:Int} {e:TypeId} {t:Ty} (ho: ∀(v:DV G) (L:St G),Both r (out E o v L A) (out E o v L B) (out E o v L C)):Both r (sliceT E o L i l e t A) (sliceT E o L i l e t B) (sliceT E o L i l e t C):=by
 unfold sliceT
 repeat' (first|exact Both.none|exact iC (iC (ho _ _) Both.none) Both.none|split)
theorem KF {s:SV G} {L:St G} {i n z off n1 i1 n2 i2:Nat} {e:TypeId} {t:Ty} {xs:List (G.D t)} {st:Bool} (ho: ∀(v:DV G) (L:St G),Both r (out E o v L A) (out E o v L B) (out E o v L C)):Both r (wC E o s L i n z off e t xs n1 i1 n2 i2 st A) (wC E o s L i n z off e t xs n1 i1 n2 i2 st B) (wC E o s L i n z off e t xs n1 i1 n2 i2 st C):=by
 unfold wC
 repeat' (first|exact Both.none|exact iC (ho _ _) Both.none|split)
theorem su {b:Ob G} {L:St G} {f g k:Nat→St G→Option R} (h: ∀i L,Both r (f i L) (g i L) (k i L)):Both r (iZ b L f) (iZ b L g) (iZ b L k):=by
 unfold iZ;cases L;exact h _ _
theorem KG {e:TypeId} {t:Ty} {n:Nat} {ps:List (Nat×Operand)} {L:St G} (ho: ∀(v:DV G) (L:St G),Both r (out E o v L A) (out E o v L B) (out E o v L C)):Both r (wE E o e t n ps L A) (wE E o e t n ps L B) (wE E o e t n ps L C):=by
 unfold wE
 repeat' (first|exact Both.none|exact DF (su fun _ _=>ho _ _)|exact su fun _ _=>ho _ _|split)
theorem Ie {e:TypeId} {t:Ty} {s i:SV G} {L:St G} (ho: ∀(v:DV G) (L:St G),Both r (out E o v L A) (out E o v L B) (out E o v L C)):Both r (rM E o e t s i L A) (rM E o e t s i L B) (rM E o e t s i L C):=by
 unfold rM
 repeat' (first|exact Both.none|refine iC (su fun _ _=>ho _ _) Both.none|split)
theorem Ig {rest:List Int} {f g k:Int→List Int→Option R} (h: ∀i l,Both r (f i l) (g i l) (k i l)):Both r (kY rest f) (kY rest g) (kY rest k):=by
 intro h1 h2;have a1:=rY h1;have a2:=rY h2;have hne:rest≠ []:=by
  intro e;unfold kY at h1
  split at h1
  ·rename_i hh;exact absurd e (Classical.choose_spec hh).1
  ·cases h1
 have hk: ∃s,rest≠ []∧ ∀c,c∈rest→k c (rest.filter fun x=>decide (x≠c))=some s:=⟨r,hne,fun c hc=>h _ _ (a1 c hc) (a2 c hc)⟩
 unfold kY;rw[dif_pos hk];obtain⟨c,hc⟩:=List.exists_mem_of_ne_nil rest hne;have e1:=(Classical.choose_spec hk).2 c hc;have e2:=h _ _ (a1 c hc) (a2 c hc);rw[e1]at e2;exact e2
theorem NC {x:Operand} {L:St G} (ho: ∀(v:DV G) (L:St G),Both r (out E o v L A) (out E o v L B) (out E o v L C)):Both r (nextK E o x L A) (nextK E o x L B) (nextK E o x L C):=by
 unfold nextK
 split
 ·split
  ·refine iC (iC (ho _ _) (Ig fun i l=> ?_)) .none
   cases L;exact ho _ _
  ·exact .none
 ·exact .none
theorem mW {T:TypeId} {x k v:Operand} {L:St G} (ho: ∀(v:DV G) (L:St G),Both r (out E o v L A) (out E o v L B) (out E o v L C)):Both r (uq E o T x k v L A) (uq E o T x k v L B) (uq E o T x k v L C)∧
  Both r (wF E o x L A) (wF E o x L B) (wF E o x L C)∧Both r (wG E o T x L A) (wG E o T x L B) (wG E o T x L C)∧Both r (CJ E o T x k L A) (CJ E o T x k L B) (CJ E o T x k L C)∧Both r (Jn E o T x L A) (Jn E o T x L B) (Jn E o T x L C)∧
  Both r (CO E o T L A) (CO E o T L B) (CO E o T L C):=by
 unfold uq wF wG CJ Jn CO;refine⟨?_,?_,?_,?_,?_,?_⟩<;>repeat' (first|exact Both.none|exact ho _ _|exact su fun _ _=>ho _ _|refine iC ?_ Both.none|split)
theorem ND (h: ∀L,Both r (A L) (B L) (C L)) (L:St G):Both r (bJ E o L A) (bJ E o L B) (bJ E o L C):=by
 have ho:=fun v L=>KA (E:=E) (o:=o) h v L
 have hc: ∀(c:Ct G) l L,Both r (Aa E o c l L A) (Aa E o c l L B) (Aa E o c l L C):=by
  intro c l L;cases L with
  |mk tm ob nx=>
  simp only[Aa]
  split
  ·split
   ·refine FW fun x=> ?_
    split
    ·split
     ·exact ho _ _
     ·exact .none
    ·exact ho _ _
   ·exact .none
  ·exact .none
 cases hop:o.op with
 |call c=>
  simp only[bJ,hop]
  repeat' (first|exact Both.none|exact ho _ _|exact hc _ _ _|exact(mW (x:= ‹Operand›) (k:= ‹Operand›) (v:= ‹Operand›) ho).2.2.2.2.1|exact Ie ho|refine iC ?_ Both.none|split)
 |unOp op T x=>
  cases op<;>simp only[bJ,hop]
  all_goals repeat' (first|exact Both.none|exact ho _ _|split)
 |makeFunc f x y=>
  cases f<;>simp only[bJ,hop]
  all_goals repeat' (first|exact Both.none|exact ho _ _|split)
 |makeMap T r0=>
  cases r0 with
  |none=>simp only[bJ,hop];exact(mW (x:= .const default) (k:= .const default) (v:= .const default) ho).2.2.2.2.2
  |some _=>simp only[bJ,hop];exact .none
 |insert T m k v=>simp only[bJ,hop];exact(mW ho).1
 |mapUpdate T m k v=>simp only[bJ,hop];exact(mW ho).1
 |lookup T x k ok=>
  cases ok with
  |false=>simp only[bJ,hop];exact(mW (v:=x) ho).2.2.2.1
  |true=>simp only[bJ,hop];exact .none
 |range T x=>simp only[bJ,hop];exact(mW (k:=x) (v:=x) ho).2.2.1
 |next x s=>
  cases s with
  |false=>simp only[bJ,hop];exact NC ho
  |true=>simp only[bJ,hop];exact .none
 |entry x=>simp only[bJ,hop];exact(mW (T:=0) (k:=x) (v:=x) ho).2.1
 |_=>
  simp only[bJ,hop]
  repeat' (first|exact Both.none|exact ho _ _|exact Nv ho|exact Nw ho|exact Ny ho|exact Nz ho|exact KE ho|exact KF ho|exact KC ho|exact KD ho|exact KG ho|exact Q7 fun _=>ho _ _|exact FW fun _=>ho _ _|refine DD ?_ ?_|refine iC ?_ Both.none|split)
theorem FX {all:List Oper} (h: ∀L,Both r (A L) (B L) (C L)) (L:St G):Both r (Bd E all o L A) (Bd E all o L B) (Bd E all o L C):=by
 have ho:=fun v L=>KA (E:=E) (o:=o) h v L
 unfold Bd
 repeat' (first|exact Both.none|exact ho _ _|exact ND h _|refine DD ?_ ?_|split)
theorem UX {all:List Oper} {ι:Type} {f:ι→St G→Option R} (L:St G) (q:ι): ∀(qs:List ι),(∀x∈q::qs,Bd E all o L (f x)=some r)→
  Bd E all o L (fun L'=> @ite _ (∀x∈q::qs,f x L'=some r) (Classical.propDecidable _) (some r) none)=some r:=by
 intro qs
 induction qs with
 |nil=>
  intro h;refine FX (r:=r) (A:=f q) (B:=f q) (C:=_) (fun L' h1 _=> ?_) L (h q List.mem_cons_self) (h q List.mem_cons_self)
  rw[if_pos];intro x hx;rw[List.mem_singleton.1 hx];exact h1
 |cons q' qs ih=>
  intro h;refine FX (r:=r) (A:=f q') (C:=_) (fun L' h1 h2=> ?_) L (h q' (by simp)) (ih fun x hx=>h x (by rcases List.mem_cons.1 hx with e|e<;>simp[e]))
  split at h2
  ·rename_i h3;rw[if_pos];intro x hx;rcases List.mem_cons.1 hx with e|e
   ·subst e;exact h3 _ List.mem_cons_self
   ·rcases List.mem_cons.1 e with e|e
    ·subst e;exact h1
    ·exact h3 _ (List.mem_cons_of_mem _ e)
  ·cases h2
end
end
section
open Go Go.RowKit
variable {G:jf} {R:Type} {P:Program} {W:fA} {w0 w w':World} {Z Z':Nat→Nat→Prop} {pl dI:Nat→Value} {N:Nat}
variable {o:Oper} {L:St G} {K:St G→Option R} {r:R} {a:Act} {next:Act→World→Prop} {Q:Exit→Act→World→Prop}
theorem UY {a:Act} {t:Nat} {b:Bool} (h:a.tmps.getD t undef= .bool b):a.tmps[t]? =some (.bool b):=by
 rw[Array.getD_eq_getD_getElem?]at h;cases hh:a.tmps[t]? with
 |none=>rw[hh]at h;cases h
 |some v=>rw[hh]at h;simp only[Option.getD_some]at h;rw[h]
theorem PX {E:Env G R} (all:List Oper) {o:Oper} {K:St G→Option R} {L:St G} {a:Act} {w:World} {Z:Nat→Nat→Prop} {pl:Nat→Value} {next:Act→World→Prop} {X:Prop}
  (h:Bd E all o L K=some r) (S:Sat E.N W w0 Z pl L a w) (hK:Then E W w0 K r next) (hX: ∀L,bJ E o L K=some r→Sat E.N W w0 Z pl L a w→X):
  (Region.wanted o (yielded all.toArray a.tmps)=true→X)∧(Region.wanted o (yielded all.toArray a.tmps)=false→next (a.put o.dst undef) w):=by
 unfold Bd at h
 split at h
 ·rename_i hg;refine⟨fun _=>hX L h S,fun hw=> ?_⟩
  simp only[Region.wanted,hg]at hw;cases hw
 ·rename_i j want hg;have hwant:Region.wanted o (yielded all.toArray a.tmps)=(yielded all.toArray a.tmps j==some want):=by simp only[Region.wanted,hg]
  rw[hwant]
  split at h
  ·rename_i oj hj
   split at h
   ·rename_i t hdt;rw[lT]at hj;have hyb: ∀b,a.tmps.getD t undef= .bool b→yielded all.toArray a.tmps j=some b:=by
     intro b hb;simp only[yielded,List.getElem?_toArray,hj,Option.bind_some,hdt,UY hb]
    have hyu:a.tmps.getD t undef=undef→yielded all.toArray a.tmps j=none:=by
     intro hu;rw[Array.getD_eq_getD_getElem?]at hu;simp only[yielded,List.getElem?_toArray,hj,Option.bind_some,hdt];cases hh:a.tmps[t]? with
     |none=>rfl
     |some v=>rw[hh]at hu;simp only[Option.getD_some]at hu;rw[hu];rfl
    split at h
    ·rename_i s hst;obtain⟨b,hb,h1,h2⟩:=CU h (S.tm t _ hst);rw[hyb b hb];cases b with
     |true=>
      have h1:=h1 rfl;cases want with
      |true=>exact⟨fun _=>hX _ h1 (S.know t true hb),fun hw=>absurd hw (by decide)⟩
      |false=>exact⟨fun hw=>absurd hw (by decide),fun _=>out_ok h1 (S.know t true hb) (show eU _ _ _ _ DV.und undef from rfl) hK⟩
     |false=>
      have h2:=h2 rfl;cases want with
      |false=>exact⟨fun _=>hX _ h2 (S.know t false hb),fun hw=>absurd hw (by decide)⟩
      |true=>exact⟨fun hw=>absurd hw (by decide),fun _=>out_ok h2 (S.know t false hb) (show eU _ _ _ _ DV.und undef from rfl) hK⟩
    ·rename_i hst;rw[hyu (S.tm t _ hst)];exact⟨fun hw=>(by cases want<;>exact absurd hw (by decide)),fun _=>out_ok h S (show eU _ _ _ _ DV.und undef from rfl) hK⟩
    ·cases h
   ·cases h
  ·cases h
theorem FY {E:Env G R} (hs:fH G) (ht:fJ P G) (hct: ∀f c,E.ct f=some c→c.Holds P f) (all:List Oper): ∀(l:List Oper) {L:St G} {a:Act} {w:World} {Z:Nat→Nat→Prop} {pl:Nat→Value},
  CP E all l L K=some r→Sat E.N W w0 Z pl L a w→Then E W w0 K r (fun a' w'=>Q .normal a' w')→wpList P all.toArray Q l a w
 | [],L,a,w,Z,pl,h,S,hK=>wpList_nil (hK L a w Z pl h S)
 |o::l,L,a,w,Z,pl,h,S,hK=>by
  have rest: ∀(K':Act→World→Prop),(∀a w,wpList P all.toArray Q l a w→K' a w)→Then E W w0 (fun L'=>CP E all l L' K) r K':=
   fun K' hK' L' a' w' Z' dI h' S'=>hK' a' w' (FY hs ht hct all l h' S' hK)
  simp only[CP]at h;refine wpList_step fun K' hK'=> ?_
  obtain⟨h1,h2⟩:=PX (X:=o.wp P a w K' Q) all h S (rest K' hK') (fun L' h' S'=>Kv hs ht hct h' S' (rest K' hK'))
  cases hw:Region.wanted o (yielded all.toArray a.tmps) with
  |true=>rw[if_pos rfl];exact h1 hw
  |false=>rw[if_neg (by decide)];exact h2 hw
theorem Q8 {E:Env G R} (hs:fH G) (ht:fJ P G) (hct: ∀f c,E.ct f=some c→c.Holds P f) (all:List Oper) {o:Oper} {i:Nat} (hi:all[i]? =some o) {K:St G→Option R} {L:St G} {a:Act} {w:World} {Z:Nat→Nat→Prop} {pl:Nat→Value} {next:Act→World→Prop}
  (h:Bd E all o L K=some r) (S:Sat E.N W w0 Z pl L a w) (hK:Then E W w0 K r next):nI G P all Q i next a w:=by
 unfold nI;rw[hi];simp only;obtain⟨h1,h2⟩:=PX all h S hK (X:=match kd G o.op with|0=>o.wp P a w next Q|1=>o.rd P a w next|_=>o.pu P a w next) (fun L' h' S'=>by
  split
  ·exact Kv hs ht hct h' S' hK
  ·rename_i hk;exact UT ht hs (by rw[hk];rfl) h' S' hK
  ·rename_i n0 n1;refine Kw ht hs ?_ h' S' hK;have n0:kd G o.op≠0:=n0;have n1:kd G o.op≠1:=n1;have:kd G o.op≤2:=by
    unfold kd
    repeat' (first|(decide;done)|omega|split)
   rw[show kd G o.op=2 by omega]
   rfl)
 cases hw:Region.wanted o (yielded all.toArray a.tmps) with
 |true=>exact h1 hw
 |false=>exact h2 hw
theorem vG {i:Nat} {q:List Nat}: ∀{ps:List (List Nat)},q∈tails i ps→i::q∈ps
 | [],h=>by simp[tails]at h
 | []::ps,h=>by simp only[tails]at h;exact List.mem_cons_of_mem _ (vG h)
 |(j::p)::ps,h=>by
  unfold tails at h
  split at h
  ·rename_i e;have e:=Nat.eq_of_beq_eq_true e;subst e;rcases List.mem_cons.1 h with h|h
   ·subst h;exact List.mem_cons_self
   ·exact List.mem_cons_of_mem _ (vG h)
  ·exact List.mem_cons_of_mem _ (vG h)
theorem DI: ∀{ps:List (List Nat)},r_ ps=true→ []∈ps
 | [],h=>by simp[r_]at h
 | []::_,_=>List.mem_cons_self
 |(_::_)::_,h=>by unfold r_ at h;exact List.mem_cons_of_mem _ (DI h)
theorem Q9 {ops:List Oper}: ∀{n:Nat} {m:List Nat},uK G ops n m []=true→False
 |0,m,h=>by unfold uK at h;split at h<;>simp[r_]at h
 |n+1,m,h=>by unfold uK at h;split at h<;>simp[r_]at h
theorem KH {f:Nat→Bool}: ∀{is:List Nat},Ky f is=true→ ∀i∈is,f i=true
 | [],_,i,hi=>by cases hi
 |j::is,h,i,hi=>by
  unfold Ky at h
  split at h
  ·rename_i hj;rcases List.mem_cons.1 hi with e|e
   ·subst e;exact hj
   ·exact KH h i e
  ·cases h
theorem Sat.drew {L:St G} {a:Act} {w:World} {Z:Nat→Nat→Prop} {pl:Nat→Value} (S:Sat N W w0 Z pl L a w) (d:Nat):Sat N W w0 Z pl L a {w with drawn:=d}:=
 have X:Ext Z w pl L.nx Z {w with drawn:=d} pl L.nx:=⟨Nat.le_refl _,fun _ _=>rfl,fun _ _ h=>h,fun _ _ _=>rfl⟩
 S.at X (S.mem.keep X (fun o b k hg hl hk=>⟨rfl,fun i=>S.mem.dU o b k hg hl hk i⟩) (fun b i hz=>S.mem.qL b i hz) (fun b i hz=> .inl hz)
  ⟨rfl,rfl,rfl,Nat.le_refl _,fun _ _ _=>rfl,fun _ cs _ _ _ _ h=>⟨cs,h,rfl,fun _ _=>rfl⟩⟩ (S.mem.tr.elim fun f T=>⟨f,T,fun o k hk=>⟨rfl,T.dU o k hk⟩⟩)) rfl
theorem WX {E:Env G R} (hs:fH G) (ht:fJ P G) (hct: ∀f c,E.ct f=some c→c.Holds P f) (ops:List Oper) (hsel: ∀(j:Nat) (o:Oper) cs b,ops[j]? =some o→o.op≠ .select cs b)
  (hQ: ∀c a d v w,Q (.panic c) (a.put d v) w→Q (.panic c) a w) (hK:Then E W w0 K r (fun a' w'=>Q .normal a' w')): ∀(n:Nat) (m:List Nat) (ps:List (List Nat)) (L:St G) (a:Act) (w:World) (Z:Nat→Nat→Prop) (pl:Nat→Value),
  uK G ops n m ps=true→(∀p∈ps,xN E ops p L K=some r)→Sat E.N W w0 Z pl L a w→AnyX G P ops Q n m a w:=by
 have PY: ∀(ps:List (List Nat)) (L:St G) (a:Act) (w:World) (Z:Nat→Nat→Prop) (pl:Nat→Value),r_ ps=true→(∀p∈ps,xN E ops p L K=some r)→Sat E.N W w0 Z pl L a w→Q .normal a w:=
  fun ps L a w Z pl h hp S=>hK L a w Z pl (hp [] (DI h)) S
 intro n
 induction n with
 |zero=>
  intro m ps L a w Z pl h hp S;unfold uK at h
  split at h
  ·rename_i hr;exact⟨hr,PY ps L a w Z pl h hp S⟩
  ·cases h
 |succ n ih=>
  intro m ps L a w Z pl h hp S;have one: ∀i,i∈iG m 0 ops→uK G ops n (i::m) (tails i ps)=true→nI G P ops Q i (AnyX G P ops Q n (i::m)) a w:=by
   intro i hi hw;obtain⟨_,o,ho,_⟩:=lF.1 hi;cases hq:tails i ps with
   |nil=>rw[hq]at hw;exact(Q9 hw).elim
   |cons q qs=>
    have hall: ∀x∈q::qs,Bd E ops o L (fun L'=>xN E ops x L' K)=some r:=by
     intro x hx;have:=hp (i::x) (vG (by rw[hq];exact hx))
     simp only[xN,lT,ho]at this;exact this
    have comb:=UX (f:=fun x L'=>xN E ops x L' K) L q qs hall
    refine Q8 hs ht hct ops ho comb S ?_;intro L' a' w' Z' dI hk S';simp only at hk
    split at hk
    ·rename_i hk';exact ih (i::m) (tails i ps) L' a' w' Z' dI hw (by rw[hq];exact hk') S'
    ·cases hk
  unfold uK at h
  split at h
  ·rename_i hr;exact⟨fun _=>PY ps L a w Z pl h hp S,fun i hi=>by rw[hr]at hi;cases hi⟩
  ·rename_i r0 rs hr;have each:Ky (fun i=>uK G ops n (i::m) (tails i ps)) (r0::rs)=true→AnyX G P ops Q (n+1) m a w:=fun he=>
    ⟨fun h0=>(by rw[hr]at h0;cases h0),fun i hi=>one i hi (KH he i (by rw[←hr];exact hi))⟩
   split at h
   ·rename_i i _ _
    split at h
    ·rename_i h1 h2
     split at h
     ·cases h
     ·rename_i q qs hq;have hi:i∈iG m 0 ops:=by rw[hr];exact lq.1 h2
      exact Q3 h1 hi hsel hQ (one i hi (by rw[hq];exact h))
    ·exact each h
   ·cases h
def nJ (G:jf) (ny:List (Nat×List (List Nat))):Code→Bool
 | .region id ops true=>match get ny id with
  |some ps=>match uK G ops.toList ops.toList.length [] ps,Region.noSelect ops with|true,true=>true|_,_=>false
  |none=>false
 | .seq a b=>match nJ G ny a with|true=>nJ G ny b|false=>false
 | .cond _ a b=>match nJ G ny a with|true=>nJ G ny b|false=>false
 | .block _ a=>nJ G ny a
 | .loop a=>nJ G ny a
 |_=>true
def zy (E:Nat→Env G R) (p:Pt G R) (c:Cut G R):Prop:=
 match p.kd with
 | .loop=>(∀h,c.g 0 h=none)∧ ∀k h,c.g (k+1) h=Wq E p k (cZ c.pat (eY c.ts h))
 | .draw _=> ∀k h r,c.g k h=some r→Wq E p k (cZ c.pat (eY c.ts h))=some r
 | .join=> ∀k h,c.g k h=Wq E p k (cZ c.pat (eY c.ts h))
def qE (E:Nat→Env G R) (l:List (Pt G R)):Prop:= ∀p∈l,∀c,TZ E p=some c→zy E p c
structure Fam (P:Program) (W:fA) (E:Nat→Env G R):Prop where
 N: ∀k,(E k).N=(E 0).N
 k: ∀k,(E k).k=k
 pre: ∀k,(E k).pre=W.fix
 loops: ∀k,(E k).loops=(E 0).loops
 joins: ∀k,(E k).joins=(E 0).joins
 ny: ∀k,(E k).ny=(E 0).ny
theorem KI {E:Env G R} {all:List Oper} {L:St G} {K:St G→Option R} {r:R}: ∀{ps:List (List Nat)},Wn E all ps L K=some r→ ∀p∈ps,xN E all p L K=some r
 | [],h,_,hp=>by cases hp
 | [q],h,p,hp=>by rw[List.mem_singleton.1 hp];exact h
 |q::q'::ps,h,p,hp=>by
  have h:same2 (xN E all q L K) (Wn E all (q'::ps) L K)=some r:=h;rcases List.mem_cons.1 hp with e|hp
  ·rw[e];exact xM h
  ·exact KI (BA h) p hp
theorem Ai {id:Nat} {c:Code} {Kf:Nat→Ex→St G→Option R}: ∀{ps:List (List Nat)} {p:List Nat},p∈ps→(⟨.draw p,some id,c,Kf⟩:Pt G R)∈BB id c Kf ps
 |q::ps,p,h=>by
  unfold BB;rcases List.mem_cons.1 h with e|e
  ·subst e;exact List.mem_cons_self
  ·exact List.mem_cons_of_mem _ (Ai e)
def aaC (Q:Exit→Act→World→Prop):Ex→Act→World→Prop
 | .nrm=>Q .normal
 | .exit i=>Q (.exit i)
 | .ret=>Q .ret
theorem go_ok (hs:fH G) {E:Nat→Env G R} (F:Fam P W E) {k:Nat} {c:Cut G R} (h:c.go (E k).pre k L=some r) (S:Sat N W w0 Z pl L a w):
  ∃hh Z' dI,c.g k hh=some r∧Sat N W w0 Z' dI (cZ c.pat (eY c.ts hh)) a w:=by
 simp only[Cut.go]at h
 split at h
 ·rename_i m hm
  split at h
  ·rename_i hh hhl;rw[F.pre]at hm;obtain⟨Z',dI,H⟩:=y9 hs hm S.closeAll.mem (JB (fun j hj=>(S.closeAll.mem.fx j hj).1)) (val:=fun t=>a.tmps.getD t undef) S.closeAll.tm
   obtain⟨m1,m2⟩:=H.inst;have e:=y_ hhl;refine⟨hh,Z',jO m.ren dI,h,?_⟩;rw[e];exact⟨S.size,S.defers,m2,m1⟩
  ·cases h
 ·cases h
theorem WY (hs:fH G) (ht:fJ P G) (hm:P.follows .mixedOrders=true) {E:Nat→Env G R} (F:Fam P W E) (r:R): ∀(code:Code) (k:Nat) (hct: ∀j,j≤k→ ∀f c,(E j).ct f=some c→c.Holds P f) (Kf:Nat→Ex→St G→Option R) (Q:Exit→Act→World→Prop) (L:St G) (a:Act) (w:World) (Z:Nat→Nat→Prop) (pl:Nat→Value),
  qW (E k) code L (Kf k)=some r→Sat (E 0).N W w0 Z pl L a w→qE E (jM E code Kf)→nJ G (E 0).ny code=true→(∀c a d v w,Q (.panic c) (a.put d v) w→Q (.panic c) a w)→
  (∀k',k'≤k→ ∀e L' a' w' Z' dI,Kf k' e L'=some r→Sat (E 0).N W w0 Z' dI L' a' w'→aaC Q e a' w')→code.wp P Q a w:=by
 intro code
 induction code with
 |skip=>exact fun k hct Kf Q L a w Z pl h S _ _ _ hK=>wp_skip (hK k (Nat.le_refl _) .nrm L a w Z pl h S)
 |exit id=>exact fun k hct Kf Q L a w Z pl h S _ _ _ hK=>wp_exit (hK k (Nat.le_refl _) (.exit id) L a w Z pl h S)
 |ret=>exact fun k hct Kf Q L a w Z pl h S _ _ _ hK=>wp_ret (hK k (Nat.le_refl _) .ret L a w Z pl h S)
 |region id ops draw=>
  intro k hct Kf Q L a w Z pl h S hg ho hQ hK;cases draw with
  |true=>
   simp only[nJ]at ho
   split at ho
   ·rename_i ps hps
    split at ho
    ·rename_i hw hsel;have go: ∀(L:St G) (Z:Nat→Nat→Prop) (pl:Nat→Value),(∀p∈ps,xN (E k) ops.toList p L (Kf k .nrm)=some r)→Sat (E 0).N W w0 Z pl L a w→(Code.region id ops true).wp P Q a w:=by
      intro L Z pl hp S;have:=Kz (id:=id) (ops:=ops.toList) hm (WX (Q:=Q) hs ht (hct k (Nat.le_refl _)) ops.toList (fun j o cs b hj=>Region.noSelect_spec hsel j o cs b (by rw[←hj];exact Array.getElem?_toList.symm)) hQ (fun L' a' w' Z' dI h' S'=>hK k (Nat.le_refl _) .nrm L' a' w' Z' dI h' (by rw[F.N]at S';exact S')) ops.toList.length [] ps L a _ Z pl hw hp (by rw[F.N];exact S.drew (w.drawn+1)))
      simpa using this
     simp only[qW,F.ny,hps]at h
     split at h
     ·rename_i p hp;injection hp with hp
      subst hp;exact go L Z pl (fun q hq=>by rw[List.mem_singleton.1 hq];exact h) S
     ·rename_i p q qs hp;injection hp with hp
      subst hp
      split at h
      ·rename_i c hc;rw[F.k]at h;obtain⟨hh,Z2,pl2,g1,g2⟩:=go_ok hs F h S;refine go _ Z2 pl2 (fun x hx=> ?_) g2
       have:=hg ⟨.draw x,some (id+100000),.region id ops true,Kf⟩ (by simp only[jM,hps];exact Ai hx) c (by rw[F.joins]at hc;exact hc)
       have this: ∀k h r,c.g k h=some r→xN (E k) ops.toList x (cZ c.pat (eY c.ts h)) (Kf k .nrm)=some r:=this;exact this _ _ _ g1
      ·exact go L Z pl (KI h) S
     ·cases h
    ·cases ho
   ·cases ho
  |false=>
   simp only[qW]at h;refine wp_region_list ?_;have:=FY (Q:=Q) hs ht (hct k (Nat.le_refl _)) ops.toList ops.toList h (by rw[F.N];exact S) (fun L' a' w' Z' dI h' S'=>hK k (Nat.le_refl _) .nrm L' a' w' Z' dI h' (by rw[F.N]at S';exact S'))
   simpa using this
 |seq x y ihx ihy=>
  intro k hct Kf Q L a w Z pl h S hg ho hQ hK;simp only[qW]at h;obtain⟨ho1,ho2⟩:nJ G (E 0).ny x=true∧nJ G (E 0).ny y=true:=by
   simp only[nJ]at ho
   split at ho
   ·rename_i h1;exact⟨h1,ho⟩
   ·cases ho
  refine wp_seq (ihx k hct (fun k=>Wp (E k) y (fun L'=>qW (E k) y L' (Kf k)) (Kf k)) _ L a w Z pl h S (fun p hp=>hg p (by simp only[jM];exact List.mem_cons_of_mem _ (List.mem_append_left _ hp))) ho1 hQ ?_)
  intro k' hk' e L' a' w' Z' dI h' S';have hgy:qE E (jM E y Kf):=fun p hp=>hg p (by simp only[jM];exact List.mem_cons_of_mem _ (List.mem_append_right _ hp))
  have hy:=ihy k' (fun j hj=>hct j (Nat.le_trans hj hk')) Kf Q
  have hK':=fun k'' (ack:k''≤k')=>hK k'' (Nat.le_trans ack hk')
  cases e with
  |nrm=>
   show y.wp P Q a' w';simp only[Wp]at h'
   split at h'
   ·rename_i c hc;rw[F.k]at h';obtain⟨hh,Z2,pl2,g1,g2⟩:=go_ok hs F h' S';have:=hg ⟨.join,Tn y,y,Kf⟩ (by simp only[jM];exact List.mem_cons_self) c (by rw[F.joins]at hc;exact hc)
    have this: ∀k h,c.g k h=qW (E k) y (cZ c.pat (eY c.ts h)) (Kf k):=this;rw[this]at g1;exact hy _ a' w' Z2 pl2 g1 g2 hgy ho2 hQ hK'
   ·exact hy L' a' w' Z' dI h' S' hgy ho2 hQ hK'
  |exit i=>exact hK k' hk' (.exit i) L' a' w' Z' dI h' S'
  |ret=>exact hK k' hk' .ret L' a' w' Z' dI h' S'
 |cond c x y ihx ihy=>
  intro k hct Kf Q L a w Z pl h S hg ho hQ hK;simp only[qW]at h;obtain⟨ho1,ho2⟩:nJ G (E 0).ny x=true∧nJ G (E 0).ny y=true:=by
   simp only[nJ]at ho
   split at ho
   ·rename_i h1;exact⟨h1,ho⟩
   ·cases ho
  split at h
  ·rename_i s hsc;obtain⟨b,hb,h1,h2⟩:=CU h (aK S hsc);have gx:qE E (jM E x Kf):=fun p hp=>hg p (by simp only[jM];exact List.mem_append_left _ hp)
   have gy:qE E (jM E y Kf):=fun p hp=>hg p (by simp only[jM];exact List.mem_append_right _ hp)
   refine wp_cond hb ?_;cases b with
   |true=>exact ihx k hct Kf Q _ a w Z pl (h1 rfl) (S.uk c true hb) gx ho1 hQ hK
   |false=>exact ihy k hct Kf Q _ a w Z pl (h2 rfl) (S.uk c false hb) gy ho2 hQ hK
  ·cases h
 |block id x ih=>
  intro k hct Kf Q L a w Z pl h S hg ho hQ hK;simp only[qW]at h;refine wp_block (ih k hct (fun k=>G9 id (Kf k)) _ L a w Z pl h S (fun p hp=>hg p (by simp only[jM];exact hp)) ho hQ ?_)
  intro k' hk' e L' a' w' Z' dI h' S';cases e with
  |nrm=>exact hK k' hk' .nrm L' a' w' Z' dI h' S'
  |exit i=>
   simp only[G9]at h';show Exit.inBlock id Q (.exit i) a' w'
   split at h'
   ·rename_i hi;have hi:=Nat.eq_of_beq_eq_true hi;simp only[Exit.inBlock,if_pos hi];exact hK k' hk' .nrm L' a' w' Z' dI h' S'
   ·rename_i hi;have hi:i≠id:=by intro e;rw[e,Nat.beq_refl]at hi;cases hi
    simp only[Exit.inBlock,if_neg hi];exact hK k' hk' (.exit i) L' a' w' Z' dI h' S'
  |ret=>exact hK k' hk' .ret L' a' w' Z' dI h' S'
 |loop x ih=>
  intro k hct Kf Q L a w Z pl h S hg ho hQ hK;simp only[qW,G8]at h
  split at h
  ·rename_i c hc;rw[F.k]at h;rw[F.loops]at hc;have hgood:=hg ⟨.loop,Tn x,x,Kf⟩ (by simp only[jM];exact List.mem_cons_self) c hc
   obtain⟨g0,gs⟩:(∀h,c.g 0 h=none)∧ ∀k h,c.g (k+1) h=qW (E k) x (cZ c.pat (eY c.ts h)) (E5 (E k) x (Kf k)):=hgood;have hgx:qE E (jM E x (fun k=>E5 (E k) x (Kf k))):=fun p hp=>hg p (by simp only[jM];exact List.mem_cons_of_mem _ hp)
   obtain⟨hh,Z1,pl1,q1,q2⟩:=go_ok hs F h S;refine wp_loop_ghost (fun n a w=>n≤k∧ ∃hh Z pl,c.g n hh=some r∧Sat (E 0).N W w0 Z pl (cZ c.pat (eY c.ts hh)) a w) k ⟨Nat.le_refl _,hh,Z1,pl1,q1,q2⟩ ?_
   rintro n a1 w1 ⟨hn,hh1,Z2,pl2,p1,p2⟩;cases n with
   |zero=>rw[g0]at p1;cases p1
   |succ n=>
    rw[gs]at p1;refine ih n (fun j hj=>hct j (by omega)) (fun k=>E5 (E k) x (Kf k)) _ _ a1 w1 Z2 pl2 p1 p2 hgx ho hQ ?_
    intro k' hk' e L' a' w' Z' dI h' S';cases e with
    |nrm=>
     simp only[E5,G8]at h';rw[F.loops,hc]at h';simp only at h';rw[F.k]at h';obtain⟨hh2,Z3,mJ,t1,t2⟩:=go_ok hs F h' S';exact⟨k',by omega,by omega,hh2,Z3,mJ,t1,t2⟩
    |exit i=>exact hK k' (by omega) (.exit i) L' a' w' Z' dI h' S'
    |ret=>exact hK k' (by omega) .ret L' a' w' Z' dI h' S'
  ·cases h
 |_=>intro k hct Kf Q L a w Z pl h;simp[qW]at h
end
section
open Go Go.RowKit
variable {G:jf} {P:Program} {W:fA} {w0 w w':World} {Z Z':Nat→Nat→Prop} {pl dI:Nat→Value} {N:Nat} {L:St G} {a:Act}
def UZ (tmps:Array Value):ResultVar→Sem Value
 | .tmp t=>pure (tmps.getD t undef)
 | .cell t T=>do loadVar T (←asAddr (tmps.getD t undef))
theorem PZ (ht:fJ P G) (S:Sat N W w0 Z pl L a w): ∀{rs:List ResultVar} {j:Nat} {ds:List (Nat×DV G)},G_ L j rs=some ds→
  ∃vals:List Value,(rs.mapM (UZ a.tmps)).run P w= .ok vals w∧vals.length=rs.length∧ds.map (·.1)=List.range' j rs.length∧ ∀t d,get ds t=some d→j≤t∧eU Z w pl L.nx d (vals.getD (t-j) undef)
 | [],j,ds,h=>by simp only[G_,Option.some.injEq]at h;subst h;exact⟨[],rfl,rfl,rfl,fun t d hg=>by simp[get]at hg⟩
 |rv::rs,j,ds,h=>by
  have step: ∀(s:SV G) (u:Value) (l:List (Nat×DV G)),(UZ a.tmps rv).run P w= .ok u w→lU Z w pl L.nx s u→G_ L (j+1) rs=some l→ds=(j,.sv s)::l→
    ∃vals:List Value,((rv::rs).mapM (UZ a.tmps)).run P w= .ok vals w∧vals.length=(rv::rs).length∧ds.map (·.1)=List.range' j (rv::rs).length∧ ∀t d,get ds t=some d→j≤t∧eU Z w pl L.nx d (vals.getD (t-j) undef):=by
   intro s u l h1 h2 h3 h4;subst h4;obtain⟨vals,k1,k2,k3,k4⟩:=PZ ht S h3;refine⟨u::vals,?_,by simp[k2],by simp only[List.map_cons,k3,List.length_cons,List.range'_succ],fun t d hg=> ?_⟩
   ·rw[List.mapM_cons,Sem.run_bind,h1];simp only[Result.andThen_ok];rw[Sem.run_bind,k1]
    rfl
   ·rw[bn]at hg
    split at hg
    ·rename_i e;injection hg with hg
     subst e hg;rw[Nat.sub_self];exact⟨Nat.le_refl _,h2⟩
    ·obtain⟨m1,m2⟩:=k4 t d hg;refine⟨by omega,?_⟩
     rw[show t-j=(t-(j+1))+1 by omega,List.getD_cons_succ]
     exact m2
  cases rv with
  |tmp t=>
   simp only[G_]at h
   split at h
   ·rename_i s hs
    split at h
    ·rename_i l hl;injection h with h
     exact step s _ l rfl (S.tm t _ hs) hl h.symm
    ·cases h
   ·cases h
  |cell t T=>
   simp only[G_]at h
   split at h
   ·rename_i i off ti hx hti;have tk:=ht T ti hti
    split at h
    ·rename_i ro ls hg
     split at h
     ·rename_i hle;rw[len_eq,len_eq]at hle;have hle:=jV.1 hle
      split at h
      ·rename_i s hsl;rw[len_eq]at hsl
       split at h
       ·rename_i l hl;injection h with h
        obtain⟨⟨_,b,hb,hv⟩,_⟩:=S.tm t _ hx;obtain⟨b',T',cs,k1,k2,k3⟩:=S.mem.ob i _ hg;rw[hb]at k1;injection k1 with k1
        injection k1 with k1
        injection k1 with k1
        subst k1;have hlen:=k3.length;obtain⟨u,u1,u2,u3,_⟩:=xW hsl ((k3.drop off).take ti.leaves.length);obtain⟨u',v1,v2,v3⟩:=ku (w:=w) ti tk (b:=b) (off:=off) (cs:=(cs.drop off).take ti.leaves.length) (fun j v hj=>by
         rw[List.getElem?_take]at hj
         split at hj
         ·rw[List.getElem?_drop]at hj;exact Fg k2 _ _ hj
         ·cases hj) (by rw[List.length_take,List.length_drop];omega)
        have:u'=u:=by
         cases hagg:ti.agg with
         |true=>rw[v2 hagg,u2 hagg]
         |false=>have:=(v3 hagg).symm.trans (u3 hagg);injection this
        subst this;refine step s u' l ?_ u1 hl h.symm;show((do loadVar T (←asAddr (a.tmps.getD t undef))):Sem Value).run P w=_
        rw[hv];have v1':=v1;unfold Instr.loadAt at v1';simp only[Instr.sureAddr,Sem.run_bind,Sem.run_pure,Result.andThen_ok]at v1';simp only[asAddr,Sem.run_bind,Sem.run_pure,Result.andThen_ok];exact v1'
       ·cases h
      ·cases h
     ·cases h
    ·cases h
   ·cases h
theorem KJ {fn:Func} {tmps:Array Value} {vals:List Value} (h:(fn.results.toList.mapM (UZ tmps)).run P w= .ok vals w):(results fn tmps).run P w= .ok (if _h:vals.toArray.size=1 then vals.toArray[0] else .tuple vals.toArray) w:=by
 unfold results;rw[Sem.run_bind];have e:(fn.results.mapM (fun(x:ResultVar)=>match x with
  | .tmp t=>(pure (tmps.getD t undef):Sem Value)
  | .cell a t=>do loadVar t (←asAddr (tmps.getD a undef)))).run P w=(Result.ok vals.toArray w:Result (Array Value)):=by
  rw[Array.mapM_eq_mapM_toList,Sem.run_map];have:(fun(x:ResultVar)=>match x with
   | .tmp t=>(pure (tmps.getD t undef):Sem Value)
   | .cell a t=>do loadVar t (←asAddr (tmps.getD a undef)))=UZ tmps:=by
   funext x
   cases x<;>rfl
  rw[this,h]
  rfl
 erw[e]
 rfl
theorem Yd (hs:fH G) (ht:fJ P G) (hm:P.follows .mixedOrders=true) {fid:FuncId} {fn:Func} {body:Code} (hf:P.funcs[fid]? =some fn) (hb:fn.body=some body) (hname:(fn.name== "runtime.NumGoroutine")=false)
  (c:Ct G) (E:Nat→Env G (HL G.S c.oq)) (k:Nat) (hN: ∀j,(E j).N=fn.ntmps) (hk: ∀j,(E j).k=j) (hpre: ∀j,(E j).pre=iU 0 c.ip.objs) (hl: ∀j,(E j).loops=(E 0).loops) (hj: ∀j,(E j).joins=(E 0).joins) (ho: ∀j,(E j).ny=(E 0).ny) (U0:nJ G (E 0).ny body=true)
  (hct: ∀j,j≤k→ ∀f c',(E j).ct f=some c'→c'.Holds P f) (hgood:qE E (jM E body (fun _=>MQ fn c))) (hF: ∀h,c.F h=YB c (E k) fn body h)
  (hsz:c.ip.tmps.length≤fn.ntmps) (hrs:c.rp.tmps.length=fn.results.toList.length) (wf:wz c.ip.objs c.rp.objs=true) (keys:um 0 c.rp.tmps=true) (Pj:c.br=true→Uc c=true):c.Holds P fid:=by
 refine⟨wf,keys,Pj,fun Wr Z pl w args h r hFr hargs ZP M=> .inr ⟨?_,?_⟩⟩
 ·simp only[callFunc,Sem.run_bind,run_program,Result.andThen_ok,hf];rw[if_neg (by rw[hname];decide),hb]
  rfl
 ·refine calls_of_wp hf hb ?_;rw[hF]at hFr
  let W:fA:=⟨Wr,Z,iU 0 c.ip.objs,pl⟩
  have F:Fam P W E:=⟨fun j=>by rw[hN,hN],hk,hpre,hl,hj,ho⟩
  have S:Sat (E 0).N W w Z pl (cZ c.ip (eY c.its h)) {tmps:=args++Array.replicate (fn.ntmps-args.size) undef,defers:= []} w:=by
   refine⟨?_,rfl,fun t d hg=> ?_,M⟩
   ·rw[hN];simp only[Array.size_append,Array.size_replicate];omega
   ·have:=ZP t d hg;have e:(args++Array.replicate (fn.ntmps-args.size) undef).getD t undef=args.getD t undef:=by
     rw[Array.getD_eq_getD_getElem?,Array.getD_eq_getD_getElem?,Array.getElem?_append]
     split
     ·rfl
     ·rename_i hlt;rw[Array.getElem?_eq_none (xs:=args) (by omega),Array.getElem?_replicate]
      split<;>rfl
    show eU _ _ _ _ _ ((args++Array.replicate (fn.ntmps-args.size) undef).getD t undef);rw[e];exact this
  refine WY (W:=W) hs ht hm F r body k hct (fun _=>MQ fn c) _ _ _ w Z pl hFr S hgood U0 (fun ch a d v w h=>by cases d<;>exact h) ?_
  intro k' _ e L' a' w' Z' dI h' S';have fin:(match G_ L' 0 fn.results.toList with
   |some ds=>match closeAll L' with
    |⟨_,ob,nx⟩=>match tN ob c.rp.tmps ds with
     |(ds',gs)=>TJ gs (YA c ds' ob nx)
   |none=>none)=some r→a'.defers= []∧ ∃v,(results fn a'.tmps).run P w'= .ok v w'∧ ∃v',Ending.returned v= .returned v'∧ ∃Z' pr,
   (∀t d,get (cZ c.rp (eY c.oq r)).tmps t=some d→eU Z' w' pr (cZ c.rp (eY c.oq r)).nx d (vY c.rp.tmps.length v' t))∧
   (c.rp.tmps.length=1∨ ∃vs:List Value,v'= .tuple vs.toArray∧vs.length=c.rp.tmps.length)∧
   Mem W w Z' pr (cZ c.rp (eY c.oq r)).objs (cZ c.rp (eY c.oq r)).nx w':=by
   intro h'
   split at h'
   ·rename_i ds hds;obtain⟨vals,r1,r2,r3,r4⟩:=PZ ht S' hds;have hnx:=(JH L').2;have S2:=S'.closeAll;generalize closeAll L'=LC at h' hnx S2;cases LC with
    |mk tm ob nx=>
    have hnx:nx=L'.nx:=hnx;simp only at h';obtain⟨hgs,h'⟩:=uA h';simp only[YA]at h';have M2:Mem W w Z' dI ob nx w':=S2.mem
    split at h'
    ·rename_i m hm;obtain⟨Z2,pl2,H⟩:=y9 hs hm (show Mem W w Z' dI ob nx w' from S2.mem) (JB (fun j hj=>(S2.mem.fx j hj).1)) (val:=fun t=>vals.getD t undef)
      (WC M2 hgs (val:=fun t=>vals.getD t undef) fun t d hg=>by have:=(r4 t d hg).2;rw[Nat.sub_zero]at this;rw[hnx];exact this)
     obtain⟨m1,m2⟩:=BF.inst H;have e:=y_ h';refine⟨S'.defers,_,KJ r1,_,rfl,Z2,jO m.ren pl2,?_,?_,by rw[e];exact m1⟩
     ·rw[e];intro t d hg;have hd:=m2 t d hg;have hkeys:(cZ c.rp m.out).tmps.map (·.1)=List.range' 0 c.rp.tmps.length:=by
       have:(cZ c.rp m.out).tmps=(fU (fun j=>j) c.rp.tmps m.out).1:=rfl
       rw[this,wP,zq keys]
      have hlt:t<c.rp.tmps.length:=by
       have hm:=List.mem_map_of_mem (f:=fun x=>x.1) (get_mem hg)
       rw[hkeys,List.mem_range'_1]at hm;omega
      have hvl:vals.length=c.rp.tmps.length:=by rw[r2,hrs]
      unfold vY
      split
      ·rename_i h1;rw[dif_pos (by rw[List.size_toArray,hvl,h1])]
       have ht0:t=0:=by omega
       subst ht0;rw[show vals.getD 0 undef=vals.toArray[0]'(by rw[List.size_toArray];omega) from by simp[List.getD,show 0<vals.length by omega]]at hd
       exact hd
      ·rename_i h1;rw[dif_neg (by rw[List.size_toArray,hvl];exact h1)]
       simp only;rw[show vals.toArray.getD t undef=vals.getD t undef from by simp[Array.getD_eq_getD_getElem?,List.getD_eq_getElem?_getD]]
       exact hd
     ·by_cases h1:c.rp.tmps.length=1
      ·exact .inl h1
      ·refine .inr ⟨vals,?_,by rw[r2,hrs]⟩
       rw[dif_neg (by rw[List.size_toArray,r2,←hrs];exact h1)]
    ·cases h'
   ·cases h'
  cases e with
  |nrm=>exact fin h'
  |exit i=>cases h'
  |ret=>exact fin h'
end
section
open Go Go.RowKit
variable {G:jf} {R:Type} {P:Program}
def cutAt (x:Option (Pt G R×Cut G R)):Option (Cut G R):=match x with|some (_,c)=>some c|none=>none
def Bh (x:Option (Pt G R×Cut G R)):Bool:=match x with|none=>false|some (p,_)=>match p.kd with| .loop=>true|_=>false
def KL (x:Option (Pt G R×Cut G R)):Bool:=match x with|none=>false|some (p,_)=>match p.kd with| .draw _=>true|_=>false
theorem DJ {E:Nat→Env G R}: ∀{l:List (Pt G R)} {p:Pt G R} {c:Cut G R},p∈l→TZ E p=some c→(p,c)∈used E l
 |q::l,p,c,h,hc=>by
  rcases List.mem_cons.1 h with h|h
  ·subst h;unfold used;rw[hc];exact List.mem_cons_self
  ·unfold used
   split
   ·exact List.mem_cons_of_mem _ (DJ h hc)
   ·exact DJ h hc
def kC (E:Nat→Env G R) (x:Option (Pt G R×Cut G R)):Prop:= ∀p c,x=some (p,c)→zy E p c
theorem U1 {E:Nat→Env G R} {x:Option (Pt G R×Cut G R)} (c:Cut G R) (h1:cutAt x=some c) (h2:Bh x=true) (h3: ∀h,c.g 0 h=none) (h4: ∀k h,c.g (k+1) h=O_ E x k (cZ c.pat (eY c.ts h))):kC E x:=by
 rintro p c' rfl;injection h1 with h1
 subst h1;unfold zy;simp only[Bh]at h2
 split at h2
 ·rename_i e;rw[e];exact⟨h3,h4⟩
 ·cases h2
theorem DK {E:Nat→Env G R} {x:Option (Pt G R×Cut G R)} (c:Cut G R) (h1:cutAt x=some c) (h2:Bh x=false) (h4: ∀k h,c.g k h=O_ E x k (cZ c.pat (eY c.ts h))):kC E x:=by
 rintro p c' rfl;injection h1 with h1
 subst h1;unfold zy;simp only[Bh]at h2
 split at h2
 ·cases h2
 ·rename_i e
  split
  ·rename_i e';exact absurd e' e
  ·exact fun k h r hr=>(h4 k h).symm.trans hr
  ·exact h4
theorem o9 {E:Nat→Env G R} {x:Option (Pt G R×Cut G R)} (c:Cut G R) (g:Nat→HL G.S c.ts→Option R) (h1:cutAt x=some c) (h2:KL x=true) (h4: ∀k h,g k h=O_ E x k (cZ c.pat (eY c.ts h))) (h5: ∀k h r,c.g k h=some r→g k h=some r):kC E x:=by
 rintro p c' rfl;injection h1 with h1
 subst h1;unfold zy;simp only[KL]at h2
 split at h2
 ·rename_i e;rw[e];exact fun k h r hr=>(h4 k h).symm.trans (h5 k h r hr)
 ·cases h2
theorem P5 {E:Nat→Env G R} {l:List (Pt G R)} (n:Nat) (hn:len (used E l)=n) (h: ∀i,i<n→kC E (nth (used E l) i)):qE E l:=by
 intro p hp c hc;obtain⟨i,hi⟩:=List.getElem?_of_mem (DJ hp hc);have hlt:i<n:=by
  rw[←hn,len_eq];exact(List.getElem?_eq_some_iff.1 hi).1
 refine h i hlt p c ?_;rw[lT];exact hi
def WZ (P:Program) (n:Nat):List Field→List (Nat×Nat)→Bool
 | [],[]=>true
 |f::fs,(d,m)::r=>match P.info? f.type,P.underlying f.type with
  |some i,some dd=>Nat.beq f.offset d&&(Nat.beq i.size m&&(Nat.ble (d+m) n&&((!Nat.beq m 1|| !zg dd)&&WZ P n fs r)))
  |_,_=>false
 |_,_=>false
def W9 (G:jf):Nat→List Ty→List (Nat×Nat)→Bool
 |_,[],_=>true
 |_,_::_,[]=>true
 |o,t::ts,(d,m)::r=>Nat.beq d o&&(Nat.beq m (G.aY t)&&W9 G (o+G.aY t) ts r)
theorem P6 {n:Nat}: ∀{fs:List Field} {l:List (Nat×Nat)},WZ P n fs l=true→fs.mapM (fun f=>(P.info? f.type).map fun i=>(f.offset,i.size))=some l∧
  ∀f d m,nth l f=some (d,m)→ ∃fd,fs[f]? =some fd∧fd.offset=d∧d+m≤n∧ ∃i,P.info? fd.type=some i∧i.size=m∧(m=1→ ∃dd,P.underlying fd.type=some dd∧zg dd=false)
 | [],[],_=>⟨rfl,fun f d m h=>by cases f<;>cases h⟩
 |f::fs,(d,m)::r,h=>by
  simp only[WZ]at h
  split at h
  ·rename_i i dd hi hd;simp only[Bool.and_eq_true,Bool.or_eq_true,Bool.not_eq_true']at h;obtain⟨h1,h2,h3,h4,h5⟩:=h;obtain⟨k1,k2⟩:=P6 h5;have h1:=Nat.eq_of_beq_eq_true h1;have h2:=Nat.eq_of_beq_eq_true h2;have h3:=jV.1 h3;refine⟨?_,fun g d' m' hg=> ?_⟩
   ·rw[List.mapM_cons,hi,k1];simp[h1,h2]
   ·cases g with
    |zero=>
     simp only[nth,Option.some.injEq,Prod.mk.injEq]at hg;obtain⟨e1,e2⟩:=hg;subst e1 e2;refine⟨f,rfl,h1,h3,i,hi,h2,fun hm=>⟨dd,hd,?_⟩⟩
     subst hm;rcases h4 with h4|h4
     ·cases h4
     ·exact h4
    |succ g=>exact k2 g d' m' hg
  ·cases h
theorem P7: ∀{ts:List Ty} {l:List (Nat×Nat)} {o:Nat},W9 G o ts l=true→ ∀f d n t,nth l f=some (d,n)→nth ts f=some t→d=o+kV G (ts.take f)∧n=G.aY t
 | [],l,o,_,f,d,n,t,_,ht=>by cases f<;>cases ht
 |_::_,[],o,_,f,d,n,t,hl,_=>by cases f<;>cases hl
 |u::ts,(d',m')::r,o,h,f,d,n,t,hl,ht=>by
  simp only[W9,Bool.and_eq_true]at h;obtain⟨h1,h2,h3⟩:=h;cases f with
  |zero=>
   simp only[nth,Option.some.injEq,Prod.mk.injEq]at hl ht;obtain⟨e1,e2⟩:=hl;subst e1 e2 ht;exact⟨Nat.eq_of_beq_eq_true h1,Nat.eq_of_beq_eq_true h2⟩
  |succ f=>
   obtain⟨k1,k2⟩:=P7 h3 f d n t hl ht;refine⟨?_,k2⟩;rw[k1,List.take_succ_cons];show _=o+(G.aY u+kV G (ts.take f));omega
def Y4 (P:Program) (T:TypeId):List Field:=match P.underlying T with|some (.struct fs)=>fs.toList|_=> []
def isStruct (P:Program) (T:TypeId):Bool:=match P.underlying T with|some (.struct _)=>true|_=>false
section
variable {T:TypeId}
theorem BJ {α β:Type} {f:α→β} {x:Option α} {y:β} (h:x.map f=some y): ∃a,x=some a∧f a=y:=by
 cases x with
 |none=>cases h
 |some a=>exact⟨a,rfl,by injection h⟩
theorem sD {d:TypeDesc} (l:Tm) (t:Option Ty) (hi:(P.info? T).map (fun i=>(i.size,i.zero))=some (1,some (zv l))) (hu:P.underlying T=some d) (ha:zg d=false)
  (hlv: ∀u,t=some u→G.aY u=1∧Z4 u=false)
  (hsl: ∀e u,t=some (.sl e u)→d= .slice e∧ ∃i z,P.info? e=some i∧i.size=G.aY u∧i.zero=some z∧z.cells.size=G.aY u∧0<G.aY u∧G.cap e*i.bytes≤140737488355328∧G.cap e≤maxLen)
  (hint: ∀k,t=some (.int k)→d= .int k) (hstr:t=some .str→d= .string) (aaD:t=some .bool→d= .bool)
  (acm:l= .ptr→ ∃e,d= .pointer e) (hfn:l= .fn→ ∃x y z,d= .func x y z)
  (hmp: ∀kt vt,l= .mp kt vt→G6 kt=true→pV vt=true→ ∃k e i,d= .map k e∧P.underlying k=some (descOf kt)∧P.info? e=some i∧i.zero=some (zv (.t vt)):=by intro kt vt h;cases h):n_ P G T ⟨[l],[],false,t⟩:=by
 obtain⟨i,h1,h2⟩:=BJ hi;injection h2 with h2 h3
 exact{
  size:=⟨i,h1,h2,fun _=>h3⟩
  agg:=⟨d,hu,ha⟩
  one:=fun _=>⟨l,rfl⟩
  lv:=hlv
  sl:=fun e u h=>by obtain⟨a,b⟩:=hsl e u h;subst a;exact⟨hu,b⟩
  int:=fun k h=>by rw[←hint k h];exact hu
  str:=fun h=>by rw[←hstr h];exact hu
  bool:=fun h=>by rw[←aaD h];exact hu
  mp:=fun kt vt h h1 h2=>by obtain⟨k,e,i,he,b⟩:=hmp kt vt (by injection h) h1 h2;subst he;exact⟨k,e,i,hu,b⟩
  ptr:=fun h=>by obtain⟨e,he⟩:=acm (by injection h);subst he;exact⟨e,hu⟩
  fn:=fun h=>by obtain⟨x,y,z,he⟩:=hfn (by injection h);subst he;exact⟨x,y,z,hu⟩
  vP:=fun f d n h=>by cases f<;>cases h
  Z5:=fun h=>by cases h
  Z7:=fun s h f d n t h'=>by cases f<;>cases h'}
theorem U2 (k:IntKind) (hi:(P.info? T).map (fun i=>(i.size,i.zero))=some (1,some (zv (.t (.int k))))) (hu:P.underlying T=some (.int k)):n_ P G T ⟨[.t (.int k)],[],false,some (.int k)⟩:=
 sD _ _ hi hu rfl (by rintro u ⟨⟩;exact⟨rfl,rfl⟩) (by intro e u h;cases h) (by rintro k' ⟨⟩;rfl) (by intro h;cases h) (by intro h;cases h) (by intro h;cases h) (by intro h;cases h)
theorem W_ (hi:(P.info? T).map (fun i=>(i.size,i.zero))=some (1,some (zv (.t .bool)))) (hu:P.underlying T=some .bool):n_ P G T ⟨[.t .bool],[],false,some .bool⟩:=
 sD _ _ hi hu rfl (by rintro u ⟨⟩;exact⟨rfl,rfl⟩) (by intro e u h;cases h) (by intro k h;cases h) (by intro h;cases h) (by intro _;rfl) (by intro h;cases h) (by intro h;cases h)
theorem Y5 (hi:(P.info? T).map (fun i=>(i.size,i.zero))=some (1,some (zv (.t .str)))) (hu:P.underlying T=some .string):n_ P G T ⟨[.t .str],[],false,some .str⟩:=
 sD _ _ hi hu rfl (by rintro u ⟨⟩;exact⟨rfl,rfl⟩) (by intro e u h;cases h) (by intro k h;cases h) (by intro _;rfl) (by intro h;cases h) (by intro h;cases h) (by intro h;cases h)
theorem U3 {e:TypeId} (hi:(P.info? T).map (fun i=>(i.size,i.zero))=some (1,some (zv .ptr))) (hu:P.underlying T=some (.pointer e)):n_ P G T ⟨[.ptr],[],false,none⟩:=
 sD _ _ hi hu rfl (by intro u h;cases h) (by intro e u h;cases h) (by intro k h;cases h) (by intro h;cases h) (by intro h;cases h) (by intro _;exact⟨e,rfl⟩) (by intro h;cases h)
theorem aaE {x y z} (hi:(P.info? T).map (fun i=>(i.size,i.zero))=some (1,some (zv .fn))) (hu:P.underlying T=some (.func x y z)):n_ P G T ⟨[.fn],[],false,none⟩:=
 sD _ _ hi hu rfl (by intro u h;cases h) (by intro e u h;cases h) (by intro k h;cases h) (by intro h;cases h) (by intro h;cases h) (by intro h;cases h) (by intro _;exact⟨x,y,z,rfl⟩)
theorem aaF (kt vt:Ty) {k e:TypeId} (hi:(P.info? T).map (fun i=>(i.size,i.zero))=some (1,some (zv (.mp kt vt)))) (hu:P.underlying T=some (.map k e)) (hk:P.underlying k=some (descOf kt)) (he:(P.info? e).map (fun i=>i.zero)=some (some (zv (.t vt)))):n_ P G T ⟨[.mp kt vt],[],false,none⟩:=
 sD _ _ hi hu rfl (by intro u h;cases h) (by intro e u h;cases h) (by intro k h;cases h) (by intro h;cases h) (by intro h;cases h) (by intro h;cases h) (by intro h;cases h) (by
  intro kt' vt' h _ _;injection h with h1 h2
  subst h1 h2;obtain⟨i,h1,h2⟩:=BJ he;exact⟨k,e,i,rfl,hk,h1,h2⟩)
theorem DL (e:TypeId) (t:Ty) {n:Nat} (hi:(P.info? T).map (fun i=>(i.size,i.zero))=some (1,some (zv (.t (.sl e t))))) (hu:P.underlying T=some (.slice e))
  {z:Value} (he:(P.info? e).map (fun i=>(i.size,i.zero,i.bytes))=some (G.aY t,some z,n)) (hz:z.cells.size=G.aY t) (hp:0<G.aY t) (hc:G.cap e*n≤140737488355328) (hm:G.cap e≤maxLen):n_ P G T ⟨[.t (.sl e t)],[],false,some (.sl e t)⟩:=
 sD _ _ hi hu rfl (by rintro u ⟨⟩;exact⟨rfl,rfl⟩) (by
  intro e' u h;injection h with h
  injection h with h h'
  subst h h';refine⟨rfl,?_⟩;obtain⟨i,h1,h2⟩:=BJ he;injection h2 with h2 h3
  injection h3 with h3 h4
  exact⟨i,z,h1,h2,h3,hz,hp,by rw[h4];exact hc,hm⟩) (by intro k h;cases h) (by intro h;cases h) (by intro h;cases h) (by intro h;cases h) (by intro h;cases h)
theorem o_ (ls:List Tm) (fl:List (Nat×Nat)) (t:Option Ty) (hs:isStruct P T=true) {z:Option Value} (hi:(P.info? T).map (fun i=>(i.size,i.zero))=some (len ls,z)) (hz:Cj (G:=G) ls≠none→z=some (oC ⟨ls,fl,true,t⟩)) (hf:WZ P (len ls) (Y4 P T) fl=true)
  (hlv: ∀u,t=some u→ ∃s,u= .st s∧G.sz s=len ls∧W9 G 0 (G.fs s) fl=true) (hne:ls≠ [.ptr]) (hne':ls≠ [.fn]) (hne2: ∀kt vt,ls≠ [.mp kt vt]):n_ P G T ⟨ls,fl,true,t⟩:=by
 obtain⟨i,h1,h2⟩:=BJ hi;injection h2 with h2 h3
 unfold isStruct at hs
 split at hs
 ·rename_i fs hu;have e:Y4 P T=fs.toList:=by unfold Y4;rw[hu]
  rw[e]at hf;obtain⟨k1,k2⟩:=P6 hf;have cs: ∀u,t=some u→ ∃s,u= .st s∧G.sz s=ls.length:=fun u hu=>by obtain⟨s,a,b,_⟩:=hlv u hu;exact⟨s,a,by rw[b,len_eq]⟩
  exact{
   size:=⟨i,h1,by rw[h2,len_eq],fun h=>by rw[h3];exact hz h⟩
   agg:=⟨_,hu,rfl⟩
   one:=fun h=>by cases h
   lv:=fun u hu=>by obtain⟨s,a,b⟩:=cs u hu;subst a;exact⟨b,rfl⟩
   sl:=fun e u h=>by obtain⟨s,a,_⟩:=cs _ h;cases a
   int:=fun k h=>by obtain⟨s,a,_⟩:=cs _ h;cases a
   str:=fun h=>by obtain⟨s,a,_⟩:=cs _ h;cases a
   bool:=fun h=>by obtain⟨s,a,_⟩:=cs _ h;cases a
   mp:=fun kt vt h _ _=>absurd h (hne2 kt vt)
   ptr:=fun h=>absurd h hne
   fn:=fun h=>absurd h hne'
   vP:=fun f d n h=>by
    obtain⟨fd,a,b,c,d'⟩:=k2 f d n h;refine⟨fs,fd,hu,by rw[←a,Array.getElem?_toList],b,by rw[←len_eq];exact c,d'⟩
   Z5:=fun _=>⟨fs,hu,k1⟩
   Z7:=fun s h f d n u h' h''=>by
    obtain⟨s',a,_,b⟩:=hlv _ h;injection a with a
    subst a;have:=P7 b f d n u h' h''
    rwa [Nat.zero_add]at this}
 ·cases hs
end
def U4 (P:Program) (G:jf):List (Nat×TI)→Prop
 | []=>True
 |(T,ti)::r=>n_ P G T ti∧U4 P G r
theorem U5 {P:Program} {G:jf} (l:List (Nat×TI)) (h:G.tab=get l) (H:U4 P G l):fJ P G:=by
 intro T ti hT;rw[h]at hT
 clear h
 induction l with
 |nil=>simp[get]at hT
 |cons p l ih=>
  obtain⟨T',ti'⟩:=p;rw[bn]at hT
  split at hT
  ·rename_i e;injection hT with hT
   subst e hT;exact H.1
  ·exact ih H.2 hT
def NG (P:Program) {G:jf}:List (Nat×Ct G)→Prop
 | []=>True
 |(f,c)::r=>c.Holds P f∧NG P r
theorem Ye {P:Program} {G:jf} {l:List (Nat×Ct G)} (H:NG P l) (f:FuncId) (c:Ct G) (h:get l f=some c):c.Holds P f:=by
 induction l with
 |nil=>simp[get]at h
 |cons p l ih=>
  obtain⟨f',c'⟩:=p;rw[bn]at h
  split at h
  ·rename_i e;injection h with h
   subst e h;exact H.1
  ·exact ih H.2 h
def mP (f:Func):Code:=match f.body with|some c=>c|none=> .skip
structure FD (G:jf) (R:Type) where
 ZT:Nat→List (Nat×Ct G)
 loops:List (Nat×Cut G R)
 joins:List (Nat×Cut G R)
 ny:List (Nat×List (List Nat))
 fz:List Nat
def FD.env (d:FD G R) (N:Nat) (pre:List Nat) (k:Nat):Env G R:=⟨N,pre,k,get (d.ZT k),d.loops,d.joins,d.ny,d.fz⟩
def gAt (x:Option (Pt G R×Cut G R)):Cut G R:=match x with|some (_,c)=>c|none=>⟨⟨[],[]⟩,[],fun _ _=>none⟩
def l0 (b:Bool) (o:Option R):Option R:=match b with|true=>none|false=>o
def bump (b:Bool) (k:Nat):Nat:=match b with|true=>k+1|false=>k
def One (E:Nat→Env G R) (x:Option (Pt G R×Cut G R)):Prop:=
 (∀h,(gAt x).g 0 h=l0 (Bh x) ((gAt x).g 0 h))∧ ∀k h,(gAt x).g (bump (Bh x) k) h=O_ E x k (cZ (gAt x).pat (eY (gAt x).ts h))
theorem One.good {E:Nat→Env G R} {x:Option (Pt G R×Cut G R)} (H:One E x):kC E x:=by
 rintro p c rfl;obtain⟨h1,h2⟩:=H;unfold zy;cases e:p.kd with
 |loop=>
  have e':Bh (some (p,c))=true:=by simp only[Bh,e]
  rw[e']at h1 h2;exact⟨h1,h2⟩
 |join=>
  have e':Bh (some (p,c))=false:=by simp only[Bh,e]
  rw[e']at h2;exact h2
 |draw o=>
  have e':Bh (some (p,c))=false:=by simp only[Bh,e]
  rw[e']at h2;exact fun k h r hr=>(h2 k h).symm.trans hr
def DN (E:Nat→Env G R) (l:List (Pt G R×Cut G R)):Nat→Prop
 |0=>True
 |n+1=>One E (nth l n)∧DN E l n
theorem DN.at {E:Nat→Env G R} {l:List (Pt G R×Cut G R)}: ∀{n:Nat},DN E l n→ ∀i,i<n→kC E (nth l i)
 |n+1,H,i,hi=>by
  by_cases e:i=n
  ·subst e;exact H.1.good
  ·exact DN.at H.2 i (by omega)
structure Kit (P:Program) (G:jf):Prop where
 ok:fH G
 tab:fJ P G
 mixed:P.follows .mixedOrders=true
def ZU (c:Ct G):Bool:= !c.br||Uc c
theorem cO (K:Kit P G) {fid:FuncId} (fn:Func) (c:Ct G) (d:FD G (HL G.S c.oq)) (n:Nat) (k:Nat) (hct: ∀j,j≤k→NG P (d.ZT j))
  (hf:P.funcs[fid]? =some fn:=by kernel_rfl) (hb:fn.body=some (mP fn):=by kernel_rfl) (hname:(fn.name== "runtime.NumGoroutine")=false:=by kernel_rfl)
  (U0:nJ G d.ny (mP fn)=true:=by kernel_rfl)
  (hn:len (used (d.env fn.ntmps (iU 0 c.ip.objs)) (jM (d.env fn.ntmps (iU 0 c.ip.objs)) (mP fn) (fun _=>MQ fn c)))=n:=by kernel_rfl)
  (hg:DN (d.env fn.ntmps (iU 0 c.ip.objs)) (used (d.env fn.ntmps (iU 0 c.ip.objs)) (jM (d.env fn.ntmps (iU 0 c.ip.objs)) (mP fn) (fun _=>MQ fn c))) n:=by
   repeat (first|exact True.intro|(refine⟨⟨fun h=> ?_,fun k h=> ?_⟩,?_⟩;kernel_rfl;kernel_rfl)))
  (hF: ∀h,c.F h=YB c (d.env fn.ntmps (iU 0 c.ip.objs) k) fn (mP fn) h:=by intro h;kernel_rfl)
  (hsz:Nat.ble c.ip.tmps.length fn.ntmps=true:=by kernel_rfl) (hrs:c.rp.tmps.length=fn.results.toList.length:=by kernel_rfl)
  (wf:wz c.ip.objs c.rp.objs=true:=by kernel_rfl) (keys:um 0 c.rp.tmps=true:=by kernel_rfl) (Pj:ZU c=true:=by kernel_rfl):c.Holds P fid:=
 Yd K.ok K.tab K.mixed hf hb hname c (d.env fn.ntmps (iU 0 c.ip.objs)) k (fun _=>rfl) (fun _=>rfl) (fun _=>rfl) (fun _=>rfl) (fun _=>rfl) (fun _=>rfl) U0
  (fun j hj=>Ye (l:=d.ZT j) (hct j hj)) (P5 n hn hg.at) hF (Nat.le_of_ble_eq_true hsz) hrs wf keys (fun h=>by
   unfold ZU at Pj;rw[h]at Pj;exact Pj)
theorem eX {c:Ct G} {fid:FuncId} (hF: ∀h,c.F h=none:=by intro h;kernel_rfl) (wf:wz c.ip.objs c.rp.objs=true:=by kernel_rfl) (keys:um 0 c.rp.tmps=true:=by kernel_rfl) (Pj:ZU c=true:=by kernel_rfl):c.Holds P fid:=
 ⟨wf,keys,fun h=>by
   unfold ZU at Pj;rw[h]at Pj;exact Pj,fun _ _ _ _ _ h _ hh=>by rw[hF]at hh;cases hh⟩
theorem jo {H:Nat→Prop} (z:H 0) (s: ∀k,(∀j,j≤k→H j)→H (k+1)) (k:Nat):H k:=by
 induction k using Nat.strongRecOn with
 |_ k ih=>cases k with
  |zero=>exact z
  |succ k=>exact s k fun j hj=>ih j (by omega)
abbrev tI:Ty:= .int .i64
abbrev oI:yT:= .one (.val (.int .i64))
abbrev oB:yT:= .one (.val .bool)
abbrev oS:yT:= .one (.val .str)
end
section
open Go Go.RowKit
variable {G:jf} {P:Program}
def Q_ (w:World):Nat→Nat→Prop:=fun b _=>b<w.heap.size
theorem eH.none {G:jf} (W:Nat→Nat→Prop) (base:Nat) (Z:Nat→Nat→Prop) (pl:Nat→Value) (nx:Nat) (w:World):eH (G:=G) W base Z pl [] nx w (fun _=> []) where
 rep:=fun o b hg=>by simp[get]at hg
 nd:=fun _=>List.nodup_nil
 sep:=fun _ _ _ h=>by cases h
 root:=fun _ _ _ _ h=>by cases h
 own:=fun _ _ h=>by cases h
 dU:=fun _ _ h=>by cases h
 lt:=fun _ _ h=>by cases h
theorem Jf {c:Ct G} {f:FuncId} (H:c.Holds P f) {fn:Func} {body:Code} (hf:P.funcs[f]? =some fn) (hb:fn.body=some body) (hname:(fn.name== "runtime.NumGoroutine")=false) (aaH:c.ip.objs= [])
  {w:World} {args:Array Value} {h:HL G.S c.its} {r:HL G.S c.oq} (hF:c.F h=some r) (hargs:args.size=c.ip.tmps.length)
  (hv: ∀t d,get (cZ c.ip (eY c.its h)).tmps t=some d→eU (Q_ w) w (fun _=>undef) (cZ c.ip (eY c.its h)).nx d (args.getD t undef)):
  Calls P f args w fun e w'=> ∃v,e= .returned v∧(∃Z' pr,∀t d,get (cZ c.rp (eY c.oq r)).tmps t=some d→eU Z' w' pr (cZ c.rp (eY c.oq r)).nx d (vY c.rp.tmps.length v t))∧Below w.heap.size w w':=by
 have henter:(callFunc f args).run P w= .ok (.enter f args) w:=by
  simp only[callFunc,Sem.run_bind,run_program,Result.andThen_ok,hf];rw[if_neg (by rw[hname];decide),hb]
  rfl
 have hob: ∀vs:List (TV G),(cZ c.ip vs).objs= []:=fun vs=>by simp only[cZ,aaH,gu]
 have M:Mem ⟨fun _ _=>False,Q_ w,iU 0 c.ip.objs,fun _=>undef⟩ w (Q_ w) (fun _=>undef) (cZ c.ip (eY c.its h)).objs (cZ c.ip (eY c.its h)).nx w:=by
  rw[hob];refine⟨fun o b hg=>by simp[get]at hg,fun o b hg=>by simp[get]at hg,fun o o' b b' k hg=>by simp[get]at hg,fun o b k hg=>by simp[get]at hg,fun o b k hg=>by simp[get]at hg,fun b i hz=>hz,fun b i hz=> .inl hz,fun b i hz=>hz,fun j hj=> ?_,Fr.refl _ _ _,⟨_,eH.none _ _ _ _ _ _⟩⟩
  rw[aaH]at hj;cases hj
 rcases H.run (fun _ _=>False) (Q_ w) (fun _=>undef) w args h r hF hargs hv M with⟨v,w',h1,_⟩|⟨_,h2⟩
 ·rw[henter]at h1;cases h1
 ·refine h2.mono fun e w' ⟨v,e1,Z',pr,q1,_,q3⟩=>⟨v,e1,⟨Z',pr,q1⟩,?_⟩
  have F:=q3.fr;exact⟨F.os,F.tape,F.output,F.size,fun k hk=>F.blk k hk (fun i h=>h)⟩
def O7 (k:IntKind) (w:World) (a:Option Addr) (len cap:Nat) (zs:List Int):Prop:=
 (a=none∧len=0∧cap=0∧zs= [])∨
 ∃x,a=some x∧len≤cap∧cap≤maxLen∧zs.length=cap∧(∀i,i<zs.length→w.cell? (x.add i)=some (.int k (zs.getD i 0)))∧ ∀n∈zs,(Lit.int k n).wf=true
theorem FZ {w:World} {x:Addr} {v:Value} (h:w.cell? (x.add 0)=some v):x.spot=none:=by
 have h:w.cell? x=some v:=h;cases hx:x.spot with
 |none=>rfl
 |some s=>
  exfalso
  unfold World.cell? at h
  split at h
  ·rw[hx]at h;cases h
  ·cases h
theorem Jg {k:IntKind} {w:World} {a:Option Addr} {len cap:Nat} {zs:List Int} (e:TypeId) (h:O7 k w a len cap zs):bP G (Q_ w) w (.sl e (.int k)) (zs.take len) [.slice a len cap]:=by
 rcases h with⟨rfl,rfl,rfl,rfl⟩|⟨x,rfl,hl,hm,hz,hc,_⟩
 ·exact .sl e (.int k) [] none 0 0 0 (fun _=> []) (Nat.le_refl _) (.inl rfl) (fun i hi=>by cases hi) (fun i j v hi=>by cases hi) (fun i hi=>by cases hi)
 ·have hlen:(zs.take len).length=len:=by rw[List.length_take];omega
  have key:bP G (Q_ w) w (.sl e (.int k)) (zs.take len) [.slice (some x) (zs.take len).length cap]:=by
   refine .sl e (.int k) _ _ _ x.block x.off (fun i=> [.int k (zs.getD i 0)]) (by show(zs.take len).length≤_;omega) ?_ (fun i hi=>rfl) (fun i j v hi hj=> ?_) (fun i hi=> ?_)
   ·by_cases h0:(zs.take len).length=0
    ·exact .inl h0
    ·right;have:=hc 0 (by omega)
     have hs:x.spot=none:=FZ this;cases x;simp_all
   ·have hi:i<(zs.take len).length:=hi;cases j with
    |zero=>
     simp only[List.getElem?_cons_zero,Option.some.injEq]at hj;subst hj;have h1:=hc i (by omega)
     have hs:x.spot=none:=FZ (hc 0 (by omega))
     have h1:w.cell? ⟨x.block,x.off+i,none⟩=some (.int k (zs.getD i 0)):=by
      rw[←h1];congr 1;obtain⟨b,o,s⟩:=x;subst hs;exact(qN b o i).symm
     refine⟨cell_lt h1,?_⟩;simp only[jf.aY,Nat.mul_one,Nat.add_zero];exact h1
    |succ j=>simp at hj
   ·have hi:i<(zs.take len).length:=hi;have e1:(zs.take len)[i]=zs.getD i 0:=by
     have:i<zs.length:=by omega
     simp[List.getD,this]
    show bP G _ _ (.int k) ((zs.take len)[i]:Int) _;rw[e1];exact .int k _
  rw[hlen]at key;exact key
theorem Fr.of_below {W:fA} {base:Nat} {w w':World} (h:Below w.heap.size w w') (hb:base≤w.heap.size):Fr W base w w':=
 ⟨h.os,h.tape,h.output,h.size,fun b hb' _=>h.block b (by omega),fun b cs T fr hb' _ hc=>⟨cs,by rw[h.block b (by omega)];exact hc,rfl,fun _ _=>rfl⟩⟩
theorem uN {c:Ct G} {f:FuncId} {fn:Func} {body:Code} (hf:P.funcs[f]? =some fn) (hb:fn.body=some body) (hname:(fn.name== "runtime.NumGoroutine")=false) (ZO:c.ip.objs= []) (hro:c.rp.objs= []) (h1:c.rp.tmps.length=1)
  (keys:um 0 c.rp.tmps=true) (Pj:c.br=true→Uc c=true)
  (H: ∀(Z:Nat→Nat→Prop) (w:World) (args:Array Value) (h:HL G.S c.its) (r:HL G.S c.oq),c.F h=some r→args.size=c.ip.tmps.length→(∀b i,Z b i→b<w.heap.size)→
   (∃pl,∀t d,get (cZ c.ip (eY c.its h)).tmps t=some d→eU Z w pl (cZ c.ip (eY c.its h)).nx d (args.getD t undef))→
   Calls P f args w fun e w'=> ∃v,e= .returned v∧(∀pl t d,get (cZ c.rp (eY c.oq r)).tmps t=some d→eU Z w' pl (cZ c.rp (eY c.oq r)).nx d (vY 1 v t))∧Below w.heap.size w w'):c.Holds P f:=by
 refine⟨by rw[ZO,hro];rfl,keys,Pj,fun Wr Z pl w args h r hF hargs hv M=> .inr ⟨?_,?_⟩⟩
 ·simp only[callFunc,Sem.run_bind,run_program,Result.andThen_ok,hf];rw[if_neg (by rw[hname];decide),hb]
  rfl
 ·refine(H Z w args h r hF hargs M.qL ⟨pl,hv⟩).mono fun e w' ⟨v,e1,q,bel⟩=>⟨v,e1,Z,pl,fun t d hg=>by rw[h1];exact q pl t d hg,.inl h1,?_⟩
  have hob: ∀vs:List (TV G),(cZ c.rp vs).objs= []:=fun vs=>by simp only[cZ,hro,gu]
  rw[hob];refine⟨fun o b hg=>by simp[get]at hg,fun o b hg=>by simp[get]at hg,fun o o' b b' k hg=>by simp[get]at hg,fun o b k hg=>by simp[get]at hg,fun o b k hg=>by simp[get]at hg,fun b i hz=>Nat.lt_of_lt_of_le (M.qL b i hz) bel.size,fun b i hz=> .inl hz,fun b i hz=>hz,fun j hj=> ?_,Fr.of_below bel (Nat.le_refl _),⟨_,eH.none _ _ _ _ _ _⟩⟩
  rw[show iU 0 c.ip.objs= [] by rw[ZO];rfl]at hj
  cases hj
theorem args2 {args:Array Value} {x y:Value} (h:args.size=2) (hx:args.getD 0 undef=x) (hy:args.getD 1 undef=y):args= #[x,y]:=by
 obtain⟨l⟩:=args
 match l,h with
 | [a,b],_=>simp at hx hy;rw[hx,hy]
def aaI (G:jf) (T:TypeId) (t:Ty):Bool:=
 match G.tab T with
 |some ⟨_,_,_,some t'⟩=>Ty.beq t' t
 |_=>false
def fieldsB (G:jf):List Field→List Ty→Nat→Bool
 | [],[],_=>true
 |f::fs,t::ts,n=>Nat.beq f.offset n&&(aaI G f.type t&&fieldsB G fs ts (n+G.aY t))
 |_,_,_=>false
def Y6 (P:Program) (G:jf) (T:TypeId) (ti:TI):Bool:=
 match ti.ty with
 |none=>true
 |some t=>Nat.beq (P.cellsOf T) (G.aY t)&&(match t with
  | .sl e t'=>aaI G e t'
  | .st s=>match P.underlying T with
   |some (.struct fs)=>fieldsB G fs.toList (G.fs s) 0
   |_=>false
  | .po _=>false
  |_=>true)
def rdB (P:Program) (G:jf):List (Nat×TI)→Bool
 | []=>true
 |(T,ti)::r=>Y6 P G T ti&&rdB P G r
theorem Xa {l:List (Nat×TI)} (h:rdB P G l=true) {T:TypeId} {ti:TI} (hg:get l T=some ti):Y6 P G T ti=true:=by
 induction l with
 |nil=>simp[get]at hg
 |cons p l ih=>
  obtain⟨k,v⟩:=p;simp only[rdB,Bool.and_eq_true]at h;rw[bn]at hg
  split at hg
  ·rename_i e;injection hg with hg;subst e hg;exact h.1
  ·exact ih h.2 hg
end
section
open Go Go.RowKit
structure af where
 ak:Int
 aG:ByteArray
 aB:(List Int)
 aI:Int
 aj:(List af)
def ah:af:=⟨(0:Int),ByteArray.empty,[],(0:Int),[]⟩
theorem aJ (x:af):af.mk x.ak x.aG x.aB x.aI x.aj=x:=by cases x;rfl
def au (x:af):af:=⟨x.ak,x.aG,x.aB,x.aI,x.aj⟩
theorem ay (x:af):au x=x:=by cases x;rfl
structure aV where
 aZ:af
 bu:Int
 bY:af
 aP:(List aV)
def az:aV:=⟨ah,(0:Int),ah,[]⟩
theorem uO (x:aV):aV.mk x.aZ x.bu x.bY x.aP=x:=by cases x;rfl
structure aO where
 aG:ByteArray
 aB:(List Int)
 aZ:ByteArray
def fC:aO:=⟨ByteArray.empty,[],ByteArray.empty⟩
structure bQ where
 bz:af
 f_:af
def kH:bQ:=⟨ah,ah⟩
theorem Rf (x:bQ):bQ.mk x.bz x.f_=x:=by cases x;rfl
structure dL where
 bF:(List af)
 fK:(List bQ)
def NH:dL:=⟨[],[]⟩
structure lu where
 zA:(List af)
 Y7:(List aO)
 Xb:(List af)
 Y8:(List af)
def zB:lu:=⟨[],[],[],[]⟩
structure vH where
 zA:(List af)
 Y9:(List af)
 U6:Bool
def NI:vH:=⟨[],[],false⟩
structure sF where
 aaJ:Int
 U6:Bool
def KN:sF:=⟨(0:Int),false⟩
structure sG where
 vb:(List Int)
 vp:Int
def KO:sG:=⟨[],(0:Int)⟩
structure lX where
 Xc:(List ByteArray)
 vat:Int
 Y_:Int
 U6:Bool
abbrev Jq:=List af
abbrev Jw:=List Int
abbrev Jz:=List aV
abbrev Jj:=List aO
abbrev Jk:=List ByteArray
abbrev Jx:=List Bool
abbrev Jv:=List bQ
def Bi:lX:=⟨[],(0:Int),(0:Int),false⟩
def Rh:Nat→Type
 |0=>aV
 |1=>af
 |2=>aO
 |3=>bQ
 |4=>dL
 |5=>lu
 |6=>vH
 |7=>sF
 |8=>sG
 |9=>lX
 |_+10=>Unit
def U7:Nat→List Ty
 |0=> [(.st 1),(.int .i64),(.st 1),(.sl 96 (.st 0))]
 |1=> [(.int .i64),.str,(.sl 3 (.int .i64)),(.int .i64),(.sl 26 (.st 1))]
 |2=> [.str,(.sl 3 (.int .i64)),.str]
 |3=> [(.st 1),(.st 1)]
 |4=> [(.sl 26 (.st 1)),(.sl 184 (.st 3))]
 |5=> [(.sl 26 (.st 1)),(.sl 197 (.st 2)),(.sl 26 (.st 1)),(.sl 26 (.st 1))]
 |6=> [(.sl 26 (.st 1)),(.sl 26 (.st 1)),.bool]
 |7=> [(.int .i64),.bool]
 |8=> [(.sl 5 (.int .u8)),(.int .i64)]
 |9=> [(.sl 9 .str),(.int .i64),(.int .i64),.bool]
 |_+10=> []
def aaK:(s:Nat)→Rh s→Fs Rh (U7 s)
 |0,(x:aV)=>(x.aZ,x.bu,x.bY,x.aP,())
 |1,(x:af)=>(x.ak,x.aG,x.aB,x.aI,x.aj,())
 |2,(x:aO)=>(x.aG,x.aB,x.aZ,())
 |3,(x:bQ)=>(x.bz,x.f_,())
 |4,(x:dL)=>(x.bF,x.fK,())
 |5,(x:lu)=>(x.zA,x.Y7,x.Xb,x.Y8,())
 |6,(x:vH)=>(x.zA,x.Y9,x.U6,())
 |7,(x:sF)=>(x.aaJ,x.U6,())
 |8,(x:sG)=>(x.vb,x.vp,())
 |9,(x:lX)=>(x.Xc,x.vat,x.Y_,x.U6,())
 |_+10,_=>()
def aaL:(s:Nat)→Fs Rh (U7 s)→Rh s
 |0,h=>(⟨h.1,h.2.1,h.2.2.1,h.2.2.2.1⟩:aV)
 |1,h=>(⟨h.1,h.2.1,h.2.2.1,h.2.2.2.1,h.2.2.2.2.1⟩:af)
 |2,h=>(⟨h.1,h.2.1,h.2.2.1⟩:aO)
 |3,h=>(⟨h.1,h.2.1⟩:bQ)
 |4,h=>(⟨h.1,h.2.1⟩:dL)
 |5,h=>(⟨h.1,h.2.1,h.2.2.1,h.2.2.2.1⟩:lu)
 |6,h=>(⟨h.1,h.2.1,h.2.2.1⟩:vH)
 |7,h=>(⟨h.1,h.2.1⟩:sF)
 |8,h=>(⟨h.1,h.2.1⟩:sG)
 |9,h=>(⟨h.1,h.2.1,h.2.2.1,h.2.2.2.1⟩:lX)
 |_+10,_=>()
def acn:(s:Nat)→Rh s
 |0=>az
 |1=>ah
 |2=>fC
 |3=>kH
 |4=>NH
 |5=>zB
 |6=>NI
 |7=>KN
 |8=>KO
 |9=>Bi
 |_+10=>()
def aaM:Nat→Nat
 |0=>12
 |1=>5
 |2=>3
 |3=>10
 |4=>2
 |5=>4
 |6=>3
 |7=>2
 |8=>2
 |9=>4
 |_+10=>0
def NJ:List (Nat×TI):= [(3,⟨[.t (.int .i64)],[],false,some (.int .i64)⟩),
 (4,⟨[.t .bool],[],false,some .bool⟩),
 (5,⟨[.t (.int .u8)],[],false,some (.int .u8)⟩),
 (9,⟨[.t .str],[],false,some .str⟩),
 (22,⟨[.t (.sl 5 (.int .u8))],[],false,some (.sl 5 (.int .u8))⟩),
 (23,⟨[.t (.sl 3 (.int .i64))],[],false,some (.sl 3 (.int .i64))⟩),
 (24,⟨[.t (.sl 26 (.st 1))],[],false,some (.sl 26 (.st 1))⟩),
 (26,⟨[.t (.int .i64),.t .str,.t (.sl 3 (.int .i64)),.t (.int .i64),.t (.sl 26 (.st 1))],[(0,1),(1,1),(2,1),(3,1),(4,1)],true,some (.st 1)⟩),
 (27,⟨[.t (.sl 197 (.st 2))],[],false,some (.sl 197 (.st 2))⟩),
 (30,⟨[.t (.sl 96 (.st 0))],[],false,some (.sl 96 (.st 0))⟩),
 (72,⟨[.t (.sl 184 (.st 3))],[],false,some (.sl 184 (.st 3))⟩),
 (74,⟨[.t (.sl 26 (.st 1)),.t (.sl 184 (.st 3))],[(0,1),(1,1)],true,some (.st 4)⟩),
 (88,⟨[.fn],[],false,none⟩),
 (90,⟨[.t (.sl 26 (.st 1)),.t (.sl 197 (.st 2)),.fn],[(0,1),(1,1),(2,1)],true,none⟩),
 (94,⟨[.t (.sl 26 (.st 1)),.t (.sl 197 (.st 2)),.t (.sl 26 (.st 1)),.t (.sl 26 (.st 1))],[(0,1),(1,1),(2,1),(3,1)],true,some (.st 5)⟩),
 (96,⟨[.t (.int .i64),.t .str,.t (.sl 3 (.int .i64)),.t (.int .i64),.t (.sl 26 (.st 1)),.t (.int .i64),.t (.int .i64),.t .str,.t (.sl 3 (.int .i64)),.t (.int .i64),.t (.sl 26 (.st 1)),.t (.sl 96 (.st 0))],[(0,5),(5,1),(6,5),(11,1)],true,some (.st 0)⟩),
 (101,⟨[.t (.sl 26 (.st 1)),.t (.sl 26 (.st 1)),.t .bool],[(0,1),(1,1),(2,1)],true,some (.st 6)⟩),
 (106,⟨[.ptr],[],false,none⟩),
 (108,⟨[.t (.int .i64),.t .bool],[(0,1),(1,1)],true,some (.st 7)⟩),
 (184,⟨[.t (.int .i64),.t .str,.t (.sl 3 (.int .i64)),.t (.int .i64),.t (.sl 26 (.st 1)),.t (.int .i64),.t .str,.t (.sl 3 (.int .i64)),.t (.int .i64),.t (.sl 26 (.st 1))],[(0,5),(5,5)],true,some (.st 3)⟩),
 (189,⟨[.t (.sl 5 (.int .u8)),.t (.int .i64)],[(0,1),(1,1)],true,some (.st 8)⟩),
 (195,⟨[.t (.sl 9 .str)],[],false,some (.sl 9 .str)⟩),
 (197,⟨[.t .str,.t (.sl 3 (.int .i64)),.t .str],[(0,1),(1,1),(2,1)],true,some (.st 2)⟩),
 (200,⟨[.ptr],[],false,none⟩),
 (275,⟨[.mp (.int .i64) .bool],[],false,none⟩),
 (289,⟨[.t (.sl 9 .str),.t (.int .i64),.t (.int .i64),.t .bool],[(0,1),(1,1),(2,1),(3,1)],true,some (.st 9)⟩)]
def Za:List (Nat×Nat):= [(3,17592186044416),(5,140737488355328),(9,8796093022208),(26,1759218604441),(96,733007751850),(184,879609302220),(197,2513169434916)]
def sg:jf where
 S:=Rh
 fs:=U7
 op:=aaK
 bd:=aaL
 hop:=by intro s h;match s with|0=>rfl|1=>rfl|2=>rfl|3=>rfl|4=>rfl|5=>rfl|6=>rfl|7=>rfl|8=>rfl|9=>rfl|_+10=>rfl
 sz:=aaM
 z:=acn
 tab:=get NJ
 cap:=fun e=>match get Za e with|some n=>n|none=>0
 own:=some [96]
theorem sg.ok:fH sg:=fun s=>match s with|0=>rfl|1=>rfl|2=>rfl|3=>rfl|4=>rfl|5=>rfl|6=>rfl|7=>rfl|8=>rfl|9=>rfl|_+10=>rfl
theorem sg.t3:n_ Tryz.prog sg 3 ⟨[.t (.int .i64)],[],false,some (.int .i64)⟩:=U2 .i64 (by kernel_rfl) (by kernel_rfl)
theorem sg.t4:n_ Tryz.prog sg 4 ⟨[.t .bool],[],false,some .bool⟩:=W_ (by kernel_rfl) (by kernel_rfl)
theorem sg.t5:n_ Tryz.prog sg 5 ⟨[.t (.int .u8)],[],false,some (.int .u8)⟩:=U2 .u8 (by kernel_rfl) (by kernel_rfl)
theorem sg.t9:n_ Tryz.prog sg 9 ⟨[.t .str],[],false,some .str⟩:=Y5 (by kernel_rfl) (by kernel_rfl)
theorem sg.t22:n_ Tryz.prog sg 22 ⟨[.t (.sl 5 (.int .u8))],[],false,some (.sl 5 (.int .u8))⟩:=DL 5 (.int .u8) (n:=1) (z:=oC ⟨[.t (.int .u8)],[],false,none⟩) (by kernel_rfl) (by kernel_rfl) (by kernel_rfl) (by kernel_rfl) (Nat.lt_of_succ_le (Nat.le_of_ble_eq_true (by kernel_rfl))) (Nat.le_of_ble_eq_true (by kernel_rfl)) (Nat.le_of_ble_eq_true (by kernel_rfl))
theorem sg.t23:n_ Tryz.prog sg 23 ⟨[.t (.sl 3 (.int .i64))],[],false,some (.sl 3 (.int .i64))⟩:=DL 3 (.int .i64) (n:=8) (z:=oC ⟨[.t (.int .i64)],[],false,none⟩) (by kernel_rfl) (by kernel_rfl) (by kernel_rfl) (by kernel_rfl) (Nat.lt_of_succ_le (Nat.le_of_ble_eq_true (by kernel_rfl))) (Nat.le_of_ble_eq_true (by kernel_rfl)) (Nat.le_of_ble_eq_true (by kernel_rfl))
theorem sg.t24:n_ Tryz.prog sg 24 ⟨[.t (.sl 26 (.st 1))],[],false,some (.sl 26 (.st 1))⟩:=DL 26 (.st 1) (n:=80) (z:=oC ⟨[.t (.int .i64),.t .str,.t (.sl 3 (.int .i64)),.t (.int .i64),.t (.sl 26 (.st 1))],[(0,1),(1,1),(2,1),(3,1),(4,1)],true,none⟩) (by kernel_rfl) (by kernel_rfl) (by kernel_rfl) (by kernel_rfl) (Nat.lt_of_succ_le (Nat.le_of_ble_eq_true (by kernel_rfl))) (Nat.le_of_ble_eq_true (by kernel_rfl)) (Nat.le_of_ble_eq_true (by kernel_rfl))
theorem sg.t26:n_ Tryz.prog sg 26 ⟨[.t (.int .i64),.t .str,.t (.sl 3 (.int .i64)),.t (.int .i64),.t (.sl 26 (.st 1))],[(0,1),(1,1),(2,1),(3,1),(4,1)],true,some (.st 1)⟩:=o_ _ _ _ (by kernel_rfl) (by kernel_rfl) (fun _=>rfl) (by kernel_rfl) (fun u h=>⟨1,by injection h with h;exact h.symm,by kernel_rfl,by kernel_rfl⟩) (by intro h;cases h) (by intro h;cases h) (by intro kt vt h;cases h)
theorem sg.t27:n_ Tryz.prog sg 27 ⟨[.t (.sl 197 (.st 2))],[],false,some (.sl 197 (.st 2))⟩:=DL 197 (.st 2) (n:=56) (z:=oC ⟨[.t .str,.t (.sl 3 (.int .i64)),.t .str],[(0,1),(1,1),(2,1)],true,none⟩) (by kernel_rfl) (by kernel_rfl) (by kernel_rfl) (by kernel_rfl) (Nat.lt_of_succ_le (Nat.le_of_ble_eq_true (by kernel_rfl))) (Nat.le_of_ble_eq_true (by kernel_rfl)) (Nat.le_of_ble_eq_true (by kernel_rfl))
theorem sg.t30:n_ Tryz.prog sg 30 ⟨[.t (.sl 96 (.st 0))],[],false,some (.sl 96 (.st 0))⟩:=DL 96 (.st 0) (n:=192) (z:=oC ⟨[.t (.int .i64),.t .str,.t (.sl 3 (.int .i64)),.t (.int .i64),.t (.sl 26 (.st 1)),.t (.int .i64),.t (.int .i64),.t .str,.t (.sl 3 (.int .i64)),.t (.int .i64),.t (.sl 26 (.st 1)),.t (.sl 96 (.st 0))],[(0,5),(5,1),(6,5),(11,1)],true,none⟩) (by kernel_rfl) (by kernel_rfl) (by kernel_rfl) (by kernel_rfl) (Nat.lt_of_succ_le (Nat.le_of_ble_eq_true (by kernel_rfl))) (Nat.le_of_ble_eq_true (by kernel_rfl)) (Nat.le_of_ble_eq_true (by kernel_rfl))
theorem sg.t72:n_ Tryz.prog sg 72 ⟨[.t (.sl 184 (.st 3))],[],false,some (.sl 184 (.st 3))⟩:=DL 184 (.st 3) (n:=160) (z:=oC ⟨[.t (.int .i64),.t .str,.t (.sl 3 (.int .i64)),.t (.int .i64),.t (.sl 26 (.st 1)),.t (.int .i64),.t .str,.t (.sl 3 (.int .i64)),.t (.int .i64),.t (.sl 26 (.st 1))],[(0,5),(5,5)],true,none⟩) (by kernel_rfl) (by kernel_rfl) (by kernel_rfl) (by kernel_rfl) (Nat.lt_of_succ_le (Nat.le_of_ble_eq_true (by kernel_rfl))) (Nat.le_of_ble_eq_true (by kernel_rfl)) (Nat.le_of_ble_eq_true (by kernel_rfl))
theorem sg.t74:n_ Tryz.prog sg 74 ⟨[.t (.sl 26 (.st 1)),.t (.sl 184 (.st 3))],[(0,1),(1,1)],true,some (.st 4)⟩:=o_ _ _ _ (by kernel_rfl) (by kernel_rfl) (fun _=>rfl) (by kernel_rfl) (fun u h=>⟨4,by injection h with h;exact h.symm,by kernel_rfl,by kernel_rfl⟩) (by intro h;cases h) (by intro h;cases h) (by intro kt vt h;cases h)
theorem sg.t88:n_ Tryz.prog sg 88 ⟨[.fn],[],false,none⟩:=aaE (x:= #[26,26]) (y:= #[]) (z:=false) (by kernel_rfl) (by kernel_rfl)
theorem sg.t90:n_ Tryz.prog sg 90 ⟨[.t (.sl 26 (.st 1)),.t (.sl 197 (.st 2)),.fn],[(0,1),(1,1),(2,1)],true,none⟩:=o_ _ _ _ (by kernel_rfl) (by kernel_rfl) (fun _=>rfl) (by kernel_rfl) (fun u h=>by cases h) (by intro h;cases h) (by intro h;cases h) (by intro kt vt h;cases h)
theorem sg.t94:n_ Tryz.prog sg 94 ⟨[.t (.sl 26 (.st 1)),.t (.sl 197 (.st 2)),.t (.sl 26 (.st 1)),.t (.sl 26 (.st 1))],[(0,1),(1,1),(2,1),(3,1)],true,some (.st 5)⟩:=o_ _ _ _ (by kernel_rfl) (by kernel_rfl) (fun _=>rfl) (by kernel_rfl) (fun u h=>⟨5,by injection h with h;exact h.symm,by kernel_rfl,by kernel_rfl⟩) (by intro h;cases h) (by intro h;cases h) (by intro kt vt h;cases h)
theorem sg.t96:n_ Tryz.prog sg 96 ⟨[.t (.int .i64),.t .str,.t (.sl 3 (.int .i64)),.t (.int .i64),.t (.sl 26 (.st 1)),.t (.int .i64),.t (.int .i64),.t .str,.t (.sl 3 (.int .i64)),.t (.int .i64),.t (.sl 26 (.st 1)),.t (.sl 96 (.st 0))],[(0,5),(5,1),(6,5),(11,1)],true,some (.st 0)⟩:=o_ _ _ _ (by kernel_rfl) (by kernel_rfl) (fun _=>rfl) (by kernel_rfl) (fun u h=>⟨0,by injection h with h;exact h.symm,by kernel_rfl,by kernel_rfl⟩) (by intro h;cases h) (by intro h;cases h) (by intro kt vt h;cases h)
theorem sg.t101:n_ Tryz.prog sg 101 ⟨[.t (.sl 26 (.st 1)),.t (.sl 26 (.st 1)),.t .bool],[(0,1),(1,1),(2,1)],true,some (.st 6)⟩:=o_ _ _ _ (by kernel_rfl) (by kernel_rfl) (fun _=>rfl) (by kernel_rfl) (fun u h=>⟨6,by injection h with h;exact h.symm,by kernel_rfl,by kernel_rfl⟩) (by intro h;cases h) (by intro h;cases h) (by intro kt vt h;cases h)
theorem sg.t106:n_ Tryz.prog sg 106 ⟨[.ptr],[],false,none⟩:=U3 (e:=108) (by kernel_rfl) (by kernel_rfl)
theorem sg.t108:n_ Tryz.prog sg 108 ⟨[.t (.int .i64),.t .bool],[(0,1),(1,1)],true,some (.st 7)⟩:=o_ _ _ _ (by kernel_rfl) (by kernel_rfl) (fun _=>rfl) (by kernel_rfl) (fun u h=>⟨7,by injection h with h;exact h.symm,by kernel_rfl,by kernel_rfl⟩) (by intro h;cases h) (by intro h;cases h) (by intro kt vt h;cases h)
theorem sg.t184:n_ Tryz.prog sg 184 ⟨[.t (.int .i64),.t .str,.t (.sl 3 (.int .i64)),.t (.int .i64),.t (.sl 26 (.st 1)),.t (.int .i64),.t .str,.t (.sl 3 (.int .i64)),.t (.int .i64),.t (.sl 26 (.st 1))],[(0,5),(5,5)],true,some (.st 3)⟩:=o_ _ _ _ (by kernel_rfl) (by kernel_rfl) (fun _=>rfl) (by kernel_rfl) (fun u h=>⟨3,by injection h with h;exact h.symm,by kernel_rfl,by kernel_rfl⟩) (by intro h;cases h) (by intro h;cases h) (by intro kt vt h;cases h)
theorem sg.t189:n_ Tryz.prog sg 189 ⟨[.t (.sl 5 (.int .u8)),.t (.int .i64)],[(0,1),(1,1)],true,some (.st 8)⟩:=o_ _ _ _ (by kernel_rfl) (by kernel_rfl) (fun _=>rfl) (by kernel_rfl) (fun u h=>⟨8,by injection h with h;exact h.symm,by kernel_rfl,by kernel_rfl⟩) (by intro h;cases h) (by intro h;cases h) (by intro kt vt h;cases h)
theorem sg.t195:n_ Tryz.prog sg 195 ⟨[.t (.sl 9 .str)],[],false,some (.sl 9 .str)⟩:=DL 9 .str (n:=16) (z:=oC ⟨[.t .str],[],false,none⟩) (by kernel_rfl) (by kernel_rfl) (by kernel_rfl) (by kernel_rfl) (Nat.lt_of_succ_le (Nat.le_of_ble_eq_true (by kernel_rfl))) (Nat.le_of_ble_eq_true (by kernel_rfl)) (Nat.le_of_ble_eq_true (by kernel_rfl))
theorem sg.t197:n_ Tryz.prog sg 197 ⟨[.t .str,.t (.sl 3 (.int .i64)),.t .str],[(0,1),(1,1),(2,1)],true,some (.st 2)⟩:=o_ _ _ _ (by kernel_rfl) (by kernel_rfl) (fun _=>rfl) (by kernel_rfl) (fun u h=>⟨2,by injection h with h;exact h.symm,by kernel_rfl,by kernel_rfl⟩) (by intro h;cases h) (by intro h;cases h) (by intro kt vt h;cases h)
theorem sg.t200:n_ Tryz.prog sg 200 ⟨[.ptr],[],false,none⟩:=U3 (e:=26) (by kernel_rfl) (by kernel_rfl)
theorem sg.aco:n_ Tryz.prog sg 275 ⟨[.mp (.int .i64) .bool],[],false,none⟩:=aaF (.int .i64) .bool (k:=3) (e:=4) (by kernel_rfl) (by kernel_rfl) (by kernel_rfl) (by kernel_rfl)
theorem sg.acp:n_ Tryz.prog sg 289 ⟨[.t (.sl 9 .str),.t (.int .i64),.t (.int .i64),.t .bool],[(0,1),(1,1),(2,1),(3,1)],true,some (.st 9)⟩:=o_ _ _ _ (by kernel_rfl) (by kernel_rfl) (fun _=>rfl) (by kernel_rfl) (fun u h=>⟨9,by injection h with h;exact h.symm,by kernel_rfl,by kernel_rfl⟩) (by intro h;cases h) (by intro h;cases h) (by intro kt vt h;cases h)
theorem sg.tab:fJ Tryz.prog sg:=U5 NJ rfl ⟨sg.t3,sg.t4,sg.t5,sg.t9,sg.t22,sg.t23,sg.t24,sg.t26,sg.t27,sg.t30,sg.t72,sg.t74,sg.t88,sg.t90,sg.t94,sg.t96,sg.t101,sg.t106,sg.t108,sg.t184,sg.t189,sg.t195,sg.t197,sg.t200,sg.aco,sg.acp,trivial⟩
theorem sg.rd0:rdB Tryz.prog sg NJ=true:=by kernel_rfl
theorem sg.rd: ∀T ti,jf.tab sg T=some ti→Y6 Tryz.prog sg T ti=true:=fun T ti h=>Xa sg.rd0 h
theorem sg.mixed:Tryz.prog.follows .mixedOrders=true:=by kernel_rfl
theorem sg.kit:Kit Tryz.prog sg:=⟨sg.ok,sg.tab,sg.mixed⟩
def tq (s c:ByteArray):Option ByteArray:=
 if c.data.toList.all (fun b=>decide (b.toNat<128))=true then(if s.size≤9223372036854775807 then(if c.size<4294967281 then some ⟨(Go.Lib.trimS s.data.toList c.data.toList).toArray⟩ else none) else none) else none
def jg (s:ByteArray) (c:Int):Int:=Go.Lib.indexByte s.data.toList c.toNat.toUInt8
end
end Go.Proofs.YtmcbhnbemhfifaaGreatDoor.RX
namespace Go.Proofs
section
open Go.Shelf
def Tryz.lays160_ren:Go.Shelf.Ren:=⟨fun|160=>198|232=>216|231=>215|227=>217|234=>219|233=>218|236=>221|235=>220|228=>235|271=>238|151=>237|197=>236|120=>248|152=>247|260=>246|137=>196|119=>251|224=>252|225=>253|217=>213|266=>233|n=>n,fun|9=>9|4=>4|3=>3|5=>5|117=>304|116=>303|0=>0|124=>307|21=>21|105=>317|46=>300|119=>328|139=>331|138=>330|n=>n,fun|3=>2|4=>3|n=>n⟩
theorem Tryz.lays160:Go.Proofs.Lays.n160 Tryz.prog Tryz.lays160_ren:={
 mixed:=by kernel_rfl
 f119:=Tryz.func251.trans (congrArg some (by kernel_rfl))
 f120:=Tryz.func248.trans (congrArg some (by kernel_rfl))
 f137:=Tryz.func196.trans (congrArg some (by kernel_rfl))
 f151:=Tryz.func237.trans (congrArg some (by kernel_rfl))
 f152:=Tryz.func247.trans (congrArg some (by kernel_rfl))
 f160:=Tryz.func198.trans (congrArg some (by kernel_rfl))
 f197:=Tryz.func236.trans (congrArg some (by kernel_rfl))
 f217:=Tryz.func213.trans (congrArg some (by kernel_rfl))
 f224:=Tryz.func252.trans (congrArg some (by kernel_rfl))
 f225:=Tryz.func253.trans (congrArg some (by kernel_rfl))
 f227:=Tryz.func217.trans (congrArg some (by kernel_rfl))
 f228:=Tryz.func235.trans (congrArg some (by kernel_rfl))
 f231:=Tryz.func215.trans (congrArg some (by kernel_rfl))
 f232:=Tryz.func216.trans (congrArg some (by kernel_rfl))
 f233:=Tryz.func218.trans (congrArg some (by kernel_rfl))
 f234:=Tryz.func219.trans (congrArg some (by kernel_rfl))
 f235:=Tryz.func220.trans (congrArg some (by kernel_rfl))
 f236:=Tryz.func221.trans (congrArg some (by kernel_rfl))
 f260:=Tryz.func246.trans (congrArg some (by kernel_rfl))
 f266:=Tryz.func233.trans (congrArg some (by kernel_rfl))
 f271:=Tryz.func238.trans (congrArg some (by kernel_rfl))
 t0:=Tryz.underlying0
 a0:=Tryz.isAgg0
 z0:=Tryz.sizeOf0
 v0:=Tryz.zeroValue0
 t3:=Tryz.underlying3
 a3:=Tryz.isAgg3
 z3:=Tryz.sizeOf3
 v3:=Tryz.zeroValue3
 t4:=Tryz.underlying4
 a4:=Tryz.isAgg4
 z4:=Tryz.sizeOf4
 v4:=Tryz.zeroValue4
 t5:=Tryz.underlying5
 a5:=Tryz.isAgg5
 z5:=Tryz.sizeOf5
 v5:=Tryz.zeroValue5
 t9:=Tryz.underlying9
 a9:=Tryz.isAgg9
 z9:=Tryz.sizeOf9
 v9:=Tryz.zeroValue9
 t21:=Tryz.underlying21
 a21:=Tryz.isAgg21
 z21:=Tryz.sizeOf21
 v21:=Tryz.zeroValue21
 t46:=Tryz.underlying300
 a46:=Tryz.isAgg300
 z46:=Tryz.sizeOf300
 v46:=Tryz.zeroValue300
 t105:=Tryz.underlying317
 a105:=Tryz.isAgg317
 z105:=Tryz.sizeOf317
 v105:=Tryz.zeroValue317
 t116:=Tryz.underlying303
 a116:=Tryz.isAgg303
 z116:=Tryz.sizeOf303
 t117:=Tryz.underlying304
 a117:=Tryz.isAgg304
 z117:=Tryz.sizeOf304
 v117:=Tryz.zeroValue304
 t119:=Tryz.underlying328
 a119:=Tryz.isAgg328
 z119:=Tryz.sizeOf328
 t124:=Tryz.underlying307
 a124:=Tryz.isAgg307
 z124:=Tryz.sizeOf307
 v124:=Tryz.zeroValue307
 t138:=Tryz.underlying330
 a138:=Tryz.isAgg330
 z138:=Tryz.sizeOf330
 v138:=Tryz.zeroValue330
 t139:=Tryz.underlying331
 a139:=Tryz.isAgg331
 z139:=Tryz.sizeOf331
 v139:=Tryz.zeroValue331
 g3:=by kernel_rfl
 g4:=by kernel_rfl}
def Tryz.lays137_ren:Go.Shelf.Ren:=⟨fun|137=>196|217=>213|266=>233|n=>n,fun|9=>9|5=>5|3=>3|n=>n,fun|n=>n⟩
theorem Tryz.lays137:Go.Proofs.Lays.n137 Tryz.prog Tryz.lays137_ren:={
 mixed:=by kernel_rfl
 f137:=Tryz.func196.trans (congrArg some (by kernel_rfl))
 f217:=Tryz.func213.trans (congrArg some (by kernel_rfl))
 f266:=Tryz.func233.trans (congrArg some (by kernel_rfl))
 t3:=Tryz.underlying3
 a3:=Tryz.isAgg3
 z3:=Tryz.sizeOf3
 v3:=Tryz.zeroValue3
 t5:=Tryz.underlying5
 a5:=Tryz.isAgg5
 z5:=Tryz.sizeOf5
 v5:=Tryz.zeroValue5
 t9:=Tryz.underlying9
 a9:=Tryz.isAgg9
 z9:=Tryz.sizeOf9
 v9:=Tryz.zeroValue9}
open Go.RowKit in
theorem Tryz.strings_IndexByte (s:ByteArray) (c:Int) (w:World):
  Calls Tryz.prog 196 #[.string s,.int .u8 c] w fun e w'=>e= .returned (.int .i64 (Lib.indexByte s.data.toList c.toNat.toUInt8))∧w'=w:=Any.strings_IndexByte Tryz.lays137 s c w
end
end Go.Proofs
namespace Go.Proofs.YtmcbhnbemhfifaaGreatDoor.RX
section
open Go Go.RowKit
def p2 (a b:Ty):GX:=⟨[(0,.one (.val a)),(1,.one (.val b))],[]⟩
def p1 (a:Ty):GX:=⟨[(0,.one (.val a))],[]⟩
theorem P8 {d0:DV sg} {v:Value} {Z:Nat→Nat→Prop} {w:World} {pl:Nat→Value} {nx t:Nat} {d:DV sg} (h:eU Z w pl nx d0 v) (hg:get [(0,d0)] t=some d):eU Z w pl nx d (vY 1 v t):=by
 rw[bn]at hg
 split at hg
 ·injection hg with hg
  subst hg;exact h
 ·cases hg
def tq.ct:Ct sg:=⟨true,p2 .str .str,p1 .str,[.str,.str],[.str],fun h=>tq h.1 h.2⟩
theorem tq.holds:tq.ct.Holds Tryz.prog 198:=by
 refine uN (fn:=Tryz.f198) (body:=mP Tryz.f198) (by kernel_rfl) (by kernel_rfl) (by kernel_rfl) rfl rfl rfl (by kernel_rfl) (fun _=>by kernel_rfl) ?_
 intro Z w args h r hF hargs hZ ⟨pl,hv⟩;have e:args= #[.string h.1,.string h.2]:=args2 hargs (oD (hv 0 _ rfl)) (oD (hv 1 _ rfl));subst e;have hF:tq h.1 h.2=some r:=hF;unfold tq at hF
 split at hF
 ·rename_i h1
  split at hF
  ·rename_i h2
   split at hF
   ·rename_i h3;injection hF with hF
    subst hF;exact(Any.strings_Trim_laid Tryz.lays160 (by kernel_rfl) h.1 h.2 w h2 h3 (ascii_of_all h1)).mono fun e w' ⟨he,bel⟩=>⟨_,he,fun pl t d hg=>P8 (d0:= .sv (.one (.val .str ⟨(Go.Lib.trimS h.1.data.toList h.2.data.toList).toArray⟩))) (show gB _ _ _ _ _ _ from xX _) hg,bel⟩
   ·cases hF
  ·cases hF
 ·cases hF
def jg.ct:Ct sg:=⟨true,p2 .str (.int .u8),p1 (.int .i64),[.str,.int .u8],[.int .i64],fun h=>some (jg h.1 h.2)⟩
theorem jg.holds:jg.ct.Holds Tryz.prog 196:=by
 refine uN (fn:=Tryz.f196) (body:=mP Tryz.f196) (by kernel_rfl) (by kernel_rfl) (by kernel_rfl) rfl rfl rfl (by kernel_rfl) (fun _=>by kernel_rfl) ?_
 intro Z w args h r hF hargs hZ ⟨pl,hv⟩;have e:args= #[.string h.1,.int .u8 h.2]:=args2 hargs (oD (hv 0 _ rfl)) (vC (hv 1 _ rfl));subst e;injection hF with hF
 subst hF;refine(Tryz.strings_IndexByte h.1 h.2 w).mono fun e w' ⟨he,hw⟩=>⟨_,he,fun pl t d hg=>P8 (d0:= .sv (.one (.val (.int .i64) (jg h.1 h.2)))) (show gB _ _ _ _ _ _ from jH .i64 _) hg,?_⟩
 subst hw;exact Below.refl _ _
end
end Go.Proofs.YtmcbhnbemhfifaaGreatDoor.RX
