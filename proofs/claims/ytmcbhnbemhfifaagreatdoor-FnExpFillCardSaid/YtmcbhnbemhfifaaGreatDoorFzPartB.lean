/- Part of a proof that a law holds at every input. -/
import Derived.Test.YtmcbhnbemhfifaaGreatDoorFzPartA
import Derived.Lib.ConvBytes
import Derived.Laws.OwnMore
import Derived.Laws.IdiomStrings
set_option autoImplicit false
set_option linter.unusedVariables false
set_option linter.unusedSimpArgs false
namespace Go.Proofs.YtmcbhnbemhfifaaGreatDoor.RX
section
open Go
variable {G:jf} {W:fA} {w0 w w':World} {Z Z':Nat→Nat→Prop} {pl dI:Nat→Value} {objs:List (Nat×Ob G)} {nx nx':Nat} {f:Nat→List Nat}
theorem Uh: ∀(n:Nat) (ts:List Ty) (h:Fs G.S ts) (cs:List Value),jL G n ts=true→oV G Z w ts h cs→wH G Z' w ts h cs []:=by
 intro n
 induction n with
 |zero=>intro ts h cs hf;simp[jL]at hf
 |succ n ihn=>
  intro ts h cs hf H;cases ts with
  |nil=>cases H;exact .nil
  |cons t ts=>
   cases H with
   |cons _ _ _ cs cs' hl h1 h2=>
    have plain:fD G Z' w t h.1 cs []→jL G n ts=true→wH G Z' w (t::ts) h (cs++cs') []:=fun a b=>by
     have:=wH.cons t ts h cs cs' [] [] hl a (ihn ts h.2 cs' b h2)
     simpa using this
    cases t with
    |st s=>
     simp only[jL]at hf
     split at hf
     ·rename_i hs;cases h1 with
      |st _ _ _ h1=>exact plain (.st s _ cs [] (ihn _ _ _ hs h1)) hf
     ·cases hf
    |int k=>cases h1 with|int _ x=>exact plain (.int k _) hf
    |bool=>cases h1 with|bool b=>exact plain (.bool _) hf
    |str=>cases h1 with|str s=>exact plain (.str _) hf
    |sl e t=>simp[jL]at hf
    |po t=>simp[jL]at hf
theorem QG {n:Nat} {t:Ty} (hf:jL G n [t]=true) {x:G.D t} {cs:List Value} (h:bP G Z w t x cs) (hl:cs.length=G.aY t):fD G Z' w t x cs []:=by
 have:=Uh (Z:=Z) (Z':=Z') (w:=w) n [t] (x,()) (cs++ []) hf (.cons t [] (x,()) cs [] hl h .nil);generalize hq:([]:List Nat)=q at this;generalize hc:cs++ []=c at this;cases this with
 |cons _ _ _ cs1 cs2 fp fp' hl1 h1 h2=>
  cases h2;rw[List.append_nil,List.append_nil]at hc;rw[List.append_nil]at hq;subst hc hq;exact h1
theorem Dc {n:Nat} {t:Ty} (hf:jL G n [t]=true): ∀{xs:List (G.D t)} {vs:List Value},gX G Z w t xs vs→dR G Z' w t xs vs []
 | [],_,h=>by rw[show _=_ from h];exact .nil t
 |x::xs,_,⟨cs,vs',e,hl,h1,h2⟩=>by
  subst e;have:=dR.cons t x xs cs vs' [] [] hl (QG hf h1 hl) (Dc hf h2)
  simpa using this
theorem QH: ∀(n:Nat) (ts:List Ty) (h:Fs G.S ts) (cs:List Value) (fp:List Nat),jL G n ts=true→wH G Z w ts h cs fp→fp= []:=by
 intro n
 induction n with
 |zero=>intro ts h cs fp hf;simp[jL]at hf
 |succ n ihn=>
  intro ts h cs fp hf H;cases ts with
  |nil=>cases H;rfl
  |cons t ts=>
   cases H with
   |cons _ _ _ cs cs' fp fp' hl h1 h2=>
    have plain:fp= []→jL G n ts=true→fp++fp'= []:=fun a b=>by rw[a,ihn ts h.2 cs' fp' b h2];rfl
    cases t with
    |st s=>
     simp only[jL]at hf
     split at hf
     ·rename_i hs;cases h1 with
      |st _ _ _ _ h1=>exact plain (ihn _ _ _ _ hs h1) hf
     ·cases hf
    |int k=>cases h1;exact plain rfl hf
    |bool=>cases h1;exact plain rfl hf
    |str=>cases h1;exact plain rfl hf
    |sl e t=>simp[jL]at hf
    |po t=>simp[jL]at hf
theorem QI {n:Nat} {t:Ty} (hf:jL G n [t]=true) {x:G.D t} {cs:List Value} {fp:List Nat} (h:fD G Z w t x cs fp) (hl:cs.length=G.aY t):fp= []:=by
 have:=QH (Z:=Z) (w:=w) n [t] (x,()) (cs++ []) (fp++ []) hf (.cons t [] (x,()) cs [] fp [] hl h .nil)
 simpa using this
theorem flat_nil {n:Nat} {t:Ty} (hf:jL G n [t]=true): ∀{xs:List (G.D t)} {vs:List Value} {fp:List Nat},dR G Z w t xs vs fp→ ∀k,k∈fp→False:=by
 intro xs
 induction xs with
 |nil=>intro vs fp h k hk;cases h;cases hk
 |cons x xs ih=>
  intro vs fp h k hk;cases h with
  |cons _ _ _ cs vs fp fp' hl h1 h2=>
   rw[QI hf h1 hl]at hk;exact ih h2 k hk
structure zi (W:Nat→Nat→Prop) (base:Nat) (Z:Nat→Nat→Prop) (pl:Nat→Value) (objs:List (Nat×Ob G)) (w:World) (f:Nat→List Nat) (D:List Nat):Prop where
 nd:D.Nodup
 mem: ∀k,k∈D→(∀o',k∉f o')∧(∀o' b,get objs o'=some b→live b=true→bk (pl o')=some k→False)∧(base≤k∨ ∀j,W k j)∧(∀j,¬Z k j)∧k<w.heap.size
theorem zi.nil:zi W w0.heap.size Z pl objs w f []:=⟨List.nodup_nil,fun k hk=>by cases hk⟩
def gone (f:Nat→List Nat) (o:Nat):Nat→List Nat:=fun n=>if n=o then [] else f n
theorem uz {o n k:Nat} (h:k∈gone f o n):k∈f n∧n≠o:=by
 have h:k∈(if n=o then [] else f n):=h
 split at h
 ·cases h
 ·exact⟨h,‹_›⟩
theorem eH.take (M:Mem W w0 Z pl objs nx w) (T:eH W w0.heap.size Z pl objs nx w f) {D:List Nat} (hD:zi W w0.heap.size Z pl objs w f D) {o:Nat} {e:TypeId} {t:Ty} {xs:List (G.D t)}
  (hg:(get objs o=some (.arr e t xs)∧GR G e t=true)∨get objs o=some (.tr e t xs)):
  ∃fq,(G.md e= .deep∨get objs o=some (.arr e t xs)→fD G Z w (.sl e t) xs [pl o] fq)∧(pl o).oneCell'=true∧eH W w0.heap.size Z pl ((o,.dead)::objs) nx w (gone f o)∧zi W w0.heap.size Z pl ((o,.dead)::objs) w (gone f o) (D++fq)∧
   ∃vs fp,w.ownsRow 0 e (G.aY t) (pl o) xs.length vs∧(get objs o=some (.tr e t xs)→dR G Z w t xs vs fp)∧((bk (pl o)=none∧fp= []∧fq= [])∨ ∃b,bk (pl o)=some b∧fq=b::fp):=by
 obtain⟨b0,hb0,hl0,hown0⟩: ∃b0,get objs o=some b0∧live b0=true∧ ∀k,Own w0.heap.size W b0 k→(w0.heap.size≤k∨ ∀i,W k i):=by
  rcases hg with⟨hg,_⟩|hg
  ·exact⟨_,hg,rfl,fun k h=>h⟩
  ·exact⟨_,hg,rfl,fun k h=>h⟩
 have hrow: ∃vs fp,w.ownsRow 0 e (G.aY t) (pl o) xs.length vs∧((get objs o=some (.tr e t xs)→dR G Z w t xs vs fp)∧(G.md e= .deep→dR G Z w t xs vs fp)∧(get objs o=some (.arr e t xs)→G.md e≠ .deep→G.md e= .one∧fp= []∧gX G Z w t xs vs)∧(xs= []→fp= []))∧(∀k,k∈fp→k∈f o)∧fp.Nodup:=by
  rcases hg with⟨hg,hf⟩|hg
  ·obtain⟨vs,h1,h2⟩:=M.ob o _ hg;refine⟨vs,[],h1,⟨fun h=>(by rw[hg]at h;cases h),fun h=> ?_,fun _ h=>⟨?_,rfl,h2⟩,fun _=>rfl⟩,(fun k hk=>by cases hk),List.nodup_nil⟩
   ·unfold GR at hf;rw[h]at hf;exact Dc hf h2
   ·unfold GR at hf
    split at hf
    ·rename_i h';exact absurd h' h
    ·rename_i h';exact h'
    ·cases hf
  ·obtain⟨vs,h1,h2⟩:=T.rep o _ hg;exact⟨vs,f o,h1,⟨fun _=>h2,fun _=>h2,fun h=>(by rw[hg]at h;cases h),fun h=>(by subst h;generalize f o=q at h2;cases h2;rfl)⟩,(fun k hk=>hk),T.nd o⟩
 obtain⟨vs,fp,h1,⟨h2,h2d,h2o,h2n⟩,h3,h4⟩:=hrow;have hone:(pl o).oneCell'=true:=by rcases h1.2 with⟨e1,_⟩|⟨g,cap,cur,e1,_⟩<;>rw[e1]<;>rfl
 have TK:eH W w0.heap.size Z pl ((o,.dead)::objs) nx w (gone f o):=
  (T.kill o).set o [] (fun b hb=>by rw[cu]at hb;cases hb;trivial) List.nodup_nil (fun k hk=>by cases hk)
 have far: ∀o' b,get ((o,Ob.dead)::objs) o'=some b→live b=true→o≠o'∧get objs o'=some b:=by
  intro o' b hg' hl;have hne:o≠o':=by intro e;subst e;rw[cu]at hg';cases hg';cases hl
  rw[dP _ _ hne]at hg';exact⟨hne,hg'⟩
 have dD: ∀k,k∈D→(∀o',k∉gone f o o')∧(∀o' b,get ((o,Ob.dead)::objs) o'=some b→live b=true→bk (pl o')=some k→False)∧(w0.heap.size≤k∨ ∀j,W k j)∧(∀j,¬Z k j)∧k<w.heap.size:=by
  intro k hk;obtain⟨a1,a2,a3,a4,a5⟩:=hD.mem k hk;exact⟨fun o' h=>a1 o' (uz h).1,fun o' b hg' hl hb=>a2 o' b (far o' b hg' hl).2 hl hb,a3,a4,a5⟩
 have dfp: ∀k,k∈fp→(∀o',k∉gone f o o')∧(∀o' b,get ((o,Ob.dead)::objs) o'=some b→live b=true→bk (pl o')=some k→False)∧(w0.heap.size≤k∨ ∀j,W k j)∧(∀j,¬Z k j)∧k<w.heap.size:=by
  intro k hk;have hk:=h3 k hk;exact⟨fun o' h=>(uz h).2 (T.sep o' o k (uz h).1 hk),fun o' b hg' hl hb=>T.root o k o' b hk (far o' b hg' hl).2 hl hb,T.own o k hk,T.dU o k hk,T.lt o k hk⟩
 cases hbk:bk (pl o) with
 |none=>
  have hx:xs= []:=by
   rcases h1.2 with⟨_,hn⟩|⟨g,cap,cur,e1,_⟩
   ·exact List.eq_nil_of_length_eq_zero hn
   ·rw[e1]at hbk;cases hbk
  subst hx;have hv:pl o= .slice none 0 0:=by
   rcases h1.2 with⟨e1,_⟩|⟨g,cap,cur,e1,_⟩
   ·exact e1
   ·rw[e1]at hbk;cases hbk
  refine⟨[],fun _=>by rw[hv];exact .lN e t,hone,TK,?_,vs,fp,h1,h2,.inl ⟨rfl,?_,rfl⟩⟩
  ·rw[List.append_nil];exact⟨hD.nd,dD⟩
  ·exact h2n rfl
 |some g=>
  have hob:(pl o).ownBlock=some g:=by rw[←qM (b:=g) h1];exact hbk
  have hC:G.md e= .deep∨get objs o=some (.arr e t xs)→fD G Z w (.sl e t) xs [pl o] (g::fp):=by
   intro hc
   by_cases hm:G.md e= .deep
   ·exact .sl e t xs (pl o) vs g fp hm h1 hob (h2d hm)
   ·rcases hc with hc|hc
    ·exact absurd hc hm
    ·obtain⟨hm',e1,e2⟩:=h2o hc hm;rw[e1];exact .on e t xs (pl o) vs g hm' h1 hob e2
  refine⟨g::fp,hC,hone,TK,⟨?_,?_⟩,vs,fp,h1,h2,.inr ⟨g,rfl,rfl⟩⟩
  ·refine List.nodup_append.2 ⟨hD.nd,List.nodup_cons.2 ⟨fun hk=>T.root o g o b0 (h3 g hk) hb0 hl0 hbk,h4⟩,?_⟩
   intro a ha b hb hab;subst hab;obtain⟨a1,a2,_⟩:=hD.mem a ha;rcases List.mem_cons.1 hb with e|hb
   ·subst e;exact a2 o b0 hb0 hl0 hbk
   ·exact a1 o (h3 a hb)
  ·intro k hk;rcases List.mem_append.1 hk with hk|hk
   ·exact dD k hk
   ·rcases List.mem_cons.1 hk with e|hk
    ·subst e;exact⟨fun o' h=>T.root o' k o b0 (uz h).1 hb0 hl0 hbk,fun o' b hg' hl hb=>(far o' b hg' hl).1 (M.sep o o' b0 b k hb0 hl0 (far o' b hg' hl).2 hl hbk hb),hown0 k (M.own o b0 k hb0 hl0 hbk),M.dU o b0 k hb0 hl0 hbk,M.blt hb0 hl0 hbk⟩
    ·exact dfp k hk
theorem Df {e:TypeId} {t:Ty} {v:Value} {xs:List (G.D t)} (hm:G.md e= .deep) (h:bP G Z w (.sl e t) xs [v]) (hx:xs.length=0):fD G Z w (.sl e t) ([]:List (G.D t)) [v] []:=by
 generalize hq: [v]=q at h;cases h with
 |sl _ _ _ A c b o cs hc hA hl hz hr=>
  rw[hx];exact .sl0 e t A c hm
theorem Wx {ob:List (Nat×Ob G)} {tm:List (Nat×DV G)} {l l':bD G} {L':St G} {g:Option Nat} (h:wu ⟨tm,ob,nx⟩ l=some (l',L',g)) (hgd: ∀n,g=some n→n=0)
  (M:Mem W w0 Z pl ob nx w) (T:eH W w0.heap.size Z pl ob nx w f) {D:List Nat} (hD:zi W w0.heap.size Z pl ob w f D) {u:Value} (hu:gB Z w pl nx l u):
  ∃fp f',L'.tmps=tm∧L'.nx=nx∧Tt Z w l' u fp∧Mem W w0 Z pl L'.objs nx w∧eH W w0.heap.size Z pl L'.objs nx w f'∧zi W w0.heap.size Z pl L'.objs w f' (D++fp)∧
   (∀o b,get L'.objs o=some b→live b=true→get ob o=some b)∧(∀o,f' o=f o∨ ∀b,get L'.objs o=some b→live b=false):=by
 have same:l'=l→L'=⟨tm,ob,nx⟩→Tt Z w l u []→ ∃fp f',L'.tmps=tm∧L'.nx=nx∧Tt Z w l' u fp∧Mem W w0 Z pl L'.objs nx w∧eH W w0.heap.size Z pl L'.objs nx w f'∧zi W w0.heap.size Z pl L'.objs w f' (D++fp)∧
   (∀o b,get L'.objs o=some b→live b=true→get ob o=some b)∧(∀o,f' o=f o∨ ∀b,get L'.objs o=some b→live b=false):=by
  intro e1 e2 k;subst e1 e2;exact⟨[],f,rfl,rfl,k,M,T,by rw[List.append_nil];exact hD,fun _ _ h _=>h,fun _=> .inl rfl⟩
 cases l with
 |val t x=>
  have h1:=hu.1;have h1:bP G Z w t x [u]:=h1;cases t with
  |int k=>simp only[wu,Option.some.injEq,Prod.mk.injEq]at h;obtain⟨rfl,rfl,_⟩:=h;refine same rfl rfl ⟨?_,hu.2⟩;cases h1;exact .int k _
  |bool=>simp only[wu,Option.some.injEq,Prod.mk.injEq]at h;obtain⟨rfl,rfl,_⟩:=h;refine same rfl rfl ⟨?_,hu.2⟩;cases h1;exact .bool _
  |str=>simp only[wu,Option.some.injEq,Prod.mk.injEq]at h;obtain⟨rfl,rfl,_⟩:=h;refine same rfl rfl ⟨?_,hu.2⟩;cases h1;exact .str _
  |sl e t=>
   simp only[wu]at h
   split at h
   ·rename_i hm;simp only[Option.some.injEq,Prod.mk.injEq]at h;obtain⟨rfl,rfl,rfl⟩:=h;exact⟨[],f,rfl,rfl,⟨Df hm h1 (hgd _ rfl),hu.2⟩,M,T,by rw[List.append_nil];exact hD,fun _ _ h _=>h,fun _=> .inl rfl⟩
   ·cases h
   ·rename_i hm;simp only[Option.some.injEq,Prod.mk.injEq]at h;obtain⟨rfl,rfl,_⟩:=h;exact same rfl rfl ⟨.ou e t _ _ hm h1,hu.2⟩
  |po t=>simp[wu]at h
  |st s=>simp[wu]at h
 |kb b=>simp only[wu,Option.some.injEq,Prod.mk.injEq]at h;obtain⟨rfl,rfl,_⟩:=h;exact same rfl rfl ⟨hu.1,rfl⟩
 |prop p d=>simp only[wu,Option.some.injEq,Prod.mk.injEq]at h;obtain⟨rfl,rfl,_⟩:=h;exact same rfl rfl ⟨hu.1,rfl⟩
 |lN=>simp only[wu,Option.some.injEq,Prod.mk.injEq]at h;obtain⟨rfl,rfl,_⟩:=h;exact same rfl rfl ⟨hu.1,rfl⟩
 |qU=>
  simp only[wu]at h
  split at h
  ·rename_i hd;simp only[Option.some.injEq,Prod.mk.injEq]at h;obtain⟨rfl,rfl,_⟩:=h;exact same rfl rfl ⟨hu.1,rfl,hd⟩
  ·cases h
 |h_ o=>
  obtain⟨ho,hv⟩:=hu.1;simp only[wu]at h;have fin: ∀(e:TypeId) (t:Ty) (xs:List (G.D t)),((get ob o=some (.arr e t xs)∧GR G e t=true)∨(get ob o=some (.tr e t xs)∧G.md e= .deep))→l'= .val (.sl e t) xs→L'=⟨tm,(o,.dead)::ob,nx⟩→
    ∃fp f',L'.tmps=tm∧L'.nx=nx∧Tt Z w l' u fp∧Mem W w0 Z pl L'.objs nx w∧eH W w0.heap.size Z pl L'.objs nx w f'∧zi W w0.heap.size Z pl L'.objs w f' (D++fp)∧
    (∀o b,get L'.objs o=some b→live b=true→get ob o=some b)∧(∀o,f' o=f o∨ ∀b,get L'.objs o=some b→live b=false):=by
   intro e t xs hg e1 e2;subst e1 e2;obtain⟨fq,q1,q2,q3,q4,_⟩:=T.take M hD (hg.imp id And.left);have q1:=q1 (hg.elim (fun h=> .inr h.1) (fun h=> .inl h.2))
   refine⟨fq,gone f o,rfl,rfl,⟨by rw[hv];exact q1,hu.2⟩,M.kill o ho,q3,q4,fun o' b hg' hl=> ?_,fun o'=> ?_⟩
   ·have hne:o≠o':=by
     intro e;subst e;have hg':get ((o,Ob.dead)::ob) o=some b:=hg';rw[cu]at hg';cases hg';cases hl
    have hg':get ((o,Ob.dead)::ob) o'=some b:=hg'
    rwa [dP _ _ hne]at hg'
   ·by_cases e:o'=o
    ·subst e;refine .inr fun b hb=> ?_
     have hb:get ((o',Ob.dead)::ob) o'=some b:=hb;rw[cu]at hb;cases hb;rfl
    ·exact .inl (by show(if o'=o then [] else f o')=f o';rw[if_neg e])
  split at h
  ·rename_i e t xs hg
   split at h
   ·rename_i hf;simp only[Option.some.injEq,Prod.mk.injEq]at h;obtain⟨rfl,rfl,_⟩:=h;exact fin e t xs (.inl ⟨hg,hf⟩) rfl rfl
   ·cases h
  ·rename_i e t xs hg
   split at h
   ·rename_i hd;simp only[Option.some.injEq,Prod.mk.injEq]at h;obtain⟨rfl,rfl,_⟩:=h;exact fin e t xs (.inr ⟨hg,mY hd e⟩) rfl rfl
   ·cases h
  ·rename_i e t xs hg;have h1:bP G Z w (.sl e t) xs [pl o]:=M.ob o _ hg;rw[←hv]at h1
   split at h
   ·rename_i hm;simp only[Option.some.injEq,Prod.mk.injEq]at h;obtain⟨rfl,rfl,rfl⟩:=h;exact⟨[],f,rfl,rfl,⟨Df hm h1 (hgd _ rfl),hu.2⟩,M,T,by rw[List.append_nil];exact hD,fun _ _ h _=>h,fun _=> .inl rfl⟩
   ·cases h
   ·rename_i hm;simp only[Option.some.injEq,Prod.mk.injEq]at h;obtain⟨rfl,rfl,_⟩:=h;exact⟨[],f,rfl,rfl,⟨.ou e t _ _ hm h1,hu.2⟩,M,T,by rw[List.append_nil];exact hD,fun _ _ h _=>h,fun _=> .inl rfl⟩
  ·cases h
 |kR o=>
  obtain⟨ho,hv⟩:=hu.1;have hv:Be (pl o) u:=hv;simp only[wu]at h;have hd:jB G.own=true:=by
   cases hq:jB G.own with
   |true=>rfl
   |false=>rw[hq]at h;cases h
  rw[hd]at h;simp only at h;have fin: ∀(e:TypeId) (t:Ty) (xs:List (G.D t)),((get ob o=some (.arr e t xs)∧GR G e t=true)∨(get ob o=some (.tr e t xs)∧G.md e= .deep))→l'= .val (.sl e t) xs→L'=⟨tm,(o,.dead)::ob,nx⟩→
    ∃fp f',L'.tmps=tm∧L'.nx=nx∧Tt Z w l' u fp∧Mem W w0 Z pl L'.objs nx w∧eH W w0.heap.size Z pl L'.objs nx w f'∧zi W w0.heap.size Z pl L'.objs w f' (D++fp)∧
    (∀o b,get L'.objs o=some b→live b=true→get ob o=some b)∧(∀o,f' o=f o∨ ∀b,get L'.objs o=some b→live b=false):=by
   intro e t xs hg e1 e2;subst e1 e2;obtain⟨fq,q1,q2,q3,q4,_⟩:=T.take M hD (hg.imp id And.left);have q1:=q1 (hg.elim (fun h=> .inr h.1) (fun h=> .inl h.2))
   refine⟨fq,gone f o,rfl,rfl,⟨q1.weak ⟨hv,fun h=>by rw[hd]at h;cases h⟩,hu.2⟩,M.kill o ho,q3,q4,fun o' b hg' hl=> ?_,fun o'=> ?_⟩
   ·have hne:o≠o':=by
     intro e;subst e;have hg':get ((o,Ob.dead)::ob) o=some b:=hg';rw[cu]at hg';cases hg';cases hl
    have hg':get ((o,Ob.dead)::ob) o'=some b:=hg'
    rwa [dP _ _ hne]at hg'
   ·by_cases e:o'=o
    ·subst e;refine .inr fun b hb=> ?_
     have hb:get ((o',Ob.dead)::ob) o'=some b:=hb;rw[cu]at hb;cases hb;rfl
    ·exact .inl (by show(if o'=o then [] else f o')=f o';rw[if_neg e])
  split at h
  ·rename_i e t xs hg
   split at h
   ·rename_i hf;simp only[Option.some.injEq,Prod.mk.injEq]at h;obtain⟨rfl,rfl,_⟩:=h;exact fin e t xs (.inl ⟨hg,hf⟩) rfl rfl
   ·cases h
  ·rename_i e t xs hg;simp only[Option.some.injEq,Prod.mk.injEq]at h;obtain⟨rfl,rfl,_⟩:=h;exact fin e t xs (.inr ⟨hg,mY hd e⟩) rfl rfl
  ·rename_i e t xs hg;simp only[Option.some.injEq,Prod.mk.injEq]at h;obtain⟨rfl,rfl,rfl⟩:=h;have h1:bP G Z w (.sl e t) xs [pl o]:=M.ob o _ hg;have h1:=h1.weak hv;exact⟨[],f,rfl,rfl,⟨Df (mY hd e) h1 (hgd _ rfl),hu.2⟩,M,T,by rw[List.append_nil];exact hD,fun _ _ h _=>h,fun _=> .inl rfl⟩
  ·cases h
 |_=>simp[wu]at h
theorem wL {g:Option Nat} {l:List Nat} (h: ∀n,n∈GV g l→n=0):(∀n,g=some n→n=0)∧ ∀n,n∈l→n=0:=by
 cases g with
 |none=>exact⟨(fun n h=>by cases h),h⟩
 |some m=>exact⟨(fun n e=>by injection e with e;exact e▸h m List.mem_cons_self),fun n hn=>h n (List.mem_cons_of_mem _ hn)⟩
theorem Dh: ∀(ls:List (bD G)) {ls':List (bD G)} {ob:List (Nat×Ob G)} {tm:List (Nat×DV G)} {L':St G} {gs:List Nat} {f:Nat→List Nat} {D:List Nat},Cc ls ⟨tm,ob,nx⟩=some (ls',L',gs)→(∀n,n∈gs→n=0)→
  Mem W w0 Z pl ob nx w→eH W w0.heap.size Z pl ob nx w f→zi W w0.heap.size Z pl ob w f D→ ∀{us:List Value},dS Z w pl nx ls us→
  ∃fV f',L'.tmps=tm∧L'.nx=nx∧qR Z w ls' us fV∧Mem W w0 Z pl L'.objs nx w∧eH W w0.heap.size Z pl L'.objs nx w f'∧zi W w0.heap.size Z pl L'.objs w f' (D++fV.flatten)∧
   (∀o b,get L'.objs o=some b→live b=true→get ob o=some b)∧(∀o,f' o=f o∨ ∀b,get L'.objs o=some b→live b=false):=by
 intro ls
 induction ls with
 |nil=>
  intro ls' ob tm L' gs f D h _ M T hD us hu;simp only[Cc,Option.some.injEq,Prod.mk.injEq]at h;obtain⟨rfl,rfl,rfl⟩:=h;exact⟨[],f,rfl,rfl,⟨hu,rfl⟩,M,T,by simpa using hD,fun _ _ h _=>h,fun _=> .inl rfl⟩
 |cons l ls ih=>
  intro ls' ob tm L' gs f D h hgs M T hD us hu;simp only[Cc]at h
  split at h
  ·rename_i l' L1 g h1
   split at h
   ·rename_i ls' L2 gs' h2;simp only[Option.some.injEq,Prod.mk.injEq]at h;obtain⟨rfl,rfl,rfl⟩:=h;obtain⟨u,us',rfl,hu1,hu2⟩:=hu;obtain⟨g1,g2⟩:=wL hgs;obtain⟨fp,f1,a1,a2,a3,M1,T1,D1,b1,c1⟩:=Wx h1 g1 M T hD hu1;obtain⟨Wy,xK,Eu⟩:=L1;simp only at a1 a2;subst a1 a2;obtain⟨fV,f2,a4,a5,a6,M2,T2,D2,b2,c2⟩:=ih h2 g2 M1 T1 D1 hu2;refine⟨fp::fV,f2,a4,a5,⟨u,us',fp,fV,rfl,rfl,a3,a6⟩,M2,T2,by rw[List.flatten_cons,←List.append_assoc];exact D2,fun o b hg hl=>b1 o b (b2 o b hg hl) hl,fun o=> ?_⟩
    rcases c2 o with e|e
    ·rcases c1 o with e'|e'
     ·exact .inl (e.trans e')
     ·refine .inr fun b hb=> ?_
      cases hl:live b with
      |false=>rfl
      |true=>
       have:=e' b (b2 o b hb hl);rw[hl]at this;cases this
    ·exact .inr e
   ·cases h
  ·cases h
theorem uA {R:Type} {r:R} {k:Option R}: ∀{gs:List Nat},TJ gs k=some r→(∀n,n∈gs→n=0)∧k=some r
 | [],h=>⟨(fun n hn=>by cases hn),h⟩
 |n::gs,h=>by
  simp only[TJ]at h
  split at h
  ·rename_i e;obtain⟨a,b⟩:=uA h;refine⟨fun m hm=> ?_,b⟩
   rcases List.mem_cons.1 hm with e'|hm
   ·exact e'.trans e
   ·exact a m hm
  ·cases h
theorem Tt.mono {l:bD G} {v:Value} {fp:List Nat} (h:Tt Z w l v fp) (hb:BC Z w fp Z' w'):Tt Z' w' l v fp:=by
 cases l with
 |val t x=>exact⟨fD.mono h.1 hb,h.2⟩
 |kb b=>exact h
 |prop p d=>exact h
 |lN=>exact h
 |qU=>exact h
 |_=>exact absurd h (fun h=>h)
theorem qR.mono: ∀{ls:List (bD G)} {vs:List Value} {fV:List (List Nat)},qR Z w ls vs fV→BC Z w fV.flatten Z' w'→qR Z' w' ls vs fV
 | [],_,_,h,_=>h
 |_::ls,_,_,⟨v,vs',fp,rW,e1,e2,h1,h2⟩,hb=>by
  subst e2;rw[List.flatten_cons]at hb;exact⟨v,vs',fp,rW,e1,rfl,h1.mono (hb.sub fun k hk=>List.mem_append_left _ hk),qR.mono h2 (hb.sub fun k hk=>List.mem_append_right _ hk)⟩
theorem qR.take: ∀{ls:List (bD G)} {vs:List Value} {fV:List (List Nat)} (n:Nat),qR Z w ls vs fV→qR Z w (ls.take n) (vs.take n) (fV.take n)
 |_,_,_,0,_=>by rw[List.take_zero,List.take_zero,List.take_zero];exact⟨rfl,rfl⟩
 | [],_,_,n+1,⟨h1,h2⟩=>by rw[h1,h2];exact⟨rfl,rfl⟩
 |_::ls,_,_,n+1,⟨v,vs',fp,rW,e1,e2,h1,h2⟩=>by rw[e1,e2];exact⟨v,_,fp,_,rfl,rfl,h1,qR.take n h2⟩
theorem qR.drop: ∀{ls:List (bD G)} {vs:List Value} {fV:List (List Nat)} (n:Nat),qR Z w ls vs fV→qR Z w (ls.drop n) (vs.drop n) (fV.drop n)
 |_,_,_,0,h=>h
 | [],_,_,n+1,⟨h1,h2⟩=>by rw[h1,h2];exact⟨rfl,rfl⟩
 |_::ls,_,_,n+1,⟨v,vs',fp,rW,e1,e2,h1,h2⟩=>by rw[e1,e2];exact qR.drop n h2
theorem pW {α:Type}: ∀(l:List α) (n:Nat) (ys:List α),n+ys.length≤l.length→RX.setAt l n ys=l.take n++(ys++l.drop (n+ys.length)):=by
 intro l n ys h;have e:l=l.take n++l.drop n:=(List.take_append_drop n l).symm;have hl:(l.take n).length=n:=by rw[List.length_take];omega
 have e2:l.drop n=(l.drop n).take ys.length++l.drop (n+ys.length):=by
  rw[←List.drop_drop];exact(List.take_append_drop _ _).symm
 have h3:RX.setAt (l.take n++l.drop n) ((l.take n).length+0) ys=l.take n++RX.setAt (l.drop n) 0 ys:=lD _ _ _ _;rw[hl,Nat.add_zero,←e]at h3;rw[h3,e2,iF _ _ _ (by rw[List.length_take,List.length_drop];omega)]
theorem qR.setAt {ls Hf:List (bD G)} {vs us:List Value} {fV zh:List (List Nat)} (h:qR Z w ls vs fV) (k:qR Z w Hf us zh) (off:Nat) (hle:off+Hf.length≤ls.length):
  qR Z w (RX.setAt ls off Hf) (RX.setAt vs off us) (fV.take off++(zh++fV.drop (off+Hf.length))):=by
 have hl:=h.length;have kl:=k.length;rw[pW ls off Hf hle,pW vs off us (by omega),kl.1]
 exact(h.take off).append (k.append (h.drop _))
theorem dR.at {t:Ty}: ∀{xs:List (G.D t)} {vs:List Value} {fp:List Nat} (n:Nat),dR G Z w t xs vs fp→(hn:n<xs.length)→ ∃A fn B,fp=A++(fn++B)∧fD G Z w t xs[n] ((vs.drop (n*G.aY t)).take (G.aY t)) fn∧vs.length=xs.length*G.aY t∧
  ∀Z' w',BC Z w (A++B) Z' w'→ ∀y cs fq,fD G Z' w' t y cs fq→cs.length=G.aY t→dR G Z' w' t (xs.set n y) (RX.setAt vs (n*G.aY t) cs) (A++(fq++B)):=by
 intro xs
 induction xs with
 |nil=>intro vs fp n _ hn;simp at hn
 |cons x xs ih=>
  intro vs fp n h hn;cases h with
  |cons _ _ _ cs0 vs fp0 fp' hl h1 h2=>
   have len: ∀{xs:List (G.D t)} {vs:List Value} {fp:List Nat},dR G Z w t xs vs fp→vs.length=xs.length*G.aY t:=fun h=>h.rows.length
   have hlen:=len h2;cases n with
   |zero=>
    refine⟨[],fp0,fp',rfl,?_,?_,fun Z' w' hw y cs fq hy hc=> ?_⟩
    ·rw[Nat.zero_mul,List.drop_zero,←hl,List.take_left];exact h1
    ·rw[List.length_append,hl,hlen,List.length_cons,Nat.add_mul,Nat.one_mul,Nat.add_comm]
    ·rw[Nat.zero_mul,iF _ _ _ (by rw[hc,hl])]
     exact .cons t y xs cs vs fq fp' hc hy (h2.mono hw)
   |succ n=>
    obtain⟨A,fn,B,e,k1,_,k2⟩:=ih n h2 (by simpa using hn)
    have ed:(cs0++vs).drop ((n+1)*G.aY t)=vs.drop (n*G.aY t):=by
     rw[Nat.add_mul,Nat.one_mul,←hl,Nat.add_comm (n*cs0.length),←List.drop_drop,List.drop_left]
    refine⟨fp0++A,fn,B,by rw[e,List.append_assoc],by rw[ed];exact k1,by rw[List.length_append,hl,hlen,List.length_cons,Nat.add_mul,Nat.one_mul,Nat.add_comm],fun Z' w' hw y cs fq hy hc=> ?_⟩
    have e2:(n+1)*G.aY t=cs0.length+n*G.aY t:=by rw[hl,Nat.add_mul,Nat.one_mul,Nat.add_comm]
    rw[e2,lD,List.append_assoc];exact .cons t x (xs.set n y) cs0 _ fp0 _ hl (h1.mono (hw.sub fun k hk=>List.mem_append_left _ (List.mem_append_left _ hk))) (k2 Z' w' (hw.sub fun k hk=>by
     rcases List.mem_append.1 hk with hk|hk
     ·exact List.mem_append_left _ (List.mem_append_right _ hk)
     ·exact List.mem_append_right _ hk) y cs fq hy hc)
theorem dR.part (hs:fH G) {t:Ty} {xs:List (G.D t)} {vs:List Value} {fp:List Nat} {n off m:Nat} {ls:List (bD G)} (h:dR G Z w t xs vs fp) (hn:n<xs.length) {d:G.D t} (he:ni (⟨t,xs.getD n d⟩:TV G)=some (.agg ls)) (hm:off+m≤ls.length):
  ls.length=G.aY t∧ ∃A B fV,fp=A++(fV.flatten++B)∧qR Z w ((ls.drop off).take m) ((vs.drop (n*G.aY t+off)).take m) fV∧
   ∀Z' w',BC Z w (A++B) Z' w'→ ∀(Hf:List (bD G)) (us:List Value) (zh:List (List Nat)) (L L':St G) (y:TV G),qR Z' w' Hf us zh→Hf.length=m→fG t (.agg (RX.setAt ls off Hf)) L=some (y,L')→ ∀y',fZ t y=some y'→
    L'=L∧dR G Z' w' t (xs.set n y') (RX.setAt vs (n*G.aY t+off) us) (A++(zh.flatten++B)):=by
 obtain⟨A,fn,B,e,k1,hlen,k2⟩:=h.at n hn;have hx:xs.getD n d=xs[n]:=by rw[List.getD_eq_getElem?_getD,List.getElem?_eq_getElem hn];rfl
 rw[hx]at he;obtain⟨fV,e2,k3⟩:=C_ he k1;have hl1:ls.length=G.aY t:=by
  have:=k3.length.1;rw[fD.length hs k1]at this;exact this.symm
 have hseg:(n+1)*G.aY t≤vs.length:=by rw[hlen];exact Nat.mul_le_mul_right _ hn
 rw[Nat.add_mul,Nat.one_mul]at hseg;have k3l:=k3.length;have hfl:fn=(fV.take off).flatten++(((fV.drop off).take m).flatten++(fV.drop (off+m)).flatten):=by
  rw[←List.flatten_append,←List.flatten_append,←List.drop_drop,List.take_append_drop,List.take_append_drop,e2]
 refine⟨hl1,A++(fV.take off).flatten,(fV.drop (off+m)).flatten++B,(fV.drop off).take m,by rw[e,hfl];simp[List.append_assoc],?_,?_⟩
 ·have:=(k3.drop off).take m;rw[List.drop_take,List.take_take,List.drop_drop]at this;rw[show min m (G.aY t-off)=m by omega]at this
  exact this
 ·intro Z' w' hw Hf us zh L L' y hL2 hlm hsv y' hy';have hmem:BC Z w (A++B) Z' w':=hw.sub fun k hk=>(by
   rcases List.mem_append.1 hk with hk|hk
   ·exact List.mem_append_left _ (List.mem_append_left _ hk)
   ·exact List.mem_append_right _ (List.mem_append_right _ hk))
  have hp1:qR Z' w' (ls.take off) (((vs.drop (n*G.aY t)).take (G.aY t)).take off) (fV.take off):=(k3.take off).mono (hw.sub fun k hk=>List.mem_append_left _ (List.mem_append_right _ hk))
  have hp2:qR Z' w' (ls.drop (off+m)) (((vs.drop (n*G.aY t)).take (G.aY t)).drop (off+m)) (fV.drop (off+m)):=(k3.drop (off+m)).mono (hw.sub fun k hk=>List.mem_append_right _ (List.mem_append_left _ hk))
  have hul:=hL2.length.1;have hset:qR Z' w' (RX.setAt ls off Hf) (RX.setAt ((vs.drop (n*G.aY t)).take (G.aY t)) off us) (fV.take off++(zh++fV.drop (off+m))):=by
   rw[pW ls off Hf (by omega),pW _ off us (by rw[List.length_take,List.length_drop];omega),hul,hlm]
   exact hp1.append (hL2.append hp2)
  obtain⟨e1,e3,hC⟩:=uy hs hsv hset;have:=fQ hy';subst this;refine⟨e1,?_⟩;have:=k2 Z' w' hmem y' _ _ hC (fD.length hs hC);rw[C9 vs us (n*G.aY t) (G.aY t) off (by omega) (by omega)]at this
  simpa [List.flatten_append,List.append_assoc]using this
end
section
open Go Go.RowKit
variable {G:jf} {R:Type} {P:Program} {W:fA} {w0 w w':World} {Z Z':Nat→Nat→Prop} {pl dI:Nat→Value} {N:Nat} {objs:List (Nat×Ob G)} {nx:Nat} {f:Nat→List Nat}
variable {E:Env G R} {o:Oper} {L:St G} {K:St G→Option R} {r:R} {a:Act} {next:Act→World→Prop} {Q:Exit→Act→World→Prop}
theorem YK (G:jf) (t:Ty):y7 G t=tK G t:=by cases t<;>rfl
theorem qY (L:St G) (o:Nat):(jR L o).tmps=L.tmps∧(jR L o).nx=L.nx:=by
 cases L with
 |mk tm ob nx=>
  simp only[jR]
  split
  ·split
   ·split<;>exact⟨rfl,rfl⟩
   ·split<;>exact⟨rfl,rfl⟩
   ·exact⟨rfl,rfl⟩
  ·exact⟨rfl,rfl⟩
theorem Fh {α:Type} (l:List α) (n:Nat) (y:α):RX.setAt l n [y]=l.set n y:=by
 induction l generalizing n with
 |nil=>cases n<;>rfl
 |cons a l ih=>cases n with
  |zero=>cases l<;>rfl
  |succ n=>simp only[RX.setAt,List.set_cons_succ,ih]
theorem Fj (M:Mem W w0 Z pl L.objs L.nx w) (o:Nat):Mem W w0 Z pl (jR L o).objs L.nx w:=by
 cases L with
 |mk tm ob nx=>
  have M:Mem W w0 Z pl ob nx w:=M;have fin: ∀(e:TypeId) (t:Ty) (xs:List (G.D t)) (i off o2:Nat) (e':TypeId) (t':Ty) (ys:List (G.D t')) (y:G.D t),get ob o=some (.fo e t xs i off o2)→
    ((get ob o2=some (.arr e' t' ys)∧GR G e' t'=true)∨(get ob o2=some (.tr e' t' ys)∧jB G.own=true))→Jh t (xs.getD i (y7 G t)) off ⟨.sl e' t',ys⟩=some y→Mem W w0 Z pl ((o,.tr e t (xs.set i y))::(o2,.dead)::ob) nx w:=by
   intro e t xs i off o2 e' t' ys y hg hg2 hy;obtain⟨f,T⟩:=M.tr;have hne:o2≠o:=by intro ee;subst ee;rcases hg2 with⟨h,_⟩|⟨h,_⟩<;>(rw[hg]at h;cases h)
   obtain⟨vs,k1,k2,k3,k4,⟨vc,k5,kw⟩,A,B,k6,k7⟩:=T.rep o _ hg;obtain⟨fq,q1,q2,q3,q4,_⟩:=T.take M zi.nil (hg2.imp id And.left);have q1:=q1 (hg2.elim (fun h=> .inr h.1) (fun h=> .inl (mY h.2 e')))
   have hrow:=k7 Z w (BC.refl _ _ _) (.sl e' t') ys vc fq y (q1.weak kw) hy;have hvs:vs.set (i*G.aY t+off) vc=vs:=by
    obtain⟨hl,hv⟩:=List.getElem?_eq_some_iff.1 k5;rw[←hv];exact List.set_getElem_self hl
   rw[hvs]at hrow;have MK:=M.kill o2 k4;have hgo:get ((o2,Ob.dead)::ob) o=some (.fo e t xs i off o2):=by rw[dP _ _ hne];exact hg
   have hfo:gone f o2 o=A++B:=by rw[←k6];show(if o=o2 then [] else f o)=f o;rw[if_neg (Ne.symm hne)]
   have WA:(A++B).Nodup:=by rw[←k6];exact T.nd o
   have hD:=q4.mem;rw[List.nil_append]at hD;have nq:fq.Nodup:=by have:=q4.nd;rwa [List.nil_append]at this
   have hnd:(A++fq++B).Nodup:=by
    rw[List.append_assoc];rw[List.nodup_append]at WA⊢;refine⟨WA.1,List.nodup_append.2 ⟨nq,WA.2.1,fun x hx b hb e=> ?_⟩,fun x hx b hb e=> ?_⟩
    ·subst e;exact(hD x hx).1 o (by rw[hfo];exact List.mem_append_right _ hb)
    ·subst e;rcases List.mem_append.1 hb with hb|hb
     ·exact(hD x hb).1 o (by rw[hfo];exact List.mem_append_left _ hx)
     ·exact WA.2.2 x hx x hb rfl
   have T3:=(q3.kill o).set o (A++fq++B) (fun b hb=>by rw[cu]at hb;cases hb;trivial) hnd (fun k hk=>by
    rw[List.append_assoc]at hk;have live': ∀o' b,get ((o,Ob.dead)::(o2,Ob.dead)::ob) o'=some b→live b=true→get ((o2,Ob.dead)::ob) o'=some b:=by
     intro o' b hgb hl;have hne':o≠o':=by intro ee;subst ee;rw[cu]at hgb;cases hgb;cases hl
     rwa [dP _ _ hne']at hgb
    rcases List.mem_append.1 hk with hk|hk
    ·exact .inl (by rw[hfo];exact List.mem_append_left _ hk)
    rcases List.mem_append.1 hk with hk|hk
    ·obtain⟨a1,a2,a3⟩:=hD k hk;exact .inr ⟨a1,fun o' b hgb hl hb=>a2 o' b (live' o' b hgb hl) hl hb,a3⟩
    ·exact .inl (by rw[hfo];exact List.mem_append_right _ hk))
   have hroot: ∀k,bk (pl o)=some k→ ∀o',k∉(fun n=>if n=o then A++fq++B else gone f o2 n) o':=by
    intro k hk o' hm;have hm:k∈(if o'=o then A++fq++B else gone f o2 o'):=hm
    split at hm
    ·rw[List.append_assoc]at hm;rcases List.mem_append.1 hm with hm|hm
     ·exact T.root o k o _ (by rw[k6];exact List.mem_append_left _ hm) hg rfl hk
     rcases List.mem_append.1 hm with hm|hm
     ·exact(hD k hm).2.1 o _ hgo rfl hk
     ·exact T.root o k o _ (by rw[k6];exact List.mem_append_right _ hm) hg rfl hk
    ·exact T.root o' k o _ (uz hm).1 hg rfl hk
   have T4:=T3.put o (.tr e t (xs.set i y)) (by
    show∃vs,_∧dR G Z w t (xs.set i y) vs (if o=o then A++fq++B else _);rw[if_pos rfl];exact⟨vs,by rw[List.length_set];exact k1,hrow⟩) (fun _ k hk=>hroot k hk)
   refine MK.add o (.tr e t (xs.set i y)) (M.lt o _ hg) ⟨vs,by rw[List.length_set];exact k1⟩ (fun _ k hk=> ?_) ⟨_,T4.congr fun n=>by simp only[bn];split<;>rfl⟩
   exact⟨MK.own o (.fo e t xs i off o2) k hgo rfl hk,MK.dU o _ k hgo rfl hk,fun o' b' ho' hg' hl' hk'=>ho' (MK.sep o' o b' _ k hg' hl' hgo rfl hk' hk)⟩
  show Mem W w0 Z pl (jR ⟨tm,ob,nx⟩ o).objs nx w;simp only[jR]
  split
  ·rename_i e t xs i off o2 hg
   split
   ·rename_i e' t' ys hg2
    split
    ·rename_i y hf hy;exact fin e t xs i off o2 e' t' ys y hg (.inl ⟨hg2,hf⟩) hy
    ·exact M
   ·rename_i e' t' ys hg2
    split
    ·rename_i y hd hy;exact fin e t xs i off o2 e' t' ys y hg (.inr ⟨hg2,hd⟩) hy
    ·exact M
   ·exact M
  ·exact M
theorem Sat.YL (S:Sat N W w0 Z pl L a w) (o:Nat):Sat N W w0 Z pl (jR L o) a w:=by
 obtain⟨h1,h2⟩:=qY L o;refine S.at (L':=jR L o) (by rw[h2];exact Ext.refl _ _ _ _) (by rw[h2];exact Fj S.mem o) h1
theorem Fp: ∀(l:List (Nat×Ob G)) (L:St G),(uh l L).tmps=L.tmps∧(uh l L).nx=L.nx
 | [],_=>⟨rfl,rfl⟩
 |(o,_)::r,L=>by
  obtain⟨a,b⟩:=Fp r (jR L o);obtain⟨c,d⟩:=qY L o;exact⟨a.trans c,b.trans d⟩
theorem JH (L:St G):(closeAll L).tmps=L.tmps∧(closeAll L).nx=L.nx:=by
 cases L with
 |mk tm ob nx=>
  simp only[closeAll]
  split
  ·exact Fp _ _
  ·exact⟨rfl,rfl⟩
theorem Sat.uh: ∀(l:List (Nat×Ob G)) {L:St G},Sat N W w0 Z pl L a w→Sat N W w0 Z pl (RX.uh l L) a w
 | [],_,S=>S
 |(o,_)::r,_,S=>Sat.uh r (S.YL o)
theorem Sat.closeAll (S:Sat N W w0 Z pl L a w):Sat N W w0 Z pl (RX.closeAll L) a w:=by
 cases L with
 |mk tm ob nx=>
  simp only[RX.closeAll]
  split
  ·exact Sat.uh _ S
  ·exact S
theorem Sat.close (S:Sat N W w0 Z pl L a w) (o:Nat):Sat N W w0 Z pl (jR L o) a w:=by
 obtain⟨h1,h2⟩:=qY L o;refine S.at (L':=jR L o) (by rw[h2];exact Ext.refl _ _ _ _) (by rw[h2];exact Fj S.mem o) h1
theorem Fq (hs:fH G) {ti:TI} {T:TypeId} (tk:n_ P G T ti) {x v:Operand} {s:SV G} (hsv:dB L v=some s) (hn:s.ls.length=ti.leaves.length) {i n z off:Nat} {e:TypeId} {t:Ty} {xs:List (G.D t)}
  (h:storeT E o s L i n z off e t xs K=some r) (S:Sat E.N W w0 Z pl L a w) (hg:get L.objs i=some (.tr e t xs)) (hx:gB Z w pl L.nx (.jG i n z off:bD G) (a.eval x))
  (exe: ∀w1,(Instr.storeAt T (a.eval x) (a.eval v)).run P w= .ok () w1→(execOp a.eval o).run P w= .ok .skip w1) (hK:Then E W w0 K r next):o.wp P a w next Q:=by
 have hv:=(aK S hsv).cells;unfold storeT at h
 split at h
 ·rename_i els ls' L1 gs hz Ho habs;have hz:=Nat.eq_of_beq_eq_true hz;subst hz
  split at h
  ·rename_i hle;rw[len_eq,len_eq]at hle;have hle:=jV.1 hle
   split at h
   ·rename_i y L2 YM
    split at h
    ·rename_i y' tm ob nx hy
     split at h
     ·rename_i e2 t2 x2 hg2;obtain⟨hgs,h⟩:=uA h;cases L with
      |mk tm0 Hq nx0=>
      have M0:Mem W w0 Z pl Hq nx0 w:=S.mem;have hg:get Hq i=some (.tr e t xs):=hg;obtain⟨f,T0⟩:=M0.tr;obtain⟨fV,f1,l1,l2,lv,M1,T1,D1,b1,c1⟩:=Dh s.ls habs hgs M0 T0 zi.nil hv;have l1:tm=tm0:=l1;have l2:nx=nx0:=l2;subst l1 l2;have M1:Mem W w0 Z pl ob nx w:=M1;have T1:eH W w0.heap.size Z pl ob nx w f1:=T1;rw[List.nil_append]at D1;have D1:zi W w0.heap.size Z pl ob w f1 fV.flatten:=D1;have hg1:get ob i=some (.tr e t xs):=by
       have:=b1 i _ hg2 rfl;rw[hg]at this;rw[this];exact hg2
      have S1:Sat E.N W w0 Z pl ⟨tm,ob,nx⟩ a w:=S.at (L':=⟨tm,ob,nx⟩) (Ext.refl _ _ _ _) M1 rfl;obtain⟨vs,o1,o2⟩:=T1.rep i _ hg1;obtain⟨⟨_,b,n',c,hb,hnn,hav⟩,_⟩:=hx;rcases o1.2 with⟨e1,_⟩|⟨g,cap,cur,e1,e0,e3,e4,e5,e6,e7⟩
      ·rw[hb]at e1;cases e1
      rw[hb]at e1;injection e1 with e1 e1' MZ
      injection e1 with e1
      injection e1 with e1
      subst e1 e1' MZ;have hll:=lv.length.1;have abI:ls'.length=s.ls.length:=by have:=hv.length;omega
      obtain⟨hel,A,B,fpo,k6,k7,k8⟩:=o2.part hs (m:=ls'.length) hnn Ho hle;have JI:vs.length=xs.length*G.aY t:=o1.1;have zk:cur.toList.toArray=cur:=by simp
      have hmul:(n+1)*G.aY t≤xs.length*G.aY t:=Nat.mul_le_mul_right _ hnn;rw[Nat.add_mul,Nat.one_mul]at hmul;have hcs:cur.toList.length=c*G.aY t:=by rw[←e6];exact Array.length_toList
      have hsz:xs.length*G.aY t≤cur.toList.length:=by rw[hcs];exact Nat.mul_le_mul_right _ e4
      have hvl:=hv.length;have hoff:off+(a.eval v).cells.toList.length≤G.aY t:=by rw[hvl,←abI,←hel];exact hle
      have hrun:=nD ti tk (off:=n*G.aY t+off) (cs:=cur.toList) (by rw[zk];exact e3) (u:=a.eval v) hv.one (by rw[hvl,hn]) (by rw[←hn,←hvl];omega)
      have hbi:bk (pl i)=some b:=by rw[hb];rfl
      have Ui: ∀k,k∈fV.flatten→k≠b:=fun k hk ee=>(D1.mem k hk).2.1 i _ hg1 rfl (by rw[ee];exact hbi)
      have nU: ∀o' k,k∈f1 o'→k≠b:=fun o' k hk ee=>T1.root o' k i _ hk hg1 rfl (by rw[ee];exact hbi)
      have hAB: ∀k,k∈A++B→k∈f1 i:=fun k hk=>by
       rw[k6];rcases List.mem_append.1 hk with hk|hk
       ·exact List.mem_append_left _ hk
       ·exact List.mem_append_right _ (List.mem_append_right _ hk)
      let w':=w.setRow b (RX.setAt cur.toList (n*G.aY t+off) (a.eval v).cells.toList).toArray
      have hother: ∀k,k≠b→w'.heap[k]? =w.heap[k]? :=fun k hk=>setRow_other w b k _ hk
      have hfr:Fr W w0.heap.size w w':=CY S1 hg1 rfl hbi (by rw[zk];exact e3) (bW _ _ _) (fun ro ls he=>by cases he)
      have hrow: ∃vs',w'.ownsRow 0 e (G.aY t) (pl i) (xs.set n y').length vs'∧vs'=RX.setAt vs (n*G.aY t+off) (a.eval v).cells.toList:=by
       refine⟨_,?_,rfl⟩;rw[hb];refine⟨by rw[bW,List.length_set,JI],.inr ⟨b,c,(RX.setAt cur.toList (n*G.aY t+off) (a.eval v).cells.toList).toArray,by rw[List.length_set],Nat.zero_le _,setRow_heap w b _ _ _ _ e3,by rw[List.length_set];exact e4,e5,?_,?_⟩⟩
       ·rw[List.size_toArray,bW,hcs]
       ·show(RX.setAt cur.toList (n*G.aY t+off) (a.eval v).cells.toList).take _=_;rw[List.length_set,rV _ _ _ _ (by omega) hsz,e7]
      obtain⟨vs',hrow,rfl⟩:=hrow;have hzb: ∀k j,Z k j→k≠b:=fun k j hz ee=>by subst ee;exact M1.dU i _ k hg1 rfl hbi j hz
      have hzw: ∀k j,Z k j→w'.cell? ⟨k,j,none⟩=w.cell? ⟨k,j,none⟩:=fun k j hz=>jC (hother k (hzb k j hz)) j
      obtain⟨_,hown⟩:=k8 Z w' ⟨fun k hk=>hother k (nU i k (hAB k hk)),fun _ _ h=>h,hzw⟩ ls' _ fV _ _ _ (lv.mono ⟨fun k hk=>hother k (Ui k hk),fun _ _ h=>h,hzw⟩) rfl YM y' hy
      have JJ:(A++(fpo.flatten++B)).Nodup:=by rw[←k6];exact T1.nd i
      have hnd:(A++(fV.flatten++B)).Nodup:=by
       rw[List.nodup_append]at JJ⊢;obtain⟨n1,n2,n3⟩:=JJ;rw[List.nodup_append]at n2;refine⟨n1,List.nodup_append.2 ⟨D1.nd,n2.2.1,fun x hx b' hb' ee=> ?_⟩,fun x hx b' hb' ee=> ?_⟩
       ·subst ee;exact(D1.mem x hx).1 i (hAB x (List.mem_append_right _ hb'))
       ·subst ee;rcases List.mem_append.1 hb' with hb'|hb'
        ·exact(D1.mem x hb').1 i (hAB x (List.mem_append_left _ hx))
        ·exact n3 x hx x (List.mem_append_right _ hb') rfl
      have S2:=S1.CZ (w':=w') (ob':= .tr e t (xs.set n y')) T1 hg1 rfl hbi hother hfr (fun base hh=>hh) (fun X=>⟨_,hrow⟩)
       (fun T' hnb=>by
        have T3:=T'.set i (A++(fV.flatten++B)) (fun b hb=>by rw[cu]at hb;cases hb;trivial) hnd (fun k hk=>by
         have live': ∀o' b,get ((i,Ob.dead)::ob) o'=some b→live b=true→get ob o'=some b:=by
          intro o' b hgb hl;have hne':i≠o':=by intro ee;subst ee;rw[cu]at hgb;cases hgb;cases hl
          rwa [dP _ _ hne']at hgb
         rcases List.mem_append.1 hk with hk|hk
         ·exact .inl (hAB k (List.mem_append_left _ hk))
         rcases List.mem_append.1 hk with hk|hk
         ·obtain⟨a1,a2,a3,a4,a5⟩:=D1.mem k hk;exact .inr ⟨a1,fun o' b hgb hl hb=>a2 o' b (live' o' b hgb hl) hl hb,a3,a4,Nat.lt_of_lt_of_le a5 hfr.size⟩
         ·exact .inl (hAB k (List.mem_append_right _ hk)))
        refine⟨_,T3.put i (.tr e t (xs.set n y')) ?_ (fun _ k hk o' hm=> ?_)⟩
        ·show∃vs,_∧dR G Z w' t (xs.set n y') vs (if i=i then A++(fV.flatten++B) else _);rw[if_pos rfl];exact⟨_,hrow,hown⟩
        ·rw[hbi]at hk;injection hk with hk
         subst hk;have hm:b∈(if o'=i then A++(fV.flatten++B) else f1 o'):=hm
         split at hm
         ·rcases List.mem_append.1 hm with hm|hm
          ·exact nU i b (hAB b (List.mem_append_left _ hm)) rfl
          rcases List.mem_append.1 hm with hm|hm
          ·exact Ui b hm rfl
          ·exact nU i b (hAB b (List.mem_append_right _ hm)) rfl
         ·exact nU o' b hm rfl)
      refine o7 (exe _ ?_) (out_ok h S2 (show eU _ _ _ _ DV.und undef from rfl) hK)
      rw[hav];exact hrun
     ·cases h
    ·cases h
   ·cases h
  ·cases h
 ·cases h
theorem QJ {ti:TI} {T:TypeId} (tk:n_ P G T ti) {x v:Operand} {s:SV G} (hsv:dB L v=some s) (hn:s.ls.length=ti.leaves.length) {i n z off i0 Bc o2:Nat} {e:TypeId} {t:Ty} {xs:List (G.D t)}
  (h:wB E o s L i n z off e t xs i0 Bc K=some r) (S:Sat E.N W w0 Z pl L a w) (hg:get L.objs i=some (.fo e t xs i0 Bc o2)) (hx:gB Z w pl L.nx (.jG i n z off:bD G) (a.eval x))
  (exe: ∀w1,(Instr.storeAt T (a.eval x) (a.eval v)).run P w= .ok () w1→(execOp a.eval o).run P w= .ok .skip w1) (hK:Then E W w0 K r next):o.wp P a w next Q:=by
 have hv:=aK S hsv;unfold wB at h
 split at h
 ·rename_i o3 hz MF;have hz:=Nat.eq_of_beq_eq_true hz;have MF:=Nat.eq_of_beq_eq_true MF;subst hz MF;cases L with
  |mk tm ob nx=>
  simp only at h
  split at h
  ·rename_i e3 t3 x3 ge gt gx gi go g2 hg3 hg2
   split at h
   ·rename_i hni;subst hni;have hg:get ob i=some (.fo e t xs n off o2):=hg;have M0:Mem W w0 Z pl ob nx w:=S.mem;obtain⟨f,T0⟩:=M0.tr;have hv:gB Z w pl nx (.h_ o3:bD G) (a.eval v):=hv;obtain⟨ho3,hev⟩:=hv.1;obtain⟨vs,o1,k2,k3,k4,_,hole⟩:=T0.rep i _ hg;obtain⟨⟨_,b,n',c,hb,hnn,hav⟩,_⟩:=hx;rcases o1.2 with⟨e1,_⟩|⟨g,cap,cur,e1,e0,e3,e4,e5,e6,e7⟩
    ·rw[hb]at e1;cases e1
    rw[hb]at e1;injection e1 with e1 e1' MZ
    injection e1 with e1
    injection e1 with e1
    subst e1 e1' MZ;have JI:vs.length=xs.length*G.aY t:=o1.1;have zk:cur.toList.toArray=cur:=by simp
    have hmul:(n+1)*G.aY t≤xs.length*G.aY t:=Nat.mul_le_mul_right _ hnn;rw[Nat.add_mul,Nat.one_mul]at hmul;have hcs:cur.toList.length=c*G.aY t:=by rw[←e6];exact Array.length_toList
    have hsz:xs.length*G.aY t≤cur.toList.length:=by rw[hcs];exact Nat.mul_le_mul_right _ e4
    have hce:(a.eval v).cells.toList= [a.eval v]:=cells_one hv.2;have hvl:(a.eval v).cells.toList.length=1:=by rw[hce];rfl
    have hn1:ti.leaves.length=1:=by rw[←hn];rfl
    have hone: ∀u∈(a.eval v).cells.toList,u.oneCell'=true:=by
     rw[hce];intro u' hu';rw[List.mem_singleton.1 hu'];exact hv.2
    have hrun:=nD ti tk (off:=n*G.aY t+off) (cs:=cur.toList) (by rw[zk];exact e3) (u:=a.eval v) hone (by rw[hvl,hn1]) (by rw[hn1];omega)
    have hbi:bk (pl i)=some b:=by rw[hb];rfl
    have nU: ∀o' k,k∈f o'→k≠b:=fun o' k hk ee=>T0.root o' k i _ hk hg rfl (by rw[ee];exact hbi)
    let w':=w.setRow b (RX.setAt cur.toList (n*G.aY t+off) (a.eval v).cells.toList).toArray
    have hother: ∀k,k≠b→w'.heap[k]? =w.heap[k]? :=fun k hk=>setRow_other w b k _ hk
    have hfr:Fr W w0.heap.size w w':=CY S hg rfl hbi (by rw[zk];exact e3) (bW _ _ _) (fun ro ls he=>by cases he)
    have hrow:w'.ownsRow 0 e (G.aY t) (pl i) xs.length (vs.set (n*G.aY t+off) (a.eval v)):=by
     rw[hb];refine⟨by rw[List.length_set,JI],.inr ⟨b,c,(RX.setAt cur.toList (n*G.aY t+off) (a.eval v).cells.toList).toArray,rfl,Nat.zero_le _,setRow_heap w b _ _ _ _ e3,e4,e5,?_,?_⟩⟩
     ·rw[List.size_toArray,bW,hcs]
     ·show(RX.setAt cur.toList (n*G.aY t+off) (a.eval v).cells.toList).take _=_;rw[rV _ _ _ _ (by omega) hsz,e7,hce,Fh]
    have hzb: ∀k j,Z k j→k≠b:=fun k j hz ee=>by subst ee;exact M0.dU i _ k hg rfl hbi j hz
    have hzw: ∀k j,Z k j→w'.cell? ⟨k,j,none⟩=w.cell? ⟨k,j,none⟩:=fun k j hz=>jC (hother k (hzb k j hz)) j
    have WB:BC Z w (f i) Z w':=⟨fun k hk=>hother k (nU i k hk),fun _ _ h=>h,hzw⟩
    have Z8:uw G Z w' t xs (vs.set (n*G.aY t+off) (a.eval v)) n off (f i):=by
     obtain⟨A,B,k6,k7⟩:=hole.mono WB;refine⟨A,B,k6,fun Z2 w2 h2 t' x' v' fq y hO hy=> ?_⟩
     have:=k7 Z2 w2 h2 t' x' v' fq y hO hy;rw[List.set_set];exact this
    have S2:=S.CZ (w':=w') (ob':= .fo e t xs n off o3) T0 hg rfl hbi hother hfr (fun base hh=>hh) (fun X=>⟨_,hrow⟩)
     (fun T' hnb=>⟨f,T'.put i (.fo e t xs n off o3) ⟨_,hrow,k2,k3,ho3,⟨a.eval v,by
      rw[List.getElem?_set_self (by rw[JI];omega)],⟨.inl hev,fun _=>hev⟩⟩,Z8⟩ (fun _ k hk o' hm=>by
       rw[hbi]at hk;injection hk with hk
       subst hk;exact nU o' b hm rfl)⟩)
    refine o7 (exe _ ?_) (out_ok h S2 (show eU _ _ _ _ DV.und undef from rfl) hK)
    rw[hav];exact hrun
   ·cases h
  ·cases h
 ·cases h
theorem Uj {ob:List (Nat×Ob G)} (M:Mem W w0 Z pl ob nx w) {p:iP} {l:bD G} {u:Value} (hg: ∀n,(ZK ob p l).2=some n→n=0) (hu:gB Z w pl nx l u):gB Z w pl nx (ZK ob p l).1 u:=by
 have nil: ∀(e:TypeId) (t:Ty) (xs:List (G.D t)) (v:Value),bP G Z w (.sl e t) xs [v]→xs.length=0→ ∃A c,v= .slice A 0 c:=by
  intro e t xs v h h0;generalize hq: [v]=q at h;cases h with
  |sl _ _ _ A c b o cs hc hA hl hz hr=>injection hq with hq _;rw[h0]at hq;exact⟨A,c,hq⟩
 cases p with
 |jS j=>
  cases l with
  |val t x=>
   cases t with
   |sl e t=>exact⟨nil e t _ u hu.1 (hg _ rfl),hu.2⟩
   |_=>exact hu
  |h_ o=>
   simp only[ZK]at hg⊢
   split
   ·rename_i e t xs hgo;rw[hgo]at hg;have h1:bP G Z w (.sl e t) xs [pl o]:=M.ob o _ hgo;rw[←hu.1.2]at h1;exact⟨nil e t xs u h1 (hg _ rfl),hu.2⟩
   ·exact hu
  |kR o=>
   simp only[ZK]at hg⊢
   split
   ·rename_i e t xs hgo;rw[hgo]at hg;have h1:bP G Z w (.sl e t) xs [pl o]:=M.ob o _ hgo;exact⟨nil e t xs u (h1.weak hu.1.2) (hg _ rfl),hu.2⟩
   ·exact hu
  |_=>exact hu
 |_=>exact hu
theorem Pn {ob:List (Nat×Ob G)} (M:Mem W w0 Z pl ob nx w): ∀{ps:List iP} {ls:List (bD G)} {us:List Value},(∀n,n∈(MP ob ps ls).2→n=0)→dS Z w pl nx ls us→dS Z w pl nx (MP ob ps ls).1 us
 | [],ls,us,_,hu=>by simpa only[MP]using hu
 |_::_,[],us,_,hu=>by simpa only[MP]using hu
 |p::ps,l::ls,_,hg,⟨u,us,e,h1,h2⟩=>by
  subst e;simp only[MP]at hg⊢;obtain⟨g1,g2⟩:=wL hg;exact⟨u,us,rfl,Uj M g1 h1,Pn M g2 h2⟩
theorem M_ {ob:List (Nat×Ob G)} (M:Mem W w0 Z pl ob nx w) {p:yT} {d:DV G} {u:Value} (hg: ∀n,n∈(wkD ob p d).2→n=0) (hu:eU Z w pl nx d u):eU Z w pl nx (wkD ob p d).1 u:=by
 unfold wkD at hg⊢
 split
 ·rename_i p l;simp only at hg;obtain⟨g1,_⟩:=wL hg;exact Uj M g1 hu
 ·rename_i ps ls;simp only at hg;obtain⟨cs,e,h⟩:=hu;exact⟨cs,e,Pn M hg h⟩
 ·exact hu
theorem Uk {ob:List (Nat×Ob G)} (M:Mem W w0 Z pl ob nx w) {val:Nat→Value} {j:Nat}: ∀{ps:List (Nat×yT)} {ds:List (Nat×DV G)},(∀n,n∈(tN ob ps ds).2→n=0)→(∀t d,get ds t=some d→t≠j→eU Z w pl nx d (val t))→ ∀t d,get (tN ob ps ds).1 t=some d→t≠j→eU Z w pl nx d (val t)
 | [],ds,_,h=>by simpa only[tN]using h
 |_::_,[],_,h=>by simpa only[tN]using h
 |(_,p)::ps,(i,d0)::ds,hg,h=>by
  intro t d ht hne;simp only[tN]at hg ht;rw[bn]at ht;have far: ∀{ps:List (Nat×yT)} {ds:List (Nat×DV G)},(∀n,n∈(tN ob ps ds).2→n=0)→(∀d,get ds t=some d→eU Z w pl nx d (val t))→ ∀d,get (tN ob ps ds).1 t=some d→eU Z w pl nx d (val t):=by
   intro ps
   induction ps with
   |nil=>intro ds _ h d hd;exact h d (by simpa only[tN]using hd)
   |cons x ps ih=>
    obtain⟨_,p⟩:=x;intro ds hg h d hd;cases ds with
    |nil=>exact h d (by simpa only[tN]using hd)
    |cons y ds=>
     obtain⟨k,d1⟩:=y;simp only[tN]at hg hd;rw[bn]at hd
     split at hd
     ·rename_i e;injection hd with hd
      subst hd e;exact M_ M (fun n hn=>hg n (List.mem_append_left _ hn)) (h d1 (cu _ _ _))
     ·rename_i e;exact ih (fun n hn=>hg n (List.mem_append_right _ hn)) (fun d hd=>h d (by rw[dP _ _ e];exact hd)) d hd
  split at ht
  ·rename_i e;injection ht with ht
   subst ht e;exact M_ M (fun n hn=>hg n (List.mem_append_left _ hn)) (h i d0 (cu _ _ _) hne)
  ·rename_i e;exact far (fun n hn=>hg n (List.mem_append_right _ hn)) (fun d hd=>h t d (by rw[dP _ _ e];exact hd) hne) d ht
theorem WC {ob:List (Nat×Ob G)} (M:Mem W w0 Z pl ob nx w) {val:Nat→Value}: ∀{ps:List (Nat×yT)} {ds:List (Nat×DV G)},(∀n,n∈(tN ob ps ds).2→n=0)→(∀t d,get ds t=some d→eU Z w pl nx d (val t))→ ∀t d,get (tN ob ps ds).1 t=some d→eU Z w pl nx d (val t)
 | [],ds,_,h=>by simpa only[tN]using h
 |_::_,[],_,h=>by simpa only[tN]using h
 |(_,p)::ps,(j,d0)::ds,hg,h=>by
  intro t d ht;simp only[tN]at hg ht;rw[bn]at ht
  split at ht
  ·rename_i e;injection ht with ht
   subst ht e;exact M_ M (fun n hn=>hg n (List.mem_append_left _ hn)) (h j d0 (cu _ _ _))
  ·rename_i e;exact Uk M (fun n hn=>hg n (List.mem_append_right _ hn)) (j:=j) (fun t d ht hne=>h t d (by rw[dP _ _ (Ne.symm hne)];exact ht)) t d ht (Ne.symm e)
theorem fD.Ul {e:TypeId} {t:Ty} {ys:List (G.D t)} {v:Value} {fp:List Nat} (h:fD G Z w (.sl e t) ys [v] fp) (hm:G.md e≠ .out): ∃hdr vs fq,Pg G hdr v∧w.ownsRow 0 e (G.aY t) hdr ys.length vs∧((G.md e= .deep→dR G Z w t ys vs fq)∧(G.md e= .one→fq= []∧gX G Z w t ys vs))∧
  ((bk hdr=none∧fq= []∧fp= [])∨ ∃b,bk hdr=some b∧fp=b::fq):=by
 generalize hq: [v]=q at h;cases h with
 |sl0 _ _ A c hd=>
  injection hq with hq _
  exact⟨.slice none 0 0,[],[],⟨.inr ⟨rfl,A,c,hq⟩,fun h=>by rw[Wv hd]at h;cases h⟩,World.ownsRow_nil w 0 e _,⟨fun _=> .nil t,fun h=>by rw[hd]at h;cases h⟩,.inl ⟨rfl,rfl,rfl⟩⟩
 |sl _ _ _ v' vs b fq hd ho hb hr=>
  injection hq with hq _
  subst hq;exact⟨v,vs,fq,⟨.inl rfl,fun _=>rfl⟩,ho,⟨fun _=>hr,fun h=>by rw[hd]at h;cases h⟩,.inr ⟨b,by rw[qM (b:=b) ho];exact hb,rfl⟩⟩
 |ZL _ _ hd=>
  injection hq with hq _
  subst hq;exact⟨.slice none 0 0,[],[],⟨.inl rfl,fun _=>rfl⟩,World.ownsRow_nil w 0 e _,⟨fun h=>(by rw[hd]at h;cases h),fun _=>⟨rfl,rfl⟩⟩,.inl ⟨rfl,rfl,rfl⟩⟩
 |on _ _ _ v' vs b hd ho hb hr=>
  injection hq with hq _
  subst hq;exact⟨v,vs,[],⟨.inl rfl,fun _=>rfl⟩,ho,⟨fun h=>(by rw[hd]at h;cases h),fun _=>⟨rfl,hr⟩⟩,.inr ⟨b,by rw[qM (b:=b) ho];exact hb,rfl⟩⟩
 |ou _ _ _ _ hd=>exact absurd hd hm
theorem Po {ob:List (Nat×Ob G)} {i n off:Nat} {e:TypeId} {t:Ty} {xs:List (G.D t)} {vs:List Value} {v hdr:Value} {A B vZ fq:List Nat} (M:Mem W w0 Z pl ob nx w) (T0:eH W w0.heap.size Z pl ob nx w f) (hg:get ob i=some (.tr e t xs))
  (o1:w.ownsRow 0 e (G.aY t) (pl i) xs.length vs) (hnn:n<xs.length) (Um:off<G.aY t) (hvv:vs[n*G.aY t+off]? =some v) (hole:uw G Z w t xs vs n off (A++B)) (k6:f i=A++(vZ++B)) (hw:Pg G hdr v)
  (r3:(bk hdr=none∧fq= []∧vZ= [])∨ ∃b,bk hdr=some b∧vZ=b::fq) (tV:Ob G) (Z9:live tV=true) (Pq: ∀k,(w0.heap.size≤k∨ ∀j,W k j)→Own w0.heap.size W tV k) (Na:nT Z w (upd pl nx hdr) (nx+1) nx tV) (YN:j_ Z w (upd pl nx hdr) (nx+1) fq nx tV):
  Ext Z w pl nx Z w (upd pl nx hdr) (nx+1)∧Mem W w0 Z (upd pl nx hdr) ((i,.fo e t xs n off nx)::(nx,tV)::ob) (nx+1) w:=by
 have hix:i<nx:=M.lt i _ hg;have hne:i≠nx:=Nat.ne_of_lt hix;have hne':nx≠i:=Ne.symm hne
 let dI:=upd pl nx hdr
 have X:Ext Z w pl nx Z w dI (nx+1):=(Ext.refl Z w pl nx).upd rfl hdr;have hpi:dI i=pl i:=kZ pl hdr hne;have hpn:dI nx=hdr:=upd_same pl nx hdr;have M0:Mem W w0 Z dI ob (nx+1) w:=M.keep X (fun o b k hg hl hk=>⟨rfl,M.dU o b k hg hl hk⟩) M.qL (fun _ _ h=> .inl h) (Fr.refl _ _ _) ⟨f,T0,fun o k hk=>⟨rfl,T0.dU o k hk⟩⟩
 have T1:eH W w0.heap.size Z dI ob (nx+1) w f:=T0.keep M.lt (Nat.le_succ _) X.hp (fun _ _ _ _ _ _=>rfl) X.hZ X.hw (fun o k hk=>⟨rfl,T0.dU o k hk⟩) (Nat.le_refl _)
 have JJ:(A++(vZ++B)).Nodup:=by rw[←k6];exact T0.nd i
 have Un: ∀k,k∈vZ→k∈f i:=fun k hk=>by rw[k6];exact List.mem_append_right _ (List.mem_append_left _ hk)
 have Z_: ∀k,k∈A++B→k∈f i:=fun k hk=>by
  rw[k6];rcases List.mem_append.1 hk with hk|hk
  ·exact List.mem_append_left _ hk
  ·exact List.mem_append_right _ (List.mem_append_right _ hk)
 have WA:(A++B).Nodup∧vZ.Nodup∧ ∀k,k∈vZ→k∉A++B:=by
  rw[List.nodup_append]at JJ;obtain⟨n1,n2,n3⟩:=JJ;rw[List.nodup_append]at n2;refine⟨List.nodup_append.2 ⟨n1,n2.2.1,fun x hx y hy=>n3 x hx y (List.mem_append_right _ hy)⟩,n2.1,fun k hk hk'=> ?_⟩
  rcases List.mem_append.1 hk' with h|h
  ·exact n3 k h k (List.mem_append_left _ hk) rfl
  ·exact n2.2.2 k hk k h rfl
 have live': ∀o' b,get ((i,Ob.dead)::ob) o'=some b→live b=true→get ob o'=some b:=by
  intro o' b hgb hl;have hne':i≠o':=by intro ee;subst ee;rw[cu]at hgb;cases hgb;cases hl
  rwa [dP _ _ hne']at hgb
 have T2:=(T1.kill i).set i (A++B) (fun b hb=>by rw[cu]at hb;cases hb;trivial) WA.1 (fun k hk=> .inl (Z_ k hk))
 let f2:Nat→List Nat:=fun n=>if n=i then A++B else f n
 have f2i:f2 i=A++B:=if_pos rfl;have f2f: ∀o',o'≠i→f2 o'=f o':=fun o' ho=>if_neg ho
 have T2:eH W w0.heap.size Z dI ((i,.dead)::ob) (nx+1) w f2:=T2;have XX: ∀k,k∈vZ→ ∀o',k∉f2 o':=by
  intro k hk o' hm
  by_cases ho:o'=i
  ·rw[ho,f2i]at hm;exact WA.2.2 k hk hm
  ·rw[f2f o' ho]at hm;exact ho (T0.sep o' i k hm (Un k hk))
 have Nb: ∀k,k∈fq→k∈vZ:=fun k hk=>by
  rcases r3 with⟨_,e1,_⟩|⟨b2,_,e1⟩
  ·rw[e1]at hk;cases hk
  ·rw[e1];exact List.mem_cons_of_mem _ hk
 have YO:fq.Nodup:=by
  rcases r3 with⟨_,e1,_⟩|⟨b2,_,e1⟩
  ·rw[e1];exact List.nodup_nil
  ·have:=WA.2.1;rw[e1]at this;exact(List.nodup_cons.1 this).2
 have T3:=T2.set nx fq (fun b hb=>by rw[dP _ _ hne]at hb;exact absurd (M.lt nx b hb) (Nat.lt_irrefl _)) YO (fun k hk=>by
  have hk1:=Un k (Nb k hk);exact .inr ⟨XX k (Nb k hk),fun o' b hgb hl hb=>T1.root i k o' b hk1 (live' o' b hgb hl) hl hb,T1.own i k hk1,T1.dU i k hk1,T1.lt i k hk1⟩)
 let f3:Nat→List Nat:=fun n=>if n=nx then fq else f2 n
 have T3:eH W w0.heap.size Z dI ((i,.dead)::ob) (nx+1) w f3:=T3;have f3n:f3 nx=fq:=if_pos rfl;have f3i:f3 i=A++B:=by show(if i=nx then fq else f2 i)=_;rw[if_neg hne];exact f2i
 have Di: ∀k,bk hdr=some k→k∈vZ∧ ∀o',k∉f3 o':=by
  intro k hk;rcases r3 with⟨e1,_⟩|⟨b2,e1,e2⟩
  ·rw[e1]at hk;cases hk
  ·rw[e1]at hk;injection hk with hk
   subst hk;have hmem:b2∈vZ:=by rw[e2];exact List.mem_cons_self
   refine⟨hmem,fun o' hm=> ?_⟩
   have hm:b2∈(if o'=nx then fq else f2 o'):=hm
   split at hm
   ·have:=WA.2.1;rw[e2]at this;exact(List.nodup_cons.1 this).1 hm
   ·exact XX b2 hmem o' hm
 have aab: ∀k,bk (pl i)=some k→ ∀o',k∉f3 o':=by
  intro k hk o' hm;have hm:k∈(if o'=nx then fq else f2 o'):=hm
  split at hm
  ·exact T0.root i k i _ (Un k (Nb k hm)) hg rfl hk
  ·by_cases ho:o'=i
   ·rw[ho,f2i]at hm;exact T0.root i k i _ (Z_ k hm) hg rfl hk
   ·rw[f2f o' ho]at hm;exact T0.root o' k i _ hm hg rfl hk
 have T4:=T3.put nx tV (by rw[f3n];exact YN) (fun _ k hk=>by rw[hpn]at hk;exact(Di k hk).2)
 have hfo:j_ Z w dI (nx+1) (f3 i) i (.fo e t xs n off nx):=by
  rw[f3i];exact⟨vs,by rw[hpi];exact o1,hnn,Um,Nat.lt_succ_self _,⟨v,hvv,by rw[hpn];exact hw⟩,hole⟩
 have T5:=T4.put i (.fo e t xs n off nx) hfo (fun _ k hk=>by rw[hpi]at hk;exact aab k hk)
 have aac:get ob nx=none:=by
  cases hq:get ob nx with
  |none=>rfl
  |some b=>exact absurd (M.lt nx b hq) (Nat.lt_irrefl _)
 have MK:=M0.kill i (Nat.lt_succ_of_lt hix);have M4:Mem W w0 Z dI ((nx,tV)::(i,.dead)::ob) (nx+1) w:=MK.add nx tV (Nat.lt_succ_self _) Na (fun _ k hk=>by
  rw[hpn]at hk;have hk1:=Un k (Di k hk).1;refine⟨Pq k (T1.own i k hk1),T1.dU i k hk1,fun o' b' ho' hg' hl' hk'=> ?_⟩
  exact T1.root i k o' b' hk1 (live' o' b' hg' hl') hl' hk') ⟨f3,T4⟩
 have M5:Mem W w0 Z dI ((i,.fo e t xs n off nx)::(nx,tV)::(i,.dead)::ob) (nx+1) w:=M4.add i (.fo e t xs n off nx) (Nat.lt_succ_of_lt hix) ⟨vs,by rw[hpi];exact o1⟩ (fun _ k hk=>by
  refine⟨M0.own i (.tr e t xs) k hg rfl hk,M0.dU i _ k hg rfl hk,fun o' b' ho' hg' hl' hk'=> ?_⟩
  rw[bn]at hg'
  split at hg'
  ·rename_i eo;injection hg' with hg'
   subst hg' eo;rw[hpn]at hk';rw[hpi]at hk;exact T0.root i k i _ (Un k (Di k hk').1) hg rfl hk
  ·exact ho' (M0.sep o' i b' _ k (live' o' b' hg' hl') hl' hg rfl hk' hk)) ⟨f3,T5⟩
 have M6:Mem W w0 Z dI ((i,.fo e t xs n off nx)::(nx,tV)::ob) (nx+1) w:=M5.congr fun m=>by
  simp only[bn]
  split
  ·rfl
  ·split
   ·rfl
   ·rename_i h1 h2;rfl
 exact⟨X,M6⟩
theorem Pv (hs:fH G) {n off:Nat} {t t':Ty} {xs:List (G.D t)} {vs:List Value} {fp:List Nat} {els:List (bD G)} {x':G.D t'} (Ho:ni (⟨t,xs.getD n (tK G t)⟩:TV G)=some (.agg els)) (o2:dR G Z w t xs vs fp) (hnn:n<xs.length)
  (hl:nth els off=some (.val t' x')): ∃v A B vZ,fp=A++(vZ++B)∧vs[n*G.aY t+off]? =some v∧fD G Z w t' x' [v] vZ∧v.oneCell'=true∧uw G Z w t xs vs n off (A++B)∧off<G.aY t:=by
 rw[lT]at hl;obtain⟨hlt,hlv⟩:=List.getElem?_eq_some_iff.1 hl;obtain⟨hel,A,B,fV,k6,k7,k8⟩:=o2.part hs (off:=off) (m:=1) hnn Ho (by omega)
 have e1:(els.drop off).take 1= [.val t' x']:=by
  rw[List.drop_eq_getElem_cons hlt,List.take_succ_cons,List.take_zero,hlv]
 rw[e1]at k7;obtain⟨v,vs',fp,rW,q1,q2,⟨q3,q4⟩,q5,q6⟩:=k7;subst q5 q6 q2;have hvv:vs[n*G.aY t+off]? =some v:=by
  have:=congrArg (fun l=>l[0]?) q1
  simpa [List.getElem?_take,List.getElem?_drop]using this
 refine⟨v,A,B,fp,by simpa using k6,hvv,q3,q4,?_,by rw[←hel];exact hlt⟩
 refine⟨A,B,rfl,fun Z' w' hw t'' x'' v' fq y hO hy=> ?_⟩
 unfold Jh at hy;rw[YK,Ho]at hy;simp only at hy
 split at hy
 ·rename_i y0 L0 abK;have hone:v'.oneCell'=true:=fD.one hO v' (List.mem_singleton.2 rfl);have:=(k8 Z' w' hw [.val t'' x''] [v'] [fq] _ _ _ ⟨v',[],fq,[],rfl,rfl,⟨hO,hone⟩,rfl,rfl⟩ rfl abK y hy).2;rw[Fh]at this
  simpa [List.append_assoc]using this
 ·cases hy
theorem JK (hs:fH G) {ti:TI} {T:TypeId} (tk:n_ P G T ti) {x:Operand} {i n z off:Nat} {e:TypeId} {t:Ty} {xs:List (G.D t)}
  (h:loadT E o ti L i n z off e t xs K=some r) (S:Sat E.N W w0 Z pl L a w) (hg:get L.objs i=some (.tr e t xs)) (hx:gB Z w pl L.nx (.jG i n z off:bD G) (a.eval x))
  (exe: ∀u,(Instr.loadAt T (a.eval x)).run P w= .ok u w→(execOp a.eval o).run P w= .ok (.value u) w) (hK:Then E W w0 K r next):o.rd P a w next:=by
 unfold loadT at h
 split at h
 ·rename_i els hz Ho hagg;have hz:=Nat.eq_of_beq_eq_true hz;subst hz;obtain⟨f,T0⟩:=S.mem.tr;obtain⟨vs,o1,o2⟩:=T0.rep i _ hg;obtain⟨⟨hix,b,n',c,hb,hnn,hav⟩,_⟩:=hx;have hn':n'=xs.length:=by
   rcases o1.2 with⟨e1,_⟩|⟨g,cap,cur,e1,_⟩
   ·rw[hb]at e1;cases e1
   ·rw[hb]at e1;injection e1
  subst hn';obtain⟨l0,hl0⟩:=tk.one hagg;have cell: ∀t' (x':G.D t'),nth els off=some (.val t' x')→ ∃v A B vZ,f i=A++(vZ++B)∧vs[n*G.aY t+off]? =some v∧fD G Z w t' x' [v] vZ∧v.oneCell'=true∧uw G Z w t xs vs n off (A++B)∧off<G.aY t∧
    (Instr.loadAt T (a.eval x)).run P w= .ok v w:=by
   intro t' x' hl;obtain⟨v,A,B,vZ,c1,c2,c3,c4,c5,c6⟩:=Pv hs Ho o2 hnn hl;refine⟨v,A,B,vZ,c1,c2,c3,c4,c5,c6,?_⟩;obtain⟨u',v1,_,v3⟩:=ku (w:=w) ti tk (b:=b) (off:=n*G.aY t+off) (cs:= [v]) (fun j u hj=>by
     cases j with
     |zero=>
      injection hj with hj
      subst hj;have:=o1.cells (g:=b) (by rw[hb];rfl) _ v c2
      have hadd:(⟨b,0,none⟩:Addr).add (n*G.aY t+off)=⟨b,n*G.aY t+off,none⟩:=by unfold Addr.add;split<;>simp_all
      rw[hadd]at this;exact this
     |succ j=>simp at hj) (by rw[hl0];rfl)
   have:=v3 hagg;injection this with this _
   rw[hav,this];exact v1
  split at h
  ·
   rename_i e' t' ys hl;obtain⟨v,A,B,vZ,k6,hvv,q3,q4,hole,Um,hrun⟩:=cell _ _ hl
   by_cases hout:G.md e'= .out
   ·rw[hout]at h;generalize hq: [v]=q at q3;cases q3 with
    |ou _ _ _ v' _ hr=>
     injection hq with hq _
     subst hq;exact jk (exe v hrun) h S ⟨hr,q4⟩ hK
    |sl0 _ _ _ _ hd=>rw[hout]at hd;cases hd
    |sl _ _ _ _ _ _ _ hd=>rw[hout]at hd;cases hd
    |ZL _ _ hd=>rw[hout]at hd;cases hd
    |on _ _ _ _ _ _ hd=>rw[hout]at hd;cases hd
   obtain⟨hdr,vs2,fq,hw,r1,r2,r3⟩:=q3.Ul hout;have hg:get L.objs i=some (.tr e t xs):=hg;have fin: ∀(lf:bD G) (tV:Ob G),mQ Z w (upd pl L.nx hdr) (L.nx+1) lf v→live tV=true→(∀k,(w0.heap.size≤k∨ ∀j,W k j)→Own w0.heap.size W tV k)→nT Z w (upd pl L.nx hdr) (L.nx+1) L.nx tV→j_ Z w (upd pl L.nx hdr) (L.nx+1) fq L.nx tV→out E o (.sv (.one lf)) ⟨L.tmps,(i,.fo e t xs n off L.nx)::(L.nx,tV)::L.objs,L.nx+1⟩ K=some r→o.rd P a w next:=by
    intro lf tV hlf Z9 Pq Na YN h;obtain⟨X,M6⟩:=Po S.mem T0 hg o1 hnn Um hvv hole k6 hw r3 tV Z9 Pq Na YN;exact jk (exe v hrun) h (S.at (L':=⟨L.tmps,_,L.nx+1⟩) X M6 rfl) ⟨hlf,q4⟩ hK
   have hpn:upd pl L.nx hdr L.nx=hdr:=upd_same pl L.nx hdr;cases L with
   |mk tm ob nx=>
   cases hmd:G.md e' with
   |out=>exact absurd hmd hout
   |one=>
    rw[hmd]at h;obtain⟨hfq,hrow⟩:=r2.2 hmd;exact fin (.h_ nx) (.arr e' t' ys) ⟨Nat.lt_succ_self _,by rw[hpn];exact hw.2 (JE (by rw[hmd];intro h;cases h))⟩ rfl (fun k h=>h) ⟨vs2,by rw[hpn];exact r1,hrow⟩ trivial h
   |deep=>
   rw[hmd]at h;have r2:=r2.1 hmd;have ZM:mQ Z w (upd pl nx hdr) (nx+1) (.kR nx:bD G) v:=⟨Nat.lt_succ_self _,by rw[hpn];exact hw.1⟩
   simp only at h
   split at h
   ·rename_i hf;exact fin (.kR nx) (.arr e' t' ys) ZM rfl (fun k h=>h) ⟨vs2,by rw[hpn];exact r1,r2.row (fun _ _ h=>h) fun k hk i=>by
     have hnil: ∀k,k∈fq→False:=flat_nil hf r2;exact(hnil k hk).elim⟩ trivial h
   ·exact fin (.kR nx) (.tr e' t' ys) ZM rfl (fun k h=>h) ⟨vs2,by rw[hpn];exact r1⟩ ⟨vs2,by rw[hpn];exact r1,r2⟩ h
  ·
   rename_i t' x' _ hl
   split at h
   ·rename_i hsc;obtain⟨v,A,B,vZ,k6,hvv,q3,q4,_,_,hrun⟩:=cell _ _ hl;refine jk (exe v hrun) h S ⟨?_,q4⟩ hK;cases t' with
    |int k=>cases q3;exact .int k _
    |bool=>cases q3;exact .bool _
    |str=>cases q3;exact .str _
    |sl=>cases hsc
    |po=>cases hsc
    |st=>cases hsc
   ·cases h
  ·cases h
 ·cases h
def XY (G:jf) (Z:Nat→Nat→Prop) (w:World) (t:Ty) (s:G.D t×List Value×List Nat):Prop:=s.2.1.length=G.aY t∧fD G Z w t s.1 s.2.1 s.2.2
theorem dR.WE {t:Ty}: ∀{xs:List (G.D t)} {vs:List Value} {fp:List Nat},dR G Z w t xs vs fp→ ∃l:List (G.D t×List Value×List Nat),(∀s∈l,XY G Z w t s)∧xs=l.map (·.1)∧vs=(l.map (·.2.1)).flatten∧fp=(l.map (·.2.2)).flatten
 |_,_,_,.nil _=>⟨[],fun s h=>absurd h List.not_mem_nil,rfl,rfl,rfl⟩
 |_,_,_,.cons _ x xs cs vs fp fp' hl h1 h2=>by
  obtain⟨l,a,b,c,d⟩:=dR.WE h2;refine⟨(x,cs,fp)::l,fun s hs=> ?_,by rw[b];rfl,by rw[c];rfl,by rw[d];rfl⟩
  rcases List.mem_cons.1 hs with hs|hs
  ·subst hs;exact⟨hl,h1⟩
  ·exact a s hs
theorem dR.Hr {t:Ty}: ∀{l:List (G.D t×List Value×List Nat)},(∀s∈l,XY G Z w t s)→dR G Z w t (l.map (·.1)) (l.map (·.2.1)).flatten (l.map (·.2.2)).flatten
 | [],_=> .nil t
 |(x,cs,fp)::l,h=> .cons t x _ cs _ fp _ (h _ List.mem_cons_self).1 (h _ List.mem_cons_self).2 (dR.Hr fun s hs=>h s (List.mem_cons_of_mem _ hs))
theorem dR.one {t:Ty} {xs:List (G.D t)} {vs:List Value} {fp:List Nat} (h:dR G Z w t xs vs fp): ∀u∈vs,u.oneCell'=true:=by
 obtain⟨l,hl,_,e2,_⟩:=h.WE;intro u hu;rw[e2]at hu;obtain⟨cs,hc,hu⟩:=List.mem_flatten.1 hu;obtain⟨s,hs,e⟩:=List.mem_map.1 hc;subst e;exact(hl s hs).2.one u hu
theorem BH {α:Type} {c:Nat}: ∀(l:List (List α)),(∀x∈l,x.length=c)→ ∀(i:Nat) (h:i<l.length),(l.flatten.drop (i*c)).take c=l[i]
 | [],_,i,h=>by cases h
 |x::l,hc,0,_=>by
  rw[Nat.zero_mul,List.drop_zero,List.flatten_cons,←hc x List.mem_cons_self,List.take_left];rfl
 |x::l,hc,i+1,h=>by
  have e:(i+1)*c=x.length+i*c:=by rw[hc x List.mem_cons_self,Nat.add_mul,Nat.one_mul,Nat.add_comm]
  rw[List.flatten_cons,e,←List.drop_drop,List.drop_left,List.getElem_cons_succ];exact BH l (fun y hy=>hc y (List.mem_cons_of_mem _ hy)) i (by simpa using h)
theorem Dj {α:Type} {c:Nat}: ∀(l:List (List α)),(∀x∈l,x.length=c)→ ∀(i:Nat) (_:i<l.length) (y:List α),y.length=c→RX.setAt l.flatten (i*c) y=(l.set i y).flatten
 | [],_,i,h,_,_=>by cases h
 |x::l,hc,0,_,y,hy=>by
  rw[Nat.zero_mul,List.flatten_cons,iF _ _ _ (by rw[hy,hc x List.mem_cons_self])];rfl
 |x::l,hc,i+1,h,y,hy=>by
  have e:(i+1)*c=x.length+i*c:=by rw[hc x List.mem_cons_self,Nat.add_mul,Nat.one_mul,Nat.add_comm]
  rw[List.flatten_cons,e,lD,List.set_cons_succ,List.flatten_cons];rw[Dj l (fun y hy=>hc y (List.mem_cons_of_mem _ hy)) i (by simpa using h) y hy]
theorem dR.swap {t:Ty} {xs:List (G.D t)} {vs:List Value} {fp:List Nat} (h:dR G Z w t xs vs fp) {i k:Nat} (hi:i<xs.length) (hk:k<xs.length) (d:G.D t):
  ∃fq,fq.Perm fp∧dR G Z w t (uo d xs i k) (RX.setAt (RX.setAt vs (i*G.aY t) ((vs.drop (k*G.aY t)).take (G.aY t))) (k*G.aY t) ((vs.drop (i*G.aY t)).take (G.aY t))) fq:=by
 obtain⟨l,hl,e1,e2,e3⟩:=h.WE;subst e1 e2 e3;have hi:i<l.length:=by simpa using hi
 have hk:k<l.length:=by simpa using hk
 have hp:=List.set_set_perm hi hk;have hlen: ∀y∈l.map (·.2.1),y.length=G.aY t:=fun y hy=>by
  obtain⟨s,hs,rfl⟩:=List.mem_map.1 hy;exact(hl s hs).1
 have hiy:(l.map (·.2.1))[i]'(by simpa using hi)=l[i].2.1:=by simp
 have hky:(l.map (·.2.1))[k]'(by simpa using hk)=l[k].2.1:=by simp
 refine⟨_,(hp.map (·.2.2)).flatten,?_⟩
 have:=dR.Hr (G:=G) (Z:=Z) (w:=w) (t:=t) (l:=(l.set i l[k]).set k l[i]) fun s hs=>hl s (hp.mem_iff.1 hs)
 have a1:((l.set i l[k]).set k l[i]).map (·.1)=uo d (l.map (·.1)) i k:=by
  unfold uo;rw[List.map_set,List.map_set,List.getD_eq_getElem?_getD,List.getD_eq_getElem?_getD,List.getElem?_map,List.getElem?_map,List.getElem?_eq_getElem hi,List.getElem?_eq_getElem hk]
  rfl
 rw[a1]at this;rw[BH _ hlen k (by simpa using hk),BH _ hlen i (by simpa using hi),hiy,hky,Dj _ hlen i (by simpa using hi) _ (hl _ (List.getElem_mem hk)).1]
 rw[Dj _ (fun y hy=>by
  rcases List.mem_or_eq_of_mem_set hy with hy|hy
  ·exact hlen y hy
  ·rw[hy];exact(hl _ (List.getElem_mem hk)).1) k (by simpa using hk) _ (hl _ (List.getElem_mem hi)).1]
 rw[List.map_set,List.map_set]at this;exact this
theorem Ht {n:Nat} {ds:List Value} (hp:pl n= .agg ds.toArray): ∀{ls:List (bD G)} {j:Nat} {cs:List Value},TS n j ls=true→dS Z w pl nx ls cs→cs=(ds.drop j).take ls.length
 | [],j,cs,_,h=>by rw[show cs= [] from h];simp
 |l::ls,j,cs,hb,h=>by
  obtain⟨v,vs',e,h1,h2⟩:=h;subst e;cases l with
  |raw m k=>
   simp only[TS]at hb
   split at hb
   ·rename_i e1 e2;have e1:=Nat.eq_of_beq_eq_true e1;have e2:=Nat.eq_of_beq_eq_true e2;subst e1 e2;obtain⟨_,cs',k1,k2⟩:=h1.1;rw[hp]at k1;injection k1 with k1
    have k1:ds=cs':=by simpa using k1
    subst k1;have ih:=Ht hp hb h2;obtain⟨hlt,k3⟩:=List.getElem?_eq_some_iff.1 k2;rw[List.drop_eq_getElem_cons hlt,List.length_cons,List.take_succ_cons,k3,←ih]
   ·cases hb
  |_=>cases hb
theorem JL {n:Nat} {ds:List Value} (hp:pl n= .agg ds.toArray) (hn:n<nx) (hd: ∀u∈ds,u.oneCell'=true): ∀{c j:Nat},j+c=ds.length→dS Z w pl nx (Jm G n j c) (ds.drop j)
 |0,j,h=>by
  show ds.drop j= [];exact List.drop_eq_nil_of_le (by omega)
 |c+1,j,h=>by
  have hlt:j<ds.length:=by omega
  rw[List.drop_eq_getElem_cons hlt];exact⟨ds[j],ds.drop (j+1),rfl,⟨⟨hn,ds,hp,List.getElem?_eq_getElem hlt⟩,hd _ (List.getElem_mem hlt)⟩,JL hp hn hd (by omega)⟩
theorem JM {ti:TI} {T:TypeId} (tk:n_ P G T ti) {x:Operand} {i n z off n1 i1:Nat} {e:TypeId} {t:Ty} {xs:List (G.D t)} {Hq:Ob G}
  (h:Ac E o ti L i n z off e t xs n1 i1 K=some r) (S:Sat E.N W w0 Z pl L a w) (hg:get L.objs i=some Hq) (hl:live Hq=true)
  (hrep: ∀fp,j_ Z w pl L.nx fp i Hq→ ∃vs,w.ownsRow 0 e (G.aY t) (pl i) xs.length vs∧dR G Z w t xs vs fp∧
   ((n1=L.nx∧i1=n)∨(n1<L.nx∧i1<xs.length∧pl n1= .agg ((vs.drop (i1*G.aY t)).take (G.aY t)).toArray)))
  (hx:gB Z w pl L.nx (.jG i n z off:bD G) (a.eval x))
  (exe: ∀u,(Instr.loadAt T (a.eval x)).run P w= .ok u w→(execOp a.eval o).run P w= .ok (.value u) w) (hK:Then E W w0 K r next):o.rd P a w next:=by
 unfold Ac at h
 split at h
 ·rename_i hagg hz hoff hlen;have hz:=Nat.eq_of_beq_eq_true hz;have hoff:=Nat.eq_of_beq_eq_true hoff;rw[len_eq]at hlen;have hlen:=Nat.eq_of_beq_eq_true hlen;subst hz hoff;cases L with
  |mk tm ob nx=>
  have M:Mem W w0 Z pl ob nx w:=S.mem;have hg:get ob i=some Hq:=hg;obtain⟨f,T0⟩:=M.tr;obtain⟨vs,o1,o2,hn1⟩:=hrep (f i) (T0.rep i _ hg);obtain⟨⟨hix,b,n',c,hb,hnn,hav⟩,_⟩:=hx;have hix:i<nx:=hix;have hn':n'=xs.length:=by
   rcases o1.2 with⟨e1,_⟩|⟨g,cap,cur,e1,_⟩
   ·rw[hb]at e1;cases e1
   ·rw[hb]at e1;injection e1
  subst hn';have hmul:(n+1)*G.aY t≤xs.length*G.aY t:=Nat.mul_le_mul_right _ hnn;rw[Nat.add_mul,Nat.one_mul]at hmul;have hvl:vs.length=xs.length*G.aY t:=o1.1;have hone: ∀u∈vs,u.oneCell'=true:=o2.one;generalize hds:(vs.drop (n*G.aY t)).take (G.aY t)=ds;have hdl:ds.length=G.aY t:=by rw[←hds,List.length_take,List.length_drop];omega
  have hdo: ∀u∈ds,u.oneCell'=true:=fun u hu=>hone u (by rw[←hds]at hu;exact List.mem_of_mem_drop (List.mem_of_mem_take hu))
  obtain⟨u,v1,v2,_⟩:=ku (w:=w) ti tk (b:=b) (off:=n*G.aY t+0) (cs:=ds) (fun j v hj=>by
   rw[←hds,List.getElem?_take]at hj
   split at hj
   ·rw[List.getElem?_drop]at hj;have:=o1.cells (g:=b) (by rw[hb];rfl) _ v hj
    have hadd:(⟨b,0,none⟩:Addr).add (n*G.aY t+j)=⟨b,n*G.aY t+0+j,none⟩:=by rw[Nat.add_zero];unfold Addr.add;split<;>simp_all
    rw[hadd]at this;exact this
   ·cases hj) (by rw[hdl,hlen])
  have hu:=v2 hagg;subst hu
  let dI:=upd pl nx (.agg ds.toArray)
  have X:Ext Z w pl nx Z w dI (nx+1):=(Ext.refl Z w pl nx).upd rfl _;have hne:i≠nx:=Nat.ne_of_lt hix;have hpi:dI i=pl i:=kZ pl _ hne;have hpn:dI nx= .agg ds.toArray:=upd_same pl nx _;have M0:Mem W w0 Z dI ob (nx+1) w:=M.keep X (fun o b k hg hl hk=>⟨rfl,M.dU o b k hg hl hk⟩) M.qL (fun _ _ h=> .inl h) (Fr.refl _ _ _) ⟨f,T0,fun o k hk=>⟨rfl,T0.dU o k hk⟩⟩
  have T1:eH W w0.heap.size Z dI ob (nx+1) w f:=T0.keep M.lt (Nat.le_succ _) X.hp (fun _ _ _ _ _ _=>rfl) X.hZ X.hw (fun o k hk=>⟨rfl,T0.dU o k hk⟩) (Nat.le_refl _)
  have fin: ∀(m1 j1:Nat),m1<nx+1→j1<xs.length→dI m1= .agg ((vs.drop (j1*G.aY t)).take (G.aY t)).toArray→out E o (.sv (.agg (Jm G nx 0 (G.aY t)))) ⟨tm,(i,.sw e t xs m1 j1 nx n false)::ob,nx+1⟩ K=some r→o.rd P a w next:=by
   intro m1 j1 hm1 hj1 hpm h;have hrp:j_ Z w dI (nx+1) (f i) i (.sw e t xs m1 j1 nx n false):=⟨vs,by rw[hpi];exact o1,o2,hj1,hnn,hm1,Nat.lt_succ_self _,hpm,by rw[hpn,hds]⟩
   have T3:=(T1.kill i).put i (.sw e t xs m1 j1 nx n false) hrp (fun _ k hk o' hm=>by
    rw[hpi]at hk;exact T0.root o' k i _ hm hg hl hk)
   have M5:=(M0.kill i (Nat.lt_succ_of_lt hix)).add i (.sw e t xs m1 j1 nx n false) (Nat.lt_succ_of_lt hix) ⟨vs,by rw[hpi];exact o1⟩ (fun _ k hk=>by
    rw[hpi]at hk;refine⟨?_,M.dU i _ k hg hl hk,fun o' b' ho' hg' hl' hk'=> ?_⟩
    ·rcases M.own i _ k hg hl hk with hh|hh
     ·exact .inl hh
     ·cases Hq with
      |cells ro ls=>obtain⟨vs0,o3,_⟩:=hrep [] trivial;exact absurd (hrep (f i) trivial) (by
        intro⟨_,h1,_⟩;obtain⟨b2,T2,cs2,h2,_⟩:=M.ob i _ hg;rcases h1.2 with⟨e1,_⟩|⟨_,_,_,e1,_⟩<;>rw[h2]at e1<;>cases e1)
      |_=>exact .inr hh
    ·rw[dP _ _ (Ne.symm ho')]at hg'
     by_cases MF:o'=nx
     ·subst MF;rw[hpn]at hk';cases hk'
     ·rw[show dI o'=pl o' from kZ pl _ MF]at hk'
      exact ho' (M.sep o' i b' _ k hg' hl' hg hl hk' hk)) ⟨f,T3⟩
   have M6:Mem W w0 Z dI ((i,.sw e t xs m1 j1 nx n false)::ob) (nx+1) w:=M5.congr fun m=>by
    simp only[bn]
    split
    ·rfl
    ·rfl
   refine jk (exe (.agg ds.toArray) ?_) h (S.at (L':=⟨tm,_,nx+1⟩) X M6 rfl) ?_ hK
   ·rw[hav];exact v1
   ·exact⟨ds,rfl,by simpa using JL (G:=G) (Z:=Z) (w:=w) (nx:=nx+1) hpn (Nat.lt_succ_self _) hdo (c:=G.aY t) (j:=0) (by omega)⟩
  simp only at h;rcases hn1 with⟨e1,e2⟩|⟨h1,h2,h3⟩
  ·have e1:n1=nx:=e1;subst e1 e2;rw[Nat.beq_refl]at h;exact fin n1 i1 (Nat.lt_succ_self _) hnn (by rw[hpn,hds]) h
  ·have h1:n1<nx:=h1;have hbf:Nat.beq n1 nx=false:=by
    cases hq:Nat.beq n1 nx with
    |false=>rfl
    |true=>exact absurd (Nat.eq_of_beq_eq_true hq) (Nat.ne_of_lt h1)
   rw[hbf]at h;exact fin n1 i1 (Nat.lt_succ_of_lt h1) h2 (by rw[show dI n1=pl n1 from kZ pl _ (Nat.ne_of_lt h1)];exact h3) h
 ·cases h
theorem QK {ti:TI} {T:TypeId} (tk:n_ P G T ti) {x v:Operand} {s:SV G} (hsv:dB L v=some s) (hn:s.ls.length=ti.leaves.length) {i n z off n1 i1 n2 i2:Nat} {e:TypeId} {t:Ty} {xs:List (G.D t)} {st:Bool}
  (h:wC E o s L i n z off e t xs n1 i1 n2 i2 st K=some r) (S:Sat E.N W w0 Z pl L a w) (hg:get L.objs i=some (.sw e t xs n1 i1 n2 i2 st)) (hx:gB Z w pl L.nx (.jG i n z off:bD G) (a.eval x))
  (exe: ∀w1,(Instr.storeAt T (a.eval x) (a.eval v)).run P w= .ok () w1→(execOp a.eval o).run P w= .ok .skip w1) (hK:Then E W w0 K r next):o.wp P a w next Q:=by
 have hv:=aK S hsv;unfold wC at h
 split at h
 ·rename_i ls hz hoff;have hz:=Nat.eq_of_beq_eq_true hz;have hoff:=Nat.eq_of_beq_eq_true hoff;subst hz hoff;have hn:ls.length=ti.leaves.length:=hn;obtain⟨cs,hev,hls⟩:=hv
  split at h
  ·rename_i tm ob nx hlen;rw[len_eq]at hlen;have hlen:=Nat.eq_of_beq_eq_true hlen;have hg:get ob i=some (.sw e t xs n1 i1 n2 i2 st):=hg;have M0:Mem W w0 Z pl ob nx w:=S.mem;have hls:dS Z w pl nx ls cs:=hls;have hcl:cs.length=G.aY t:=by rw[←hlen,hls.length]
   obtain⟨f,T0⟩:=M0.tr;obtain⟨vs,o1,o2,hi1,hi2,hn1,hn2,hp1,hp2⟩:=T0.rep i _ hg;obtain⟨⟨_,b,n',c,hb,hnn,hav⟩,_⟩:=hx;rcases o1.2 with⟨e1,_⟩|⟨g,cap,cur,e1,e0,e3,e4,e5,e6,e7⟩
   ·rw[hb]at e1;cases e1
   rw[hb]at e1;injection e1 with e1 e1' MZ
   injection e1 with e1
   injection e1 with e1
   subst e1 e1' MZ;generalize hvM:swV (G.aY t) vs i1 i2 st=vM at o1 e7;have JI:vM.length=xs.length*G.aY t:=o1.1;have zk:cur.toList.toArray=cur:=by simp
   have hmul:(n+1)*G.aY t≤xs.length*G.aY t:=Nat.mul_le_mul_right _ hnn;rw[Nat.add_mul,Nat.one_mul]at hmul;have hcs:cur.toList.length=c*G.aY t:=by rw[←e6];exact Array.length_toList
   have hsz:xs.length*G.aY t≤cur.toList.length:=by rw[hcs];exact Nat.mul_le_mul_right _ e4
   have hce:(a.eval v).cells.toList=cs:=by rw[hev];rfl
   have hone: ∀u∈(a.eval v).cells.toList,u.oneCell'=true:=by rw[hce];exact hls.one
   have hrun:=nD ti tk (off:=n*G.aY t+0) (cs:=cur.toList) (by rw[zk];exact e3) (u:=a.eval v) hone (by rw[hce,hcl,←hn,hlen]) (by rw[←hn,hlen];omega)
   rw[Nat.add_zero]at hrun hav;have hbi:bk (pl i)=some b:=by rw[hb];rfl
   have nU: ∀o' k,k∈f o'→k≠b:=fun o' k hk ee=>T0.root o' k i _ hk hg rfl (by rw[ee];exact hbi)
   let w':=w.setRow b (RX.setAt cur.toList (n*G.aY t) (a.eval v).cells.toList).toArray
   have hother: ∀k,k≠b→w'.heap[k]? =w.heap[k]? :=fun k hk=>setRow_other w b k _ hk
   have hfr:Fr W w0.heap.size w w':=CY S hg rfl hbi (by rw[zk];exact e3) (bW _ _ _) (fun ro ls he=>by cases he)
   have hrow:w'.ownsRow 0 e (G.aY t) (pl i) xs.length (RX.setAt vM (n*G.aY t) cs):=by
    rw[hb];refine⟨by rw[bW,JI],.inr ⟨b,c,(RX.setAt cur.toList (n*G.aY t) (a.eval v).cells.toList).toArray,rfl,Nat.zero_le _,setRow_heap w b _ _ _ _ e3,e4,e5,?_,?_⟩⟩
    ·rw[List.size_toArray,bW,hcs]
    ·show(RX.setAt cur.toList (n*G.aY t) (a.eval v).cells.toList).take _=_;rw[hce,rV _ _ _ _ (by rw[hcl];omega) hsz,e7]
   have hzb: ∀k j,Z k j→k≠b:=fun k j hz ee=>by subst ee;exact M0.dU i _ k hg rfl hbi j hz
   have hzw: ∀k j,Z k j→w'.cell? ⟨k,j,none⟩=w.cell? ⟨k,j,none⟩:=fun k j hz=>jC (hother k (hzb k j hz)) j
   have WB:BC Z w (f i) Z w':=⟨fun k hk=>hother k (nU i k hk),fun _ _ h=>h,hzw⟩
   cases st with
   |false=>
    simp only at h
    split at h
    ·rename_i hrb
     split at h
     ·rename_i hni;subst hni;have Uo:=Ht hp2 hrb hls;rw[List.drop_zero,List.take_of_length_le (by rw[List.length_take,List.length_drop];omega)]at Uo
      have hvs:vM=vs:=hvM.symm;have S2:=S.CZ (w':=w') (ob':= .sw e t xs n1 n n2 i2 true) T0 hg rfl hbi hother hfr (fun base hh=>hh) (fun X=>⟨_,hrow⟩)
       (fun T' hnb=>⟨f,T'.put i (.sw e t xs n1 n n2 i2 true) ⟨vs,by
        show w'.ownsRow 0 e (G.aY t) (pl i) xs.length (RX.setAt vs (n*G.aY t) ((vs.drop (i2*G.aY t)).take (G.aY t)));rw[←Uo,←hvs];exact hrow,o2.mono WB,hi1,hi2,hn1,hn2,hp1,hp2⟩ (fun _ k hk o' hm=>by
         rw[hbi]at hk;injection hk with hk
         subst hk;exact nU o' b hm rfl)⟩)
      refine o7 (exe _ ?_) (out_ok h S2 (show eU _ _ _ _ DV.und undef from rfl) hK)
      rw[hav];exact hrun
     ·cases h
    ·cases h
   |true=>
    simp only at h
    split at h
    ·rename_i hrb
     split at h
     ·rename_i hni;subst hni;have Uo:=Ht hp1 hrb hls;rw[List.drop_zero,List.take_of_length_le (by rw[List.length_take,List.length_drop];omega)]at Uo
      obtain⟨fq,hperm,hsw⟩:=o2.swap hi1 hi2 (tK G t);have hvs:vM=RX.setAt vs (i1*G.aY t) ((vs.drop (n*G.aY t)).take (G.aY t)):=hvM.symm;rw[hvs,Uo]at hrow;have aad:BC Z w fq Z w':=WB.sub fun k hk=>hperm.mem_iff.1 hk
      have S2:=S.CZ (w':=w') (ob':= .tr e t (uo (tK G t) xs i1 n)) T0 hg rfl hbi hother hfr (fun base hh=>hh) (fun X=>⟨_,by rw[show(uo (tK G t) xs i1 n).length=xs.length by simp[uo]];exact hrow⟩)
       (fun T' hnb=>by
        have T3:=T'.set i fq (fun b hb=>by rw[cu]at hb;cases hb;trivial) (hperm.nodup_iff.2 (T0.nd i)) (fun k hk=> .inl (hperm.mem_iff.1 hk))
        refine⟨_,T3.put i (.tr e t (uo (tK G t) xs i1 n)) ?_ (fun _ k hk o' hm=> ?_)⟩
        ·show∃vs,_∧dR G Z w' t (uo (tK G t) xs i1 n) vs (if i=i then fq else _);rw[if_pos rfl];exact⟨_,by rw[show(uo (tK G t) xs i1 n).length=xs.length by simp[uo]];exact hrow,hsw.mono aad⟩
        ·rw[hbi]at hk;injection hk with hk
         subst hk;have hm:b∈(if o'=i then fq else f o'):=hm
         split at hm
         ·exact nU i b (hperm.mem_iff.1 hm) rfl
         ·exact nU o' b hm rfl)
      refine o7 (exe _ ?_) (out_ok h S2 (show eU _ _ _ _ DV.und undef from rfl) hK)
      rw[hav];exact hrun
     ·cases h
    ·cases h
  ·cases h
 ·cases h
end
section
open Go Go.RowKit
variable {G:jf} {R:Type} {P:Program} {W:fA} {w0 w w':World} {Z Z':Nat→Nat→Prop} {pl dI:Nat→Value} {N:Nat} {objs:List (Nat×Ob G)} {nx nx':Nat} {f:Nat→List Nat}
variable {E:Env G R} {o:Oper} {L:St G} {K:St G→Option R} {r:R} {a:Act} {next:Act→World→Prop} {Q:Exit→Act→World→Prop}
theorem Fv {l:bD G} {v:Value} {fp:List Nat} {t:Ty} {x:G.D t} (hl:l= .val t x) (hs:pV t=true) (h:Tt Z w l v fp):gB Z w pl nx l v:=by
 subst hl;obtain⟨h1,h2⟩:=h;refine⟨?_,h2⟩;generalize hq: [v]=q at h1;cases t with
 |int k=>cases h1;injection hq with hq;subst hq;exact .int k _
 |bool=>cases h1;injection hq with hq;subst hq;exact .bool _
 |str=>cases h1;injection hq with hq;subst hq;exact .str _
 |_=>cases hs
theorem aae (hd:jB G.own=true): ∀{ls ls':List (bD G)} {cs:List Value} {fV:List (List Nat)} {ob ob':List (Nat×Ob G)} {nx nx':Nat} {pl:Nat→Value} {f:Nat→List Nat},V_ ls nx ob=some (ls',ob',nx')→
  Mem W w0 Z pl ob nx w→eH W w0.heap.size Z pl ob nx w f→zi W w0.heap.size Z pl ob w f fV.flatten→qR Z w ls cs fV→
  ∃dI,Ext Z w pl nx Z w dI nx'∧Mem W w0 Z dI ob' nx' w∧dS Z w dI nx' ls' cs:=by
 intro ls
 induction ls with
 |nil=>
  intro ls' cs fV ob ob' nx nx' pl f h M T D hl;simp only[V_,Option.some.injEq,Prod.mk.injEq]at h;obtain⟨e1,e2,e3⟩:=h;subst e1 e2 e3;exact⟨pl,Ext.refl Z w pl nx,M,hl.1⟩
 |cons l ls ih=>
  intro ls' cs fV ob ob' nx nx' pl f h M T D hl;obtain⟨v,cs',fp,rW,e1,e2,hv,hl⟩:=hl;subst e1 e2;rw[List.flatten_cons]at D;have nd:=List.nodup_append.1 D.nd;have XZ:zi W w0.heap.size Z pl ob w f rW.flatten:=⟨nd.2.1,fun k hk=>D.mem k (List.mem_append_right _ hk)⟩
  have Hu: ∀(t:Ty) (x:G.D t),l= .val t x→pV t=true→(match V_ ls nx ob with|some (ls',ob',nx')=>some (.val t x::ls',ob',nx')|none=>none)=some (ls',ob',nx')→
    ∃dI,Ext Z w pl nx Z w dI nx'∧Mem W w0 Z dI ob' nx' w∧dS Z w dI nx' ls' (v::cs'):=by
   intro t x hlx hs h
   split at h
   ·rename_i l1 xK Eu hm;injection h with h
    injection h with h1 h2
    injection h2 with h2 h3
    subst h1 h2 h3;obtain⟨dI,X,M',hls⟩:=ih hm M T XZ hl;exact⟨dI,X,M',v,cs',rfl,by rw[←hlx];exact(Fv hlx hs hv).mono X,hls⟩
   ·cases h
  cases l with
  |val t x=>
   cases t with
   |int k=>exact Hu _ x rfl rfl h
   |bool=>exact Hu _ x rfl rfl h
   |str=>exact Hu _ x rfl rfl h
   |sl e t=>
    simp only[V_]at h
    split at h
    ·rename_i l1 xK Eu hm;injection h with h
     injection h with h1 h2
     injection h2 with h2 h3
     subst h1 h2 h3;obtain⟨hv,hone⟩:=hv;have hmd:=mY hd e;obtain⟨hdr,vs2,fq,hw,r1,r2,r3⟩:=hv.Ul (by rw[hmd];intro h;cases h)
     have r2:=r2.1 hmd
     let pl1:=upd pl nx hdr
     have X:Ext Z w pl nx Z w pl1 (nx+1):=(Ext.refl Z w pl nx).upd rfl hdr;have hpn:pl1 nx=hdr:=upd_same pl nx hdr;have M0:Mem W w0 Z pl1 ob (nx+1) w:=M.keep X (fun o b k hg hl hk=>⟨rfl,M.dU o b k hg hl hk⟩) M.qL (fun _ _ h=> .inl h) (Fr.refl _ _ _) ⟨f,T,fun o k hk=>⟨rfl,T.dU o k hk⟩⟩
     have T1:eH W w0.heap.size Z pl1 ob (nx+1) w f:=T.keep M.lt (Nat.le_succ _) X.hp (fun _ _ _ _ _ _=>rfl) X.hZ X.hw (fun o k hk=>⟨rfl,T.dU o k hk⟩) (Nat.le_refl _)
     have aac: ∀b,get ob nx=some b→False:=fun b hb=>absurd (M.lt nx b hb) (Nat.lt_irrefl _)
     have X3: ∀k,k∈fp→ ∀o' b,get ob o'=some b→live b=true→bk (pl1 o')=some k→False:=fun k hk o' b hg hl hb=>
      (D.mem k (List.mem_append_left _ hk)).2.1 o' b hg hl (by rw[←X.hp o' (M.lt o' b hg)];exact hb)
     have Nb: ∀k,k∈fq→k∈fp:=fun k hk=>by
      rcases r3 with⟨_,e1,_⟩|⟨b2,_,e1⟩
      ·rw[e1]at hk;cases hk
      ·rw[e1];exact List.mem_cons_of_mem _ hk
     have YO:fq.Nodup:=by
      rcases r3 with⟨_,e1,_⟩|⟨b2,_,e1⟩
      ·rw[e1];exact List.nodup_nil
      ·have:=nd.1;rw[e1]at this;exact(List.nodup_cons.1 this).2
     have T2:=T1.set nx fq (fun b hb=>(aac b hb).elim) YO (fun k hk=>by
      obtain⟨d1,d2,d3,d4,d5⟩:=D.mem k (List.mem_append_left _ (Nb k hk));exact .inr ⟨d1,fun o' b hg hl hb=>X3 k (Nb k hk) o' b hg hl hb,d3,d4,d5⟩)
     let f2:Nat→List Nat:=fun n=>if n=nx then fq else f n
     have T2:eH W w0.heap.size Z pl1 ob (nx+1) w f2:=T2;have f2n:f2 nx=fq:=if_pos rfl;have Di: ∀k,bk hdr=some k→k∈fp∧ ∀o',k∉f2 o':=by
      intro k hk;rcases r3 with⟨e1,_⟩|⟨b2,e1,e2⟩
      ·rw[e1]at hk;cases hk
      ·rw[e1]at hk;injection hk with hk
       subst hk;have hmem:b2∈fp:=by rw[e2];exact List.mem_cons_self
       refine⟨hmem,fun o' hm=> ?_⟩
       have hm:b2∈(if o'=nx then fq else f o'):=hm
       split at hm
       ·have:=nd.1;rw[e2]at this;exact(List.nodup_cons.1 this).1 hm
       ·exact(D.mem b2 (List.mem_append_left _ hmem)).1 o' hm
     have fin: ∀tV:Ob G,live tV=true→(∀k,(w0.heap.size≤k∨ ∀j,W k j)→Own w0.heap.size W tV k)→nT Z w pl1 (nx+1) nx tV→j_ Z w pl1 (nx+1) fq nx tV→
       V_ ls (nx+1) ((nx,tV)::ob)=some (l1,xK,Eu)→ ∃dI,Ext Z w pl nx Z w dI Eu∧Mem W w0 Z dI xK Eu w∧dS Z w dI Eu (.kR nx::l1) (v::cs'):=by
      intro tV Z9 Pq Na YN hm;have T3:=T2.put nx tV (by rw[f2n];exact YN) (fun _ k hk=>by rw[hpn]at hk;exact(Di k hk).2)
      have M4:Mem W w0 Z pl1 ((nx,tV)::ob) (nx+1) w:=M0.add nx tV (Nat.lt_succ_self _) Na (fun _ k hk=>by
       rw[hpn]at hk;have hk1:=(Di k hk).1;obtain⟨d1,d2,d3,d4,d5⟩:=D.mem k (List.mem_append_left _ hk1);exact⟨Pq k d3,d4,fun o' b' ho' hg' hl' hk'=>X3 k hk1 o' b' hg' hl' hk'⟩) ⟨f2,T3⟩
      have D4:zi W w0.heap.size Z pl1 ((nx,tV)::ob) w f2 rW.flatten:=by
       refine⟨nd.2.1,fun k hk=> ?_⟩
       obtain⟨d1,d2,d3,d4,d5⟩:=XZ.mem k hk;refine⟨fun o' hm=> ?_,fun o' b hg hl hb=> ?_,d3,d4,d5⟩
       ·have hm:k∈(if o'=nx then fq else f o'):=hm
        split at hm
        ·exact nd.2.2 k (Nb k hm) k hk rfl
        ·exact d1 o' hm
       ·rw[bn]at hg
        split at hg
        ·rename_i eo;subst eo;rw[hpn]at hb;exact nd.2.2 k (Di k hb).1 k hk rfl
        ·exact d2 o' b hg hl (by rw[←X.hp o' (M.lt o' b hg)];exact hb)
      obtain⟨dI,X',M',hls⟩:=ih hm M4 T3 D4 hl;refine⟨dI,⟨Nat.le_trans (Nat.le_succ _) X'.hn,fun o ho=>(X'.hp o (Nat.lt_succ_of_lt ho)).trans (X.hp o ho),fun _ _ h=>h,fun _ _ _=>rfl⟩,M',v,cs',rfl,?_,hls⟩
      refine gB.mono X' ⟨⟨Nat.lt_succ_self _,?_⟩,hone⟩;rw[hpn];exact hw.1
     split at hm
     ·rename_i hf;exact fin (.arr e t x) rfl (fun k h=>h) ⟨vs2,by rw[hpn];exact r1,r2.row (fun _ _ h=>h) fun k hk i=>by
       have hnil: ∀k,k∈fq→False:=flat_nil hf r2;exact(hnil k hk).elim⟩ trivial hm
     ·exact fin (.tr e t x) rfl (fun k h=>h) ⟨vs2,by rw[hpn];exact r1⟩ ⟨vs2,by rw[hpn];exact r1,r2⟩ hm
    ·cases h
   |_=>cases h
  |_=>cases h
theorem Fz {α:Type} {c:Nat}: ∀(l:List (List α)),(∀x∈l,x.length=c)→ ∀(i:Nat),i≤l.length→l.flatten.drop (i*c)=(l.drop i).flatten
 | [],_,i,h=>by
  have:i=0:=by simpa using h
  subst this;simp
 |x::l,hc,0,_=>by simp
 |x::l,hc,i+1,h=>by
  have e:(i+1)*c=x.length+i*c:=by rw[hc x List.mem_cons_self,Nat.add_mul,Nat.one_mul,Nat.add_comm]
  rw[List.flatten_cons,e,←List.drop_drop,List.drop_left,List.drop_succ_cons];exact Fz l (fun y hy=>hc y (List.mem_cons_of_mem _ hy)) i (by simpa using h)
theorem dR.cut {t:Ty} {xs:List (G.D t)} {vs:List Value} {fp:List Nat} (h:dR G Z w t xs vs fp) {q:Nat} (hq:q<xs.length):
  ∃A F B,fp=A++(F++B)∧fD G Z w t xs[q] ((vs.drop (q*G.aY t)).take (G.aY t)) F∧dR G Z w t (xs.drop (q+1)) (vs.drop ((q+1)*G.aY t)) B:=by
 obtain⟨l,hl,e1,e2,e3⟩:=h.WE;subst e1 e2 e3;have hq:q<l.length:=by simpa using hq
 have hlen: ∀y∈l.map (·.2.1),y.length=G.aY t:=fun y hy=>by
  obtain⟨s,hs,rfl⟩:=List.mem_map.1 hy;exact(hl s hs).1
 refine⟨((l.take q).map (·.2.2)).flatten,l[q].2.2,((l.drop (q+1)).map (·.2.2)).flatten,?_,?_,?_⟩
 ·have e:l=l.take q++(l[q]::l.drop (q+1)):=by rw[←List.drop_eq_getElem_cons hq,List.take_append_drop]
  conv=>lhs;rw[e]
  rw[List.map_append,List.map_cons,List.flatten_append,List.flatten_cons]
 ·rw[BH _ hlen q (by simpa using hq)]
  simpa using (hl l[q] (List.getElem_mem hq)).2
 ·have:=dR.Hr (G:=G) (Z:=Z) (w:=w) (t:=t) (l:=l.drop (q+1)) fun s hs=>hl s (List.mem_of_mem_drop hs)
  rw[List.map_drop,List.map_drop]at this;rw[Fz _ hlen (q+1) (by rw[List.length_map];exact hq)]
  exact this
theorem JO (hs:fH G) (hd:jB G.own=true) {ti:TI} {T:TypeId} (tk:n_ P G T ti) {x:Operand} {i n z off m:Nat} {e:TypeId} {t:Ty} {xs:List (G.D t)} {Hq:Ob G}
  (h:Ad E o ti L i n z off e t xs m K=some r) (S:Sat E.N W w0 Z pl L a w) (hg:get L.objs i=some Hq) (hl:live Hq=true) (hnc: ∀ro ls,Hq≠ .cells ro ls)
  (hrep: ∀fp,j_ Z w pl L.nx fp i Hq→ ∃vs,w.ownsRow 0 e (G.aY t) (pl i) xs.length vs∧dR G Z w t (xs.drop m) (vs.drop (m*G.aY t)) fp)
  (hx:gB Z w pl L.nx (.jG i n z off:bD G) (a.eval x))
  (exe: ∀u,(Instr.loadAt T (a.eval x)).run P w= .ok u w→(execOp a.eval o).run P w= .ok (.value u) w) (hK:Then E W w0 K r next):o.rd P a w next:=by
 unfold Ad at h
 split at h
 ·rename_i hagg hz hoff hlen;have hz:=Nat.eq_of_beq_eq_true hz;have hoff:=Nat.eq_of_beq_eq_true hoff;rw[len_eq]at hlen;have hlen:=Nat.eq_of_beq_eq_true hlen;subst hz hoff
  split at h
  ·rename_i els tm ob nx hsv
   split at h
   ·rename_i ls' ob' nx' hmv
    split at h
    ·rename_i hmn;have M:Mem W w0 Z pl ob nx w:=S.mem;have hg:get ob i=some Hq:=hg;obtain⟨f,T0⟩:=M.tr;obtain⟨vs,o1,o2⟩:=hrep (f i) (T0.rep i _ hg);obtain⟨⟨hix,b,n',c,hb,hnn,hav⟩,_⟩:=hx;have hix:i<nx:=hix;have hn':n'=xs.length:=by
      rcases o1.2 with⟨e1,_⟩|⟨g,cap,cur,e1,_⟩
      ·rw[hb]at e1;cases e1
      ·rw[hb]at e1;injection e1
     subst hn';have hmul:(n+1)*G.aY t≤xs.length*G.aY t:=Nat.mul_le_mul_right _ hnn;rw[Nat.add_mul,Nat.one_mul]at hmul;have hvl:vs.length=xs.length*G.aY t:=o1.1;obtain⟨A,F,B,e1,c1,c2⟩:=o2.cut (q:=n-m) (by rw[List.length_drop];omega)
     have en:m*G.aY t+(n-m)*G.aY t=n*G.aY t:=by rw[←Nat.add_mul];congr 1;omega
     have en1:m*G.aY t+(n-m+1)*G.aY t=(n+1)*G.aY t:=by rw[←Nat.add_mul];congr 1;omega
     rw[List.drop_drop,List.getElem_drop,en]at c1;rw[List.drop_drop,List.drop_drop,en1]at c2;have exn:xs[m+(n-m)]'(by omega)=xs[n]:=by congr 1;omega
     rw[exn]at c1;rw[show m+(n-m+1)=n+1 by omega]at c2
     generalize hds:(vs.drop (n*G.aY t)).take (G.aY t)=ds at c1;have hdl:ds.length=G.aY t:=by rw[←hds,List.length_take,List.length_drop];omega
     rw[show xs.getD n (tK G t)=xs[n] from by simp[List.getD,hnn]]at hsv
     obtain⟨fV,ef,hlv⟩:=C_ hsv (show fD G Z w (⟨t,xs[n]⟩:TV G).t (⟨t,xs[n]⟩:TV G).x ds F from c1)
     subst ef;obtain⟨u,v1,v2,_⟩:=ku (w:=w) ti tk (b:=b) (off:=n*G.aY t+0) (cs:=ds) (fun j v hj=>by
      rw[←hds,List.getElem?_take]at hj
      split at hj
      ·rw[List.getElem?_drop]at hj;have:=o1.cells (g:=b) (by rw[hb];rfl) _ v hj
       have hadd:(⟨b,0,none⟩:Addr).add (n*G.aY t+j)=⟨b,n*G.aY t+0+j,none⟩:=by rw[Nat.add_zero];unfold Addr.add;split<;>simp_all
       rw[hadd]at this;exact this
      ·cases hj) (by rw[hdl,hlen])
     have hu:=v2 hagg;subst hu;have JJ:(A++(fV.flatten++B)).Nodup:=by rw[←e1];exact T0.nd i
     rw[List.nodup_append]at JJ;obtain⟨n1,n2,n3⟩:=JJ;rw[List.nodup_append]at n2;have ZN: ∀k,k∈fV.flatten→k∈f i:=fun k hk=>by rw[e1];exact List.mem_append_right _ (List.mem_append_left _ hk)
     have hBi: ∀k,k∈B→k∈f i:=fun k hk=>by rw[e1];exact List.mem_append_right _ (List.mem_append_right _ hk)
     have live': ∀o' b,get ((i,Ob.dead)::ob) o'=some b→live b=true→get ob o'=some b:=by
      intro o' b hgb hl;have hne':i≠o':=by intro ee;subst ee;rw[cu]at hgb;cases hgb;cases hl
      rwa [dP _ _ hne']at hgb
     have T1:=(T0.kill i).set i B (fun b hb=>by rw[cu]at hb;cases hb;trivial) n2.2.1 (fun k hk=> .inl (hBi k hk))
     let f1:Nat→List Nat:=fun n=>if n=i then B else f n
     have T1:eH W w0.heap.size Z pl ((i,.dead)::ob) nx w f1:=T1;have f1i:f1 i=B:=if_pos rfl;have f1m: ∀o' k,k∈f1 o'→k∈f o'∧(o'=i→k∈B):=fun o' k hm=>by
      have hm2:k∈(if o'=i then B else f o'):=hm
      by_cases eo:o'=i
      ·rw[if_pos eo]at hm2;exact⟨by rw[eo];exact hBi k hm2,fun _=>hm2⟩
      ·rw[if_neg eo]at hm2;exact⟨hm2,fun e=>absurd e eo⟩
     have T2:=T1.put i (.tk e t xs (n+1)) (by rw[f1i];exact⟨vs,o1,c2⟩) (fun _ k hk o' hm=>T0.root o' k i _ (f1m o' k hm).1 hg hl hk)
     have M2:Mem W w0 Z pl ((i,.tk e t xs (n+1))::(i,.dead)::ob) nx w:=(M.kill i hix).add i (.tk e t xs (n+1)) hix ⟨vs,o1⟩ (fun _ k hk=>by
      refine⟨?_,M.dU i _ k hg hl hk,fun o' b' ho' hg' hl' hk'=>ho' (M.sep o' i b' _ k (live' o' b' hg' hl') hl' hg hl hk' hk)⟩
      rcases M.own i _ k hg hl hk with hh|hh
      ·exact .inl hh
      ·cases Hq with
       |cells ro ls=>exact absurd rfl (hnc ro ls)
       |_=>exact .inr hh) ⟨f1,T2⟩
     have eqo: ∀m,get ((i,Ob.tk e t xs (n+1))::ob) m=get ((i,Ob.tk e t xs (n+1))::(i,.dead)::ob) m:=fun m=>by
      simp only[bn]
      split
      ·rfl
      ·rfl
     have M3:Mem W w0 Z pl ((i,.tk e t xs (n+1))::ob) nx w:=M2.congr eqo;have T3:eH W w0.heap.size Z pl ((i,.tk e t xs (n+1))::ob) nx w f1:=T2.congr eqo;have D3:zi W w0.heap.size Z pl ((i,.tk e t xs (n+1))::ob) w f1 fV.flatten:=by
      refine⟨n2.1,fun k hk=>⟨fun o' hm=> ?_,fun o' b' hg' hl' hb'=> ?_,T0.own i k (ZN k hk),T0.dU i k (ZN k hk),T0.lt i k (ZN k hk)⟩⟩
      ·obtain⟨h1,h2⟩:=f1m o' k hm;have:=T0.sep o' i k h1 (ZN k hk);exact n2.2.2 k hk k (h2 this) rfl
      ·rw[bn]at hg'
       split at hg'
       ·rename_i eo;subst eo;exact T0.root i k i _ (ZN k hk) hg hl hb'
       ·exact T0.root i k o' b' (ZN k hk) hg' hl' hb'
     obtain⟨dI,X,M',hls⟩:=aae hd hmv M3 T3 D3 hlv;refine jk (exe (.agg ds.toArray) ?_) h (S.at (L':=⟨tm,ob',nx'⟩) X M' rfl) ⟨ds,rfl,hls⟩ hK;rw[hav];exact v1
    ·cases h
   ·cases h
  ·cases h
 ·cases h
theorem aaf {q nx nx':Nat}: ∀{ls ls':List (bD G)} {cs:List Value} {fV:List (List Nat)} {j:Nat},Wl q nx j ls=some ls'→qR Z w ls cs fV→(∀i v,cs[i]? =some v→j+i=q→gB Z w pl nx' (.kR nx:bD G) v)→dS Z w pl nx' ls' cs:=by
 intro ls
 induction ls with
 |nil=>
  intro ls' cs fV j h hl _;simp only[Wl,Option.some.injEq]at h;subst h;exact hl.1
 |cons l ls ih=>
  intro ls' cs fV j h hl hq;obtain⟨v,cs',fp,rW,e1,e2,hv,hl⟩:=hl;subst e1 e2;have hq': ∀i u,cs'[i]? =some u→j+1+i=q→gB Z w pl nx' (.kR nx:bD G) u:=fun i u hi he=>hq (i+1) u (by simpa using hi) (by omega)
  have Hu: ∀(t:Ty) (x:G.D t),l= .val t x→pV t=true→(match Wl q nx (j+1) ls with|some ls'=>some (.val t x::ls')|none=>none)=some ls'→dS Z w pl nx' ls' (v::cs'):=by
   intro t x hlx hs h
   split at h
   ·rename_i l1 hm;injection h with h
    subst h;exact⟨v,cs',rfl,by rw[←hlx];exact Fv hlx hs hv,ih hm hl hq'⟩
   ·cases h
  cases l with
  |val t x=>
   cases t with
   |int k=>exact Hu _ x rfl rfl h
   |bool=>exact Hu _ x rfl rfl h
   |str=>exact Hu _ x rfl rfl h
   |sl e t=>
    simp only[Wl]at h
    split at h
    ·rename_i l1 hm;injection h with h
     subst h;refine⟨v,cs',rfl,?_,ih hm hl hq'⟩
     split
     ·rename_i hb;exact hq 0 v rfl (Nat.eq_of_beq_eq_true hb)
     ·exact⟨trivial,hv.2⟩
    ·cases h
   |_=>cases h
  |_=>cases h
theorem JP (hs:fH G) (hd:jB G.own=true) {ti:TI} {T:TypeId} (tk:n_ P G T ti) {x:Operand} {i n z off:Nat} {e:TypeId} {t:Ty} {xs:List (G.D t)}
  (h:Ae E o ti L i n z off e t xs K=some r) (S:Sat E.N W w0 Z pl L a w) (hg:get L.objs i=some (.tr e t xs)) (hx:gB Z w pl L.nx (.jG i n z off:bD G) (a.eval x))
  (exe: ∀u,(Instr.loadAt T (a.eval x)).run P w= .ok u w→(execOp a.eval o).run P w= .ok (.value u) w) (hK:Then E W w0 K r next):o.rd P a w next:=by
 unfold Ae at h
 split at h
 ·rename_i hagg hz hoff hlen;have hz:=Nat.eq_of_beq_eq_true hz;have hoff:=Nat.eq_of_beq_eq_true hoff;rw[len_eq]at hlen;have hlen:=Nat.eq_of_beq_eq_true hlen;subst hz hoff
  split at h
  ·rename_i els tm ob nx hsv
   split at h
   ·rename_i q _
    split at h
    ·rename_i e' t' ys ls' hl hjk;have M:Mem W w0 Z pl ob nx w:=S.mem;have hg:get ob i=some (.tr e t xs):=hg;obtain⟨f,T0⟩:=M.tr;obtain⟨vs,o1,o2⟩:=T0.rep i _ hg;obtain⟨⟨hix,b,n',c,hb,hnn,hav⟩,_⟩:=hx;have hn':n'=xs.length:=by
      rcases o1.2 with⟨e1,_⟩|⟨g,cap,cur,e1,_⟩
      ·rw[hb]at e1;cases e1
      ·rw[hb]at e1;injection e1
     subst hn';obtain⟨v,A,B,vZ,k6,hvv,q3,q4,hole,Um⟩:=Pv hs hsv o2 hnn hl;have hmd:=mY hd e';obtain⟨hdr,vs2,fq,hw,r1,r2,r3⟩:=q3.Ul (by rw[hmd];intro h;cases h)
     have r2:=r2.1 hmd;have hpn:upd pl nx hdr nx=hdr:=upd_same pl nx hdr;have hmul:(n+1)*G.aY t≤xs.length*G.aY t:=Nat.mul_le_mul_right _ hnn;rw[Nat.add_mul,Nat.one_mul]at hmul;have hvl:vs.length=xs.length*G.aY t:=o1.1;obtain⟨_,F,_,_,c1,_⟩:=o2.cut hnn;generalize hds:(vs.drop (n*G.aY t)).take (G.aY t)=ds at c1;have hdl:ds.length=G.aY t:=by rw[←hds,List.length_take,List.length_drop];omega
     rw[show xs.getD n (tK G t)=xs[n] from by simp[List.getD,hnn]]at hsv
     obtain⟨fV,ef,hlv⟩:=C_ hsv (show fD G Z w (⟨t,xs[n]⟩:TV G).t (⟨t,xs[n]⟩:TV G).x ds F from c1)
     obtain⟨u,v1,v2,_⟩:=ku (w:=w) ti tk (b:=b) (off:=n*G.aY t+0) (cs:=ds) (fun j v hj=>by
      rw[←hds,List.getElem?_take]at hj
      split at hj
      ·rw[List.getElem?_drop]at hj;have:=o1.cells (g:=b) (by rw[hb];rfl) _ v hj
       have hadd:(⟨b,0,none⟩:Addr).add (n*G.aY t+j)=⟨b,n*G.aY t+0+j,none⟩:=by rw[Nat.add_zero];unfold Addr.add;split<;>simp_all
       rw[hadd]at this;exact this
      ·cases hj) (by rw[hdl,hlen])
     have hu:=v2 hagg;subst hu;have fin: ∀tV:Ob G,live tV=true→(∀k,(w0.heap.size≤k∨ ∀j,W k j)→Own w0.heap.size W tV k)→nT Z w (upd pl nx hdr) (nx+1) nx tV→j_ Z w (upd pl nx hdr) (nx+1) fq nx tV→out E o (.sv (.agg ls')) ⟨tm,(i,.fo e t xs n q nx)::(nx,tV)::ob,nx+1⟩ K=some r→o.rd P a w next:=by
      intro tV Z9 Pq Na YN h;obtain⟨X,M6⟩:=Po M T0 hg o1 hnn Um hvv hole k6 hw r3 tV Z9 Pq Na YN;refine jk (exe (.agg ds.toArray) ?_) h (S.at (L':=⟨tm,_,nx+1⟩) X M6 rfl) ⟨ds,rfl,aaf hjk hlv fun j u hj hjq=> ?_⟩ hK
      ·rw[hav];exact v1
      ·rw[←hds,List.getElem?_take]at hj
       split at hj
       ·rw[List.getElem?_drop]at hj;have e2:j=q:=by omega
        subst e2;rw[hvv]at hj;injection hj with hj
        subst hj;exact⟨⟨Nat.lt_succ_self _,by rw[hpn];exact hw.1⟩,q4⟩
       ·cases hj
     split at h
     ·rename_i hf;exact fin (.arr e' t' ys) rfl (fun k h=>h) ⟨vs2,by rw[hpn];exact r1,r2.row (fun _ _ h=>h) fun k hk i=>by
       have hnil: ∀k,k∈fq→False:=flat_nil hf r2;exact(hnil k hk).elim⟩ trivial h
     ·exact fin (.tr e' t' ys) rfl (fun k h=>h) ⟨vs2,by rw[hpn];exact r1⟩ ⟨vs2,by rw[hpn];exact r1,r2⟩ h
    ·cases h
   ·cases h
  ·cases h
 ·cases h
end
section
open Go Go.RowKit
variable {G:jf} {R:Type} {P:Program} {W:fA} {w0 w w':World} {Z Z':Nat→Nat→Prop} {pl dI:Nat→Value} {N:Nat}
variable {E:Env G R} {o:Oper} {L:St G} {K:St G→Option R} {r:R} {a:Act} {next:Act→World→Prop} {Q:Exit→Act→World→Prop}
theorem Dk {L L':St G} (h:L'.tmps=L.tmps) {x:Operand}:dB L' x=dB L x:=by
 cases x with
 |tmp t=>simp only[dB,h]
 |const v=>cases v<;>rfl
 |func f=>rfl
 |global g=>rfl
theorem Px (hs:fH G) (ht:fJ P G) {T:TypeId} {x:Operand} (ho:o.op= .load T x) (h:bJ E o L K=some r) (S:Sat E.N W w0 Z pl L a w) (hK:Then E W w0 K r next):o.rd P a w next:=by
 simp only[bJ,ho]at h
 split at h
 ·rename_i ti hti;have tk:=ht T ti hti;have exe: ∀u,(Instr.loadAt T (a.eval x)).run P w= .ok u w→(execOp a.eval o).run P w= .ok (.value u) w:=by
   intro u hu;unfold execOp;rw[ho];exact jE _ hu
  split at h
  ·
   rename_i i off hx
   split at h
   ·rename_i ro ls hg
    split at h
    ·rename_i hle
     split at h
     ·rename_i s hsl;obtain⟨⟨_,b,hb,hv⟩,_⟩:=aK S hx;obtain⟨b',T',cs,k1,k2,k3⟩:=S.mem.ob i _ hg;rw[hb]at k1;injection k1 with k1
      injection k1 with k1
      injection k1 with k1
      subst k1;rw[len_eq]at hsl hle;rw[len_eq]at hle;have hle:=jV.1 hle;have hlen:=k3.length;obtain⟨u,u1,u2,u3,_⟩:=xW hsl ((k3.drop off).take ti.leaves.length);obtain⟨u',v1,v2,v3⟩:=ku (w:=w) ti tk (b:=b) (off:=off) (cs:=(cs.drop off).take ti.leaves.length) (fun j v hj=>by
       rw[List.getElem?_take]at hj
       split at hj
       ·rw[List.getElem?_drop]at hj;exact Fg k2 _ _ hj
       ·cases hj) (by rw[List.length_take,List.length_drop];omega)
      have:u'=u:=by
       cases hagg:ti.agg with
       |true=>rw[v2 hagg,u2 hagg]
       |false=>have:=(v3 hagg).symm.trans (u3 hagg);injection this
      subst this;refine jk (exe _ ?_) h S u1 hK;rw[hv];exact v1
     ·cases h
    ·cases h
   ·cases h
  ·
   rename_i t v hx
   split at h
   ·rename_i t' hty
    split at h
    ·rename_i hb
     split at h
     ·rename_i s hsv;have e:=Ty.eq_of_beq hb;subst e;obtain⟨⟨b,off,cs,k1,k2,k3,k4⟩,_⟩:=aK S hx;obtain⟨l1,l2⟩:=tk.lv t' hty;obtain⟨u,u1,u2,u3,u4⟩:=BD (pl:=pl) (nx:=L.nx) hsv k4;obtain⟨u',v1,v2,v3⟩:=ku (w:=w) ti tk (b:=b) (off:=off) (cs:=cs) (fun j v hj=>(k3 j v hj).2) (by rw[k2,l1])
      have:u'=u:=by
       cases hagg:ti.agg with
       |true=>
        rw[v2 hagg];rw[hagg]at l2;cases t' with
        |st n=>rw[u3 n rfl]
        |_=>cases l2
       |false=>
        rw[hagg]at l2;have:=v3 hagg;have h4:=u4 (fun n e=>by have e':t'= .st n:=e;rw[e']at l2;cases l2)
        rw[this]at h4;injection h4
      subst this;refine jk (exe _ ?_) h S u1 hK;rw[k1];exact v1
     ·cases h
    ·cases h
   ·cases h
  ·
   rename_i i n z off hx
   split at h
   ·rename_i e t xs hg
    split at h
    ·rename_i el hz hsv;have hz:=Nat.eq_of_beq_eq_true hz
     split at h
     ·rename_i hle;rw[len_eq,len_eq]at hle;have hle:=jV.1 hle
      split at h
      ·rename_i s hsl;rw[len_eq]at hsl;obtain⟨⟨_,b,n',c,hb,hn,hv⟩,_⟩:=aK S hx;obtain⟨vs,o1,o2⟩:=S.mem.ob i _ hg;have hn':n'=xs.length:=by
        rcases o1.2 with⟨e1,_⟩|⟨g,cap,cur,e1,_⟩
        ·rw[hb]at e1;cases e1
        ·rw[hb]at e1;injection e1
       subst hn';have hrow:=o2.at n hn;have hvl:=o2.length;rw[show xs.getD n (tK G t)=xs[n] from by simp[List.getD,hn]]at hsv
       obtain⟨u0,q1,q2,_,_⟩:=BD (pl:=pl) (nx:=L.nx) hsv hrow;have k3:=q1.cells;rw[q2]at k3;have hcl:=k3.length;obtain⟨u,u1,u2,u3,_⟩:=xW hsl ((k3.drop off).take ti.leaves.length);obtain⟨u',v1,v2,v3⟩:=ku (w:=w) ti tk (b:=b) (off:=n*z+off) (cs:=((((vs.drop (n*G.aY t)).take (G.aY t))).drop off).take ti.leaves.length) (fun j v hj=>by
        rw[List.getElem?_take]at hj
        split at hj
        ·rw[List.getElem?_drop,List.getElem?_take]at hj
         split at hj
         ·rw[List.getElem?_drop]at hj;have:=o1.cells (g:=b) (by rw[hb];rfl) _ v hj
          have hadd:(⟨b,0,none⟩:Addr).add (n*G.aY t+(off+j))=⟨b,n*z+off+j,none⟩:=by rw[hz,←Nat.add_assoc];unfold Addr.add;split<;>simp_all
          rw[hadd]at this;exact this
         ·cases hj
        ·cases hj) (by rw[List.length_take,List.length_drop];omega)
       have:u'=u:=by
        cases hagg:ti.agg with
        |true=>rw[v2 hagg,u2 hagg]
        |false=>have:=(v3 hagg).symm.trans (u3 hagg);injection this
       subst this;refine jk (exe _ ?_) h S u1 hK;rw[hv];exact v1
      ·cases h
     ·cases h
    ·cases h
   ·rename_i e t xs hg
    split at h
    ·split at h
     ·rename_i hd
      split at h
      ·exact JP hs hd tk h S hg (aK S hx) exe hK
      ·exact JO hs hd tk h S hg rfl (fun _ _ e=>by cases e) (fun fp hr=>by obtain⟨vs,a,b⟩:=hr;exact⟨vs,a,by rw[Nat.zero_mul];exact b⟩) (aK S hx) exe hK
     ·exact JM tk h S hg rfl (fun fp hr=>by obtain⟨vs,a,b⟩:=hr;exact⟨vs,a,b,.inl ⟨rfl,rfl⟩⟩) (aK S hx) exe hK
    ·exact JK hs tk h S hg (aK S hx) exe hK
   ·rename_i hg
    split at h
    ·rename_i hd;exact JO hs hd tk h S hg rfl (fun _ _ e=>by cases e) (fun fp hr=>hr) (aK S hx) exe hK
    ·cases h
   ·rename_i hg;exact JM tk h S hg rfl (fun fp hr=>by obtain⟨vs,o1,o2,h1,h2,h3,h4,h5,h6⟩:=hr;exact⟨vs,o1,o2,.inr ⟨h3,h1,h5⟩⟩) (aK S hx) exe hK
   ·split at h
    ·rename_i e t xs hg;have hc:=qY L i
     split at h
     ·split at h
      ·rename_i hd _;exact JP hs hd tk h (S.close i) hg (by rw[hc.2];exact aK S hx) exe hK
      ·cases h
     ·exact JK hs tk h (S.close i) hg (by rw[hc.2];exact aK S hx) exe hK
    ·cases h
   ·cases h
  ·cases h
 ·cases h
theorem Ur (hs:fH G) (ht:fJ P G) {T:TypeId} {x v:Operand} (ho:o.op= .store T x v) (h:bJ E o L K=some r) (S:Sat E.N W w0 Z pl L a w) (hK:Then E W w0 K r next):o.wp P a w next Q:=by
 simp only[bJ,ho]at h
 split at h
 ·rename_i ti hti;have tk:=ht T ti hti;have exe: ∀w1,(Instr.storeAt T (a.eval x) (a.eval v)).run P w= .ok () w1→(execOp a.eval o).run P w= .ok .skip w1:=by
   intro w1 hu;unfold execOp;rw[ho];exact Ue _ hu
  split at h
  ·rename_i s hsv;have hv:=(aK S hsv).cells
   split at h
   ·rename_i hn;rw[len_eq,len_eq]at hn;have hn:=Nat.eq_of_beq_eq_true hn;have hvl:=hv.length
    split at h
    ·rename_i i off hx;cases L with
     |mk tm ob nx=>
     simp only at h
     split at h
     ·rename_i ro ls hg
      split at h
      ·rename_i hle hro;rw[len_eq,len_eq]at hle;rw[len_eq]at hro;have hle:=jV.1 hle;obtain⟨⟨_,b,hb,hav⟩,_⟩:=aK S hx;obtain⟨b',T',cs,k1,k2,k3⟩:=S.mem.ob i _ hg;rw[hb]at k1;injection k1 with k1
       injection k1 with k1
       injection k1 with k1
       subst k1;have hcl:=k3.length;have hrun:=nD ti tk (off:=off) k2 (u:=a.eval v) hv.one (by rw[hvl,hn]) (by omega)
       have S':=S.write (w':=w.setRow b (RX.setAt cs off (a.eval v).cells.toList).toArray) (ob':= .cells ro (RX.setAt ls off s.ls)) hg rfl (by rw[hb];rfl) (fun k hk=>setRow_other w b k _ hk)
        (CY S hg rfl (by rw[hb];rfl) k2 (bW _ _ _) (fun ro' ls' e j hj=>by
         injection e with e1 e2
         subst e1 e2;rw[gZ cs off _ j (by omega)]
         split
         ·rename_i hjj;have a1:j<ls.length:=by omega
          have a2:j-off<ti.leaves.length:=by omega
          have a3:=CX hro (j-off) a2;rw[show off+(j-off)=j by omega]at a3
          exact(hj a1 a3).elim
         ·rfl))
        (fun base h=>by
         rcases h with h|h
         ·exact .inl h
         ·exact .inr (fun j hj hr=>h j (by rw[bW]at hj;exact hj) (by rw[bW]at hr;exact hr)))
        (fun X=>⟨b,T',_,hb,setRow_heap w b _ _ _ _ k2,((k3.mono X).setAt (hv.mono X) (by rw[hn];exact hle))⟩)
       refine o7 (exe _ ?_) (out_ok h S' (show eU _ _ _ _ DV.und undef from rfl) hK)
       rw[hav];exact hrun
      ·cases h
     ·cases h
    ·
     rename_i i n z off hx
     split at h
     ·rename_i e t xs hg
      split at h
      ·rename_i el hz Ho;have hz:=Nat.eq_of_beq_eq_true hz
       split at h
       ·rename_i hle;rw[len_eq,len_eq]at hle;have hle:=jV.1 hle
        split at h
        ·rename_i y tm ob nx YM
         split at h
         ·rename_i y' hy
          split at h
          ·rename_i e2 t2 x2 hg2;obtain⟨⟨_,b,n',c,hb,hnn,hav⟩,_⟩:=aK S hx;obtain⟨vs,o1,o2⟩:=S.mem.ob i _ hg;have hown:=o1;rcases o1.2 with⟨e1,_⟩|⟨g,cap,cur,e1,e0,e3,e4,e5,e6,e7⟩
           ·rw[hb]at e1;cases e1
           rw[hb]at e1;injection e1 with e1 e1' MZ
           injection e1 with e1
           injection e1 with e1
           subst e1 e1' MZ;have hrow:=o2.at n hnn;have JI:=o2.length;rw[show xs.getD n (tK G t)=xs[n] from by simp[List.getD,hnn]]at Ho
           obtain⟨u0,q1,q2,q3,q4⟩:=BD (pl:=pl) (nx:=L.nx) Ho hrow;have hel:=q1.cells;rw[q2]at hel;have Us:=hel.length;have hzl:((vs.drop (n*G.aY t)).take (G.aY t)).length=G.aY t:=hrow.length hs;have aag: ∃u2,lU Z w pl L.nx (match el with| .one _=>s| .agg ls=> .agg (RX.setAt ls off s.ls)) u2∧u2.cells.toList=RX.setAt ((vs.drop (n*G.aY t)).take (G.aY t)) off (a.eval v).cells.toList:=by
            cases el with
            |one l=>
             have hone:(SV.one l:SV G).ls.length=1:=rfl;rw[hone]at Us hle;refine⟨a.eval v,aK S hsv,?_⟩;obtain⟨x0,hx0⟩: ∃x0,(vs.drop (n*G.aY t)).take (G.aY t)= [x0]:=by
              cases hh:(vs.drop (n*G.aY t)).take (G.aY t) with
              |nil=>rw[hh]at Us;cases Us
              |cons x0 r=>rw[hh]at Us;cases r with|nil=>exact⟨x0,rfl⟩|cons _ _=>simp at Us
             rw[hx0];cases hc:(a.eval v).cells.toList with
             |nil=>
              rw[hc]at hvl;have:=aK S hsv;cases s with
              |one l'=>rw[cells_one this.2]at hc;cases hc
              |agg ls'=>
               exfalso
               cases t with
               |st k=>have:=q3 k rfl;rw[this]at q1;exact absurd q1.2 (by simp[Value.oneCell'])
               |_=>simp[fG]at YM
             |cons u us=>
              rw[hc]at hvl;have h1:us= []∧off=0:=by
               have:(u::us).length=ti.leaves.length:=by rw[hvl,hn]
               simp only[List.length_cons]at this;exact⟨List.eq_nil_of_length_eq_zero (by omega),by omega⟩
              obtain⟨rfl,rfl⟩:=h1
              rfl
            |agg ls=>
             obtain⟨cs,rfl,hq⟩:=q1;have:cs=(vs.drop (n*G.aY t)).take (G.aY t):=by simpa [Value.cells]using q2
             subst this;exact⟨.agg (RX.setAt ((vs.drop (n*G.aY t)).take (G.aY t)) off (a.eval v).cells.toList).toArray,⟨_,rfl,hq.setAt hv (by rw[hn];exact hle)⟩,rfl⟩
           obtain⟨u2,hu2,abL⟩:=aag;obtain⟨Z1,T1,ty,R1⟩:=xQ hs YM S.mem hu2;have S1:=T1.sat S;have hg1:get (⟨tm,ob,nx⟩:St G).objs i=some (.arr e t xs):=by
            have:=E8 YM i _ hg2 rfl;rw[hg]at this;rw[this];exact hg2
           have YF:=bP.cast hy R1;rw[abL]at YF;have zk:cur.toList.toArray=cur:=by simp
           have hmul:(n+1)*G.aY t≤xs.length*G.aY t:=Nat.mul_le_mul_right _ hnn;rw[Nat.add_mul,Nat.one_mul]at hmul;have hcs:cur.toList.length=c*G.aY t:=by rw[←e6];exact Array.length_toList
           have hsz:xs.length*G.aY t≤cur.toList.length:=by rw[hcs];exact Nat.mul_le_mul_right _ e4
           subst hz;have hoff:off+(a.eval v).cells.toList.length≤G.aY t:=by rw[hvl,hn];omega
           have hrun:=nD ti tk (off:=n*G.aY t+off) (cs:=cur.toList) (by rw[zk];exact e3) (u:=a.eval v) hv.one (by rw[hvl,hn]) (by omega)
           have S2:=S1.write (w':=w.setRow b (RX.setAt cur.toList (n*G.aY t+off) (a.eval v).cells.toList).toArray) (ob':= .arr e t (xs.set n y')) hg1 rfl (by rw[hb];rfl) (fun k hk=>setRow_other w b k _ hk)
            (CY S1 hg1 rfl (by rw[hb];rfl) (by rw[zk];exact e3) (bW _ _ _) (fun ro ls he=>by cases he)) (fun base hh=>hh)
            (fun X=>by
             refine⟨RX.setAt vs (n*G.aY t+off) (a.eval v).cells.toList,?_,?_⟩
             ·rw[hb];refine⟨by rw[bW,List.length_set,JI],.inr ⟨b,c,(RX.setAt cur.toList (n*G.aY t+off) (a.eval v).cells.toList).toArray,by rw[List.length_set],Nat.zero_le _,setRow_heap w b _ _ _ _ e3,by rw[List.length_set];exact e4,e5,?_,?_⟩⟩
              ·rw[List.size_toArray,bW,hcs]
              ·show(RX.setAt cur.toList (n*G.aY t+off) (a.eval v).cells.toList).take _=_;rw[List.length_set,rV _ _ _ _ (by omega) hsz,e7]
             ·rw[←C9 vs _ (n*G.aY t) (G.aY t) off (by omega) hoff]
              exact(o2.mono (fun b i hh=>X.hZ b i (T1.ext.hZ b i hh)) (fun b i hh=>X.hw b i (T1.ext.hZ b i hh))).set n hnn (by rw[bW,hzl]) (YF.mono X.hZ X.hw))
           refine o7 (exe _ ?_) (out_ok h S2 (show eU _ _ _ _ DV.und undef from rfl) hK)
           rw[hav];exact hrun
          ·cases h
         ·cases h
        ·cases h
       ·cases h
      ·cases h
     ·rename_i e t xs hg;exact Fq hs tk hsv hn h S hg (aK S hx) exe hK
     ·rename_i e0 t0 xs0 i0 Bc o0 hg0
      split at h
      ·rename_i e t xs hg;have hc:=qY L i;refine Fq hs tk (L:=jR L i) (by rw[←hsv];exact Dk hc.1) hn h (S.close i) hg (by rw[hc.2];exact aK S hx) exe hK
      ·exact QJ tk hsv hn h S hg0 (aK S hx) exe hK
     ·rename_i hg;exact QK tk hsv hn h S hg (aK S hx) exe hK
     ·cases h
    ·cases h
   ·cases h
  ·cases h
 ·cases h
theorem Ut {t:Ty} {x:G.D t} {v:Value} (h:bP G Z w (.po t) (some x) [v]): ∃b o cs,v= .pointer (some ⟨b,o,none⟩)∧cs.length=G.aY t∧(∀(j:Nat) (u:Value),cs[j]? =some u→Z b (o+j)∧w.cell? ⟨b,o+j,none⟩=some u)∧bP G Z w t x cs:=by
 generalize hv: [v]=vs at h;generalize hy:(some x:G.D (.po t))=y at h;cases h with
 |pn=>cases hy
 |ps _ x' b o cs hl hz h=>
  injection hv with hv
  injection hy with hy
  subst hy;exact⟨b,o,cs,hv,hl,hz,h⟩
theorem YP {t:Ty} {v:Value} (h:bP G Z w (.po t) none [v]):v= .pointer none:=by
 generalize hv: [v]=vs at h;generalize hy:(none:G.D (.po t))=y at h;cases h with
 |pn=>injection hv
 |ps _ x' b o cs hl hz h=>cases hy
theorem Ag {x:Operand} (ho:o.op= .nilCheck x) (h:bJ E o L K=some r) (S:Sat E.N W w0 Z pl L a w) (hK:Then E W w0 K r next):o.pu P a w next:=by
 simp only[bJ,ho]at h
 split at h
 ·rename_i i off hx;have:=aK S hx;obtain⟨⟨_,b,_,hv⟩,_⟩:=this;exact dW (fun w'=>by unfold execOp;rw[ho];simp only[hv];rfl) h S (show eU _ _ _ _ (DV.sv (SV.one (bD.ptr i off))) (a.eval x) from aK S hx|>fun q=>by exact q) hK|>fun q=>by first|exact q|(rw[hv]at q;exact q)
 ·rename_i t v hx;have q:=aK S hx;obtain⟨⟨b,off,cs,hv,_⟩,_⟩:=q;have q:=aK S hx;exact dW (u:=a.eval x) (fun w'=>by unfold execOp;rw[ho];simp only[hv];rfl) h S q hK
 ·rename_i i n z off hx;have q:=aK S hx;obtain⟨⟨_,b,n',c,_,_,hv⟩,_⟩:=q;have q:=aK S hx;exact dW (u:=a.eval x) (fun w'=>by unfold execOp;rw[ho];simp only[hv];rfl) h S q hK
 ·rename_i f caps hx;have q:=aK S hx;obtain⟨⟨_,hv⟩,_⟩:=q;have q:=aK S hx;exact dW (u:=a.eval x) (fun w'=>by unfold execOp;rw[ho];simp only[hv];rfl) h S q hK
 ·rename_i t y hx;have q:=aK S hx;have h:(show Option (G.D t) from y).bind (fun y=>out E o (.sv (.one (.oU t y))) L K)=some r:=h
  obtain⟨z,hz,h⟩:=Option.bind_eq_some_iff.1 h;have q1:bP G Z w (.po t) (show Option (G.D t) from y) [a.eval x]:=q.1
  rw[hz]at q1;obtain⟨b,off,cs,hv,hl,hc,hr⟩:=Ut q1;exact dW (u:=a.eval x) (fun w'=>by unfold execOp;rw[ho];simp only[hv];rfl) h S (show gB _ _ _ _ _ _ from⟨⟨b,off,cs,hv,hl,hc,hr⟩,q.2⟩) hK
 ·cases h
theorem aah {k k':IntKind} (h:Nat.beq (kn k) (kn k')=true):k=k':=TE (Nat.eq_of_beq_eq_true h)
theorem vC {nx:Nat} {k:IntKind} {x:Int} {v:Value} (h:gB Z w pl nx (bD.val (G:=G) (.int k) x) v):v= .int k x:=by
 have h1:bP G Z w (.int k) x [v]:=h.1;cases h1 with|int=>rfl
theorem oD {nx:Nat} {x:ByteArray} {v:Value} (h:gB Z w pl nx (bD.val (G:=G) .str x) v):v= .string x:=by
 have h1:bP G Z w .str x [v]:=h.1;cases h1 with|str=>rfl
theorem Cb {nx:Nat} {x:Bool} {v:Value} (h:gB Z w pl nx (bD.val (G:=G) .bool x) v):v= .bool x:=by
 have h1:bP G Z w .bool x [v]:=h.1;cases h1 with|bool=>rfl
theorem jH {nx:Nat} (k:IntKind) (x:Int):gB Z w pl nx (bD.val (G:=G) (.int k) x) (.int k x):=⟨.int k x,rfl⟩
theorem xX {nx:Nat} (x:ByteArray):gB Z w pl nx (bD.val (G:=G) .str x) (.string x):=⟨.str x,rfl⟩
theorem gz {nx:Nat} (p:Prop) (d:Decidable p):gB Z w pl nx (bD.prop (G:=G) p d) (.bool (@decide p d)):=⟨rfl,rfl⟩
theorem Py {nx:Nat} {l:bD G} {b:Bool} (h:Yt l=some b) {v:Value} (hv:gB Z w pl nx l v):v= .bool b:=by
 cases l with
 |kb b'=>injection h with h;subst h;exact hv.1
 |prop p d=>injection h with h;subst h;exact hv.1
 |val t x=>
  cases t with
  |bool=>injection h with h;subst h;exact Cb hv
  |_=>cases h
 |_=>cases h
theorem JQ {op:BinOp} {t:TypeId} {x y:Operand} {u v:Value} (h1:u.oneCell'=true) (h2:u≠ .nilIface):(eqGuard op t x y u v).run P w= .ok () w:=by
 cases op<;>cases u<;>first|rfl|(exact absurd rfl h2)|cases h1
theorem Pz (x y:List UInt8):(x==y)=decide (x=y):=Bool.eq_iff_iff.2 (by simp)
theorem Hw {op:BinOp} {t t':TypeId} {x y:Operand} {v:Value} (ho:o.op= .binOp op t x y t') (h1:(a.eval x).oneCell'=true) (h2:a.eval x≠ .nilIface) (h: ∀w',(binOp op t (a.eval x) (a.eval y)).run P w'= .ok v w'): ∀w',(execOp a.eval o).run P w'= .ok (.value v) w':=by
 intro w';unfold execOp;rw[ho];refine jE _ ?_;rw[Sem.run_bind,JQ h1 h2];exact h w'
theorem WG {nx:Nat} {op:BinOp} {k:IntKind} {x y:Int} {Kl:bD G→Option R} (h:MH op k x y Kl=some r) (t:TypeId): ∃l v,Kl l=some r∧gB Z w pl nx l v∧ ∀w',(binOp op t (.int k x) (.int k y)).run P w'= .ok v w':=by
 unfold MH at h;cases op with
 |add=>exact⟨_,_,h,jH k _,fun w'=>by simp[binOp,Op.intArith]⟩
 |sub=>exact⟨_,_,h,jH k _,fun w'=>by simp[binOp,Op.intArith]⟩
 |mul=>exact⟨_,_,h,jH k _,fun w'=>by simp[binOp,Op.intArith]⟩
 |quo=>
  simp only at h
  split at h
  ·cases h
  ·rename_i hy;exact⟨_,_,h,jH k _,fun w'=>by simp[binOp,Op.intDiv,hy]⟩
 |rem=>
  simp only at h
  split at h
  ·cases h
  ·rename_i hy;exact⟨_,_,h,jH k _,fun w'=>by simp[binOp,Op.intDiv,hy]⟩
 |xor=>exact⟨_,_,h,jH k _,fun w'=>by simp[binOp,Op.intBits]⟩
 |and=>exact⟨_,_,h,jH k _,fun w'=>by simp[binOp,Op.intBits]⟩
 |or=>exact⟨_,_,h,jH k _,fun w'=>by simp[binOp,Op.intBits]⟩
 |eql=>exact⟨_,_,h,gz _ _,fun w'=>by simp[binOp,Op.intCmp];rfl⟩
 |neq=>exact⟨_,_,h,gz _ _,fun w'=>by simp[binOp,Op.intCmp];rfl⟩
 |lss=>exact⟨_,_,h,gz _ _,fun w'=>by simp[binOp,Op.intCmp]⟩
 |leq=>exact⟨_,_,h,gz _ _,fun w'=>by simp[binOp,Op.intCmp]⟩
 |gtr=>exact⟨_,_,h,gz _ _,fun w'=>by simp[binOp,Op.intCmp]⟩
 |geq=>exact⟨_,_,h,gz _ _,fun w'=>by simp[binOp,Op.intCmp]⟩
 |shl=>cases h
 |shr=>cases h
 |andNot=>cases h
theorem WH {nx:Nat} {op:BinOp} {x y:ByteArray} {Kl:bD G→Option R} (h:MJ op x y Kl=some r) (t:TypeId): ∃l v,Kl l=some r∧gB Z w pl nx l v∧ ∀w',(binOp op t (.string x) (.string y)).run P w'= .ok v w':=by
 unfold MJ at h;cases op with
 |add=>
  simp only at h
  split at h
  ·rename_i hsz;refine⟨_,_,h,xX _,fun w'=> ?_⟩
   have: ¬((x.size+y.size:Nat):Int)>IntKind.i64.max:=by
    have:IntKind.i64.max=9223372036854775807:=by decide
    rw[this];omega
   simp only[binOp,Op.stringOp];rw[if_neg this]
   rfl
  ·cases h
 |eql=>exact⟨_,_,h,gz _ _,fun w'=>by simp only[binOp,Op.stringOp,Pz];rfl⟩
 |neq=>
  refine⟨_,_,h,gz _ _,fun w'=> ?_⟩
  simp only[binOp,Op.stringOp,Pz,Sem.run_pure]
  congr 2
  by_cases e:x.toList=y.toList<;>simp[e]
 |lss=>exact⟨_,_,h,gz _ _,fun w'=>by simp only[binOp,Op.stringOp,Sem.run_pure];unfold strLt;cases Op.bytesLess x.toList y.toList<;>rfl⟩
 |leq=>exact⟨_,_,h,gz _ _,fun w'=>by simp only[binOp,Op.stringOp,Sem.run_pure];unfold strLt;cases (Op.bytesLess x.toList y.toList||x.toList==y.toList)<;>rfl⟩
 |gtr=>exact⟨_,_,h,gz _ _,fun w'=>by simp only[binOp,Op.stringOp,Sem.run_pure];unfold strLt;cases (Op.bytesLess x.toList y.toList||x.toList==y.toList)<;>rfl⟩
 |geq=>exact⟨_,_,h,gz _ _,fun w'=>by simp only[binOp,Op.stringOp,Sem.run_pure];unfold strLt;cases Op.bytesLess x.toList y.toList<;>rfl⟩
 |_=>cases h
theorem pX {T:TypeId} {u v:Value} {b:Bool} (hb:binOp .eql T u v=(do pure (.bool (←Op.equal T u v)))) (h: ∀d,(Op.equalIn (d+1) T u v).run P w= .ok b w):(binOp .eql T u v).run P w= .ok (.bool b) w:=by
 rw[hb,Sem.run_bind,show(Op.equal T u v).run P w= .ok b w from h 9999];rfl
theorem pY {T:TypeId} {u v:Value} {b:Bool} (hb:binOp .neq T u v=(do pure (.bool (!(←Op.equal T u v))))) (h: ∀d,(Op.equalIn (d+1) T u v).run P w= .ok b w):(binOp .neq T u v).run P w= .ok (.bool !b) w:=by
 rw[hb,Sem.run_bind,show(Op.equal T u v).run P w= .ok b w from h 9999];rfl
theorem YQ (ht:fJ P G) {nx:Nat} {op:BinOp} {T:TypeId} {x y:SV G} {l:bD G} (h:eqK (G.tab T) op x y=some l) {u v:Value} (hu:lU Z w pl nx x u) (hv:lU Z w pl nx y v):
  u.oneCell'=true∧u≠ .nilIface∧ ∃q,gB Z w pl nx l q∧ ∀w',(binOp op T u v).run P w'= .ok q w':=by
 unfold eqK at h
 split at h
 ·rename_i la lb;have one:=hu.2
  split at h
  ·rename_i a1 a2 a3 hT;have tk:=ht T _ hT;have hb:=tk.bool rfl
   split at h
   ·rename_i p q hp hq;have e1:=Py hp hu;have e2:=Py hq hv;subst e1 e2;refine⟨rfl,(by intro e;cases e),?_⟩
    split at h
    ·injection h with h;subst h
     refine⟨_,gz _ _,fun w'=> ?_⟩
     rw[pX (b:=p==q) rfl (fun d=>by simp only[Op.equalIn,Sem.run_bind,dK hb,Result.andThen_ok,Sem.run_pure])]
     cases p<;>cases q<;>rfl
    ·injection h with h;subst h
     refine⟨_,gz _ _,fun w'=> ?_⟩
     rw[pY (b:=p==q) rfl (fun d=>by simp only[Op.equalIn,Sem.run_bind,dK hb,Result.andThen_ok,Sem.run_pure])]
     cases p<;>cases q<;>rfl
    ·cases h
   ·cases h
  ·rename_i a1 a2 a3 _ hT;obtain⟨e,hb⟩:=(ht T _ hT).ptr rfl
   split at h
   ·have e1:u= .pointer none:=hu.1;have e2:v= .pointer none:=hv.1;subst e1 e2;refine⟨rfl,(by intro e;cases e),?_⟩
    split at h
    ·injection h with h;subst h
     exact⟨.bool true,⟨rfl,rfl⟩,fun w'=>pX (b:=true) rfl (fun d=>by simp[Op.equalIn,dK hb])⟩
    ·injection h with h;subst h
     exact⟨.bool false,⟨rfl,rfl⟩,fun w'=>pY (b:=true) rfl (fun d=>by simp[Op.equalIn,dK hb])⟩
    ·cases h
   ·obtain⟨_,b,_,e1⟩:=hu.1;have e2:v= .pointer none:=hv.1;subst e1 e2;refine⟨rfl,(by intro e;cases e),?_⟩
    split at h
    ·injection h with h;subst h
     exact⟨.bool false,⟨rfl,rfl⟩,fun w'=>pX (b:=false) rfl (fun d=>by simp[Op.equalIn,dK hb])⟩
    ·injection h with h;subst h
     exact⟨.bool true,⟨rfl,rfl⟩,fun w'=>pY (b:=false) rfl (fun d=>by simp[Op.equalIn,dK hb])⟩
    ·cases h
   ·obtain⟨b,off,_,e1,_⟩:=hu.1;have e2:v= .pointer none:=hv.1;subst e1 e2;refine⟨rfl,(by intro e;cases e),?_⟩
    split at h
    ·injection h with h;subst h
     exact⟨.bool false,⟨rfl,rfl⟩,fun w'=>pX (b:=false) rfl (fun d=>by simp[Op.equalIn,dK hb])⟩
    ·injection h with h;subst h
     exact⟨.bool true,⟨rfl,rfl⟩,fun w'=>pY (b:=false) rfl (fun d=>by simp[Op.equalIn,dK hb])⟩
    ·cases h
   ·rename_i t y;have e2:v= .pointer none:=hv.1;have q1:bP G Z w (.po t) (show Option (G.D t) from y) [u]:=hu.1
    subst e2;cases hy:(show Option (G.D t) from y) with
    |none=>
     rw[hy]at q1;have e1:=YP q1;subst e1;have hy:y=none:=hy;subst hy;refine⟨rfl,(by intro e;cases e),?_⟩
     split at h
     ·injection h with h;subst h
      exact⟨.bool true,gz _ _,fun w'=>pX (b:=true) rfl (fun d=>by simp[Op.equalIn,dK hb])⟩
     ·injection h with h;subst h
      exact⟨.bool false,gz _ _,fun w'=>pY (b:=true) rfl (fun d=>by simp[Op.equalIn,dK hb])⟩
     ·cases h
    |some z=>
     rw[hy]at q1;obtain⟨b,off,_,e1,_⟩:=Ut q1;subst e1;have hy:y=some z:=hy;subst hy;refine⟨rfl,(by intro e;cases e),?_⟩
     split at h
     ·injection h with h;subst h
      exact⟨.bool false,gz _ _,fun w'=>pX (b:=false) rfl (fun d=>by simp[Op.equalIn,dK hb])⟩
     ·injection h with h;subst h
      exact⟨.bool true,gz _ _,fun w'=>pY (b:=false) rfl (fun d=>by simp[Op.equalIn,dK hb])⟩
     ·cases h
   ·cases h
  ·rename_i a1 a2 a3 _ hT;obtain⟨_,_,_,hb⟩:=(ht T _ hT).fn rfl
   split at h
   ·have e1:u= .nilFunc:=hu.1;have e2:v= .nilFunc:=hv.1;subst e1 e2;refine⟨rfl,(by intro e;cases e),?_⟩
    split at h
    ·injection h with h;subst h
     exact⟨.bool true,⟨rfl,rfl⟩,fun w'=>pX (b:=true) rfl (fun d=>by simp[Op.equalIn,dK hb])⟩
    ·injection h with h;subst h
     exact⟨.bool false,⟨rfl,rfl⟩,fun w'=>pY (b:=true) rfl (fun d=>by simp[Op.equalIn,dK hb])⟩
    ·cases h
   ·have e1:=hu.1.2;have e2:v= .nilFunc:=hv.1;subst e1 e2;refine⟨rfl,(by intro e;cases e),?_⟩
    split at h
    ·injection h with h;subst h
     exact⟨.bool false,⟨rfl,rfl⟩,fun w'=>pX (b:=false) rfl (fun d=>by simp[Op.equalIn,dK hb])⟩
    ·injection h with h;subst h
     exact⟨.bool true,⟨rfl,rfl⟩,fun w'=>pY (b:=false) rfl (fun d=>by simp[Op.equalIn,dK hb])⟩
    ·cases h
   ·cases h
  ·cases h
 ·cases h
theorem JR (ht:fJ P G) {op:BinOp} {T T':TypeId} {x y:Operand} (ho:o.op= .binOp op T x y T') (h:bJ E o L K=some r) (S:Sat E.N W w0 Z pl L a w) (hK:Then E W w0 K r next):o.pu P a w next:=by
 simp only[bJ,ho]at h
 split at h
 ·rename_i s s' hx hy;have qx:=aK S hx;have qy:=aK S hy;unfold QB at h
  split at h
  ·split at h
   ·rename_i k m k' n hk;have e:=aah hk;subst e;obtain⟨l,v,h1,h2,h3⟩:=WG (P:=P) (w:=w) (Z:=Z) (pl:=pl) (nx:=L.nx) h T;have ex:=vC qx;have ey:=vC qy;exact dW (Hw ho (by rw[ex];rfl) (by rw[ex];intro e;cases e) (by rw[ex,ey];exact h3)) h1 S h2 hK
   ·cases h
  ·obtain⟨l,v,h1,h2,h3⟩:=WH (P:=P) (w:=w) (Z:=Z) (pl:=pl) (nx:=L.nx) h T;have ex:=oD qx;have ey:=oD qy;exact dW (Hw ho (by rw[ex];rfl) (by rw[ex];intro e;cases e) (by rw[ex,ey];exact h3)) h1 S h2 hK
  ·split at h
   ·rename_i l hl;obtain⟨h1,h2,q,h3,h4⟩:=YQ ht hl qx qy;exact dW (Hw ho h1 h2 h4) h S h3 hK
   ·cases h
 ·cases h
theorem PD {op:UnOp} {T:TypeId} {x:Operand} (ho:o.op= .unOp op T x) (h:bJ E o L K=some r) (S:Sat E.N W w0 Z pl L a w) (hK:Then E W w0 K r next):o.pu P a w next:=by
 have exe: ∀u,(∀w',(Op.unary op (a.eval x)).run P w'= .ok u w')→ ∀w',(execOp a.eval o).run P w'= .ok (.value u) w':=by
  intro u hu w';unfold execOp;rw[ho];exact jE _ (hu w')
 cases op with
 |not=>
  simp only[bJ,ho]at h
  split at h
  ·rename_i b hx;have e:a.eval x= .bool b:=(aK S hx).1;exact dW (exe (.bool !b) (fun w'=>by rw[e];rfl)) h S ⟨by cases b<;>rfl,rfl⟩ hK
  ·rename_i p d hx;have e:a.eval x= .bool (@decide p d):=(aK S hx).1;refine dW (exe (.bool !(@decide p d)) (fun w'=>by rw[e];rfl)) h S ⟨?_,rfl⟩ hK
   show Value.bool _=Value.bool _
   congr 1
   cases d with
   |isTrue hp=>rfl
   |isFalse hp=>rfl
  ·rename_i b hx;have e:=Cb (aK S hx);refine dW (exe (.bool !b) (fun w'=>by rw[e];rfl)) h S ⟨?_,rfl⟩ hK
   show Value.bool _=Value.bool _
   congr 1
   have: ∀b:Bool,(!b)=decide (¬b=true):=by intro b;cases b<;>rfl
   exact this b
  ·cases h
 |neg=>
  simp only[bJ,ho]at h
  split at h
  ·rename_i k n hx;have e:=vC (aK S hx);exact dW (exe (.int k (k.wrap (0-(show Int from n)))) (fun w'=>by rw[e];rfl)) h S (jH k _) hK
  ·cases h
 |_=>simp[bJ,ho]at h
theorem xY {T T':TypeId} {x:Operand} (ho:o.op= .convert T T' x) {u:Value} (hu:(convert T T' (a.eval x)).run P w= .ok u w'):(execOp a.eval o).run P w= .ok (.value u) w':=by
 unfold execOp;rw[ho];exact jE _ hu
theorem Dl {T T':TypeId} {x:Operand} (ht:fJ P G) (hk: ∃l1 l2 l3 k,G.tab T=some ⟨l1,l2,l3,some (.int k)⟩) (ho:o.op= .convert T T' x) (h:bJ E o L K=some r) (S:Sat E.N W w0 Z pl L a w) (hK:Then E W w0 K r next):o.pu P a w next:=by
 obtain⟨l1,l2,l3,k0,hk⟩:=hk;simp only[bJ,ho]at h
 split at h
 ·rename_i k n hx
  split at h
  ·rename_i k1 _ _ _ k2 e1 e2;have e:=vC (aK S hx);have i1:=(ht T _ e1).int k1 rfl;have i2:=(ht T' _ e2).int k2 rfl;exact dW (fun w'=>xY ho (u:= .int k2 (k2.wrap n)) (by rw[e];simp[convert,dK i1,dK i2,Conv.intToInt])) h S (jH k2 _) hK
  ·cases h
 ·rename_i s hx;rw[hk]at h
  split at h
  ·rename_i e1 e2;cases e1
  ·rename_i e1 e2;cases e1
  ·cases h
 ·rw[hk]at h
  split at h
  ·rename_i e1 e2;cases e1
  ·cases h
 ·cases h
theorem Hy (s:ByteArray):(bytesOf s).length=s.size:=by simp[bytesOf]
theorem YR (w:World) (n:Nat) (e:TypeId):n≤grownCap w n 0 e:=by unfold grownCap;simp[Question.cut]
theorem QL (w:World) (el:TypeId) (s:ByteArray) (Z:Nat→Nat→Prop):bP G (fun b i=>Z b i∨b=w.heap.size) (Lib.bytesWorld w el s) (.sl el (.int .u8)) (bytesOf s) [.slice (some ⟨w.heap.size,0,none⟩) s.size (grownCap w s.size 0 el)]:=by
 have hlen:=Hy s;have key:bP G (fun b i=>Z b i∨b=w.heap.size) (Lib.bytesWorld w el s) (.sl el (.int .u8)) (bytesOf s) [.slice (some ⟨w.heap.size,0,none⟩) (bytesOf s).length (grownCap w s.size 0 el)]:=by
  refine .sl el (.int .u8) _ _ _ w.heap.size 0 (fun i=> [.int .u8 ((bytesOf s).getD i 0)]) ?_ (.inr rfl) (fun i hi=>rfl) (fun i j v hi hj=> ?_) (fun i hi=> ?_)
  ·show(bytesOf s).length≤_;rw[hlen];exact YR w _ el
  ·have hi:i<(bytesOf s).length:=hi;rw[hlen]at hi;cases j with
   |zero=>
    simp only[List.getElem?_cons_zero,Option.some.injEq]at hj;subst hj;refine⟨.inr rfl,?_⟩;have:=Lib.bytesWorld_cell w el s i hi;simp only[jf.aY,Nat.mul_one,Nat.zero_add,Nat.add_zero];rw[this];have hd:i<s.data.size:=hi;simp only[bytesOf,List.getD,List.getElem?_map,Array.getElem?_toList,Option.some.injEq,Value.int.injEq,true_and];rw[Array.getElem?_eq_getElem hd]
    rfl
   |succ j=>simp at hj
  ·have hi:i<(bytesOf s).length:=hi;have e:(bytesOf s)[i]=(bytesOf s).getD i 0:=by simp[List.getD,hi]
   show bP G _ _ (.int .u8) ((bytesOf s)[i]:Int) _;rw[e];exact .int .u8 _
 rw[hlen]at key;exact key
theorem nG (S:Sat N W w0 Z pl L a w) {x:Operand} {n:Int} (h:intOf (dB L x)=some n): ∃k,a.eval x= .int k n:=by
 unfold intOf at h
 split at h
 ·rename_i k m hx;injection h with h
  subst h;exact⟨k,vC (aK S hx)⟩
 ·cases h
theorem aai (s:ByteArray) (n:Int) (h:n.toNat<s.size):s[n.toNat]? =some (s.data.getD n.toNat 0):=by
 have hd:n.toNat<s.data.size:=h;show(if _h:n.toNat<s.size then some (s.data[n.toNat]) else none)=_;rw[dif_pos h]
 congr 1
 simp only[Array.getD,hd,dif_pos]
 rfl
theorem JS (ht:fJ P G) {T:TypeId} {x i:Operand} (ho:o.op= .index T x i) (h:bJ E o L K=some r) (S:Sat E.N W w0 Z pl L a w) (hK:Then E W w0 K r next):o.pu P a w next:=by
 have exe: ∀u,(∀w',(Instr.index T (a.eval x) (a.eval i)).run P w'= .ok u w')→ ∀w',(execOp a.eval o).run P w'= .ok (.value u) w':=by
  intro u hu w';unfold execOp;rw[ho];exact jE _ (hu w')
 simp only[bJ,ho]at h
 split at h
 ·rename_i n hn;obtain⟨k,hi⟩:=nG S hn
  split at h
  ·rename_i s hTT hx;have hT:=(ht T _ hTT).str rfl;have e:=oD (aK S hx)
   split at h
   ·rename_i h0
    split at h
    ·rename_i h1;have h1':n.toNat<s.size:=by omega
     refine dW (exe (.int .u8 (bt s n)) (fun w'=> ?_)) h S (jH .u8 _) hK
     rw[e,hi];simp only[Instr.index,asIntOf,Sem.run_bind,Sem.run_pure,Result.andThen_ok,dK hT];rw[if_pos h0,aai s n h1']
     rfl
    ·cases h
   ·cases h
  ·cases h
 ·cases h
theorem qN (b off n:Nat):(⟨b,off,none⟩:Addr).add n=⟨b,off+n,none⟩:=by unfold Addr.add;split<;>simp_all
theorem WI: ∀{ts:List Ty} {h:Fs G.S ts} {cs:List Value} {f:Nat} {v:TV G},oV G Z w ts h cs→nth (kL ts h) f=some v→
  nth ts f=some v.t∧bP G Z w v.t v.x ((cs.drop (kV G (ts.take f))).take (G.aY v.t)):=by
 intro ts
 induction ts with
 |nil=>intro h cs f v _ hf;simp[kL,nth]at hf
 |cons t ts ih=>
  intro h cs f v H hf;cases H with
  |cons _ _ _ cs cs' hl h1 h2=>
   cases f with
   |zero=>
    injection hf with hf
    subst hf;refine⟨rfl,?_⟩;show bP G Z w t h.1 (((cs++cs').drop 0).take (G.aY t));rw[List.drop_zero,←hl,List.take_left];exact h1
   |succ f=>
    obtain⟨k1,k2⟩:=ih h2 (f:=f) hf;refine⟨k1,?_⟩;have e:(cs++cs').drop (kV G ((t::ts).take (f+1)))=cs'.drop (kV G (ts.take f)):=by
     show(cs++cs').drop (G.aY t+kV G (ts.take f))=_;rw[←hl,←List.drop_drop,List.drop_left]
    rw[e];exact k2
theorem Uu: ∀{ts:List Ty} {f:Nat} {t:Ty},nth ts f=some t→kV G (ts.take f)+G.aY t≤kV G ts:=by
 intro ts
 induction ts with
 |nil=>intro f t h;simp[nth]at h
 |cons a ts ih=>
  intro f t h;cases f with
  |zero=>injection h with h;subst h;simp[kV]
  |succ f=>have:=ih (f:=f) h;simp only[List.take_succ_cons,kV];omega
theorem xZ (hs:fH G) (ht:fJ P G) {T:TypeId} {x:Operand} {f:Nat} (ho:o.op= .fieldAddr T x f) (h:bJ E o L K=some r) (S:Sat E.N W w0 Z pl L a w) (hK:Then E W w0 K r next):o.pu P a w next:=by
 simp only[bJ,ho]at h
 split at h
 ·rename_i ti hti;have tk:=ht T ti hti
  split at h
  ·rename_i d n hfl
   split at h
   ·cases h
   ·rename_i n;obtain⟨fs,fd,hu,hfd,hoff,hle,i,hi,hsz,_⟩:=tk.vP f d (n+1) hfl;have exe: ∀b off,a.eval x= .pointer (some ⟨b,off,none⟩)→ ∀w',(execOp a.eval o).run P w'= .ok (.value (.pointer (some ⟨b,off+d,none⟩))) w':=by
     intro b off e w';unfold execOp;rw[ho];refine jE _ ?_;simp only[Instr.fieldAt,Sem.run_bind,dK hu,Result.andThen_ok,hfd,e,Instr.sureAddr,Sem.run_pure,fieldPlace,lW hi,hsz];rw[if_neg (Nat.succ_ne_zero n)];simp only[Sem.run_pure,Result.andThen_ok,hoff,qN]
    split at h
    ·rename_i i' off hx;obtain⟨⟨h1,b,hb,hv⟩,_⟩:=aK S hx;exact dW (exe b off hv) h S ⟨⟨h1,b,hb,rfl⟩,rfl⟩ hK
    ·rename_i i' m z off hx;obtain⟨⟨h1,b,n',c,hb,hn,hv⟩,_⟩:=aK S hx;exact dW (exe b _ hv) h S ⟨⟨h1,b,n',c,hb,hn,by rw[Nat.add_assoc]⟩,rfl⟩ hK
    ·rename_i s v hx
     split at h
     ·rename_i s' hty
      split at h
      ·rename_i hb;have e:=Nat.eq_of_beq_eq_true hb;subst e
       split at h
       ·rename_i wv hwv;obtain⟨⟨b,off,cs,hv,hlen,hz,hr⟩,_⟩:=aK S hx;cases hr with
        |st _ _ _ hr=>
         obtain⟨k1,k2⟩:=WI hr hwv;obtain⟨k3,k4⟩:=tk.Z7 s hty f d (n+1) wv.t hfl k1;have hle2:=Uu (G:=G) k1;rw[hs]at hle2;have hlen:cs.length=G.sz s:=hlen;refine dW (exe b off hv) h S ⟨⟨b,off+d,_,rfl,?_,fun j u hj=> ?_,k2⟩,rfl⟩ hK
         ·rw[List.length_take,List.length_drop];omega
         ·rw[List.getElem?_take]at hj
          split at hj
          ·rw[List.getElem?_drop]at hj;have:=hz _ u hj;rw[←k3]at this;rw[Nat.add_assoc];exact this
          ·cases hj
       ·cases h
      ·cases h
     ·cases h
    ·cases h
  ·cases h
 ·cases h
theorem JU (ht:fJ P G) {T:TypeId} {x:Operand} {f:Nat} (ho:o.op= .field T x f) (h:bJ E o L K=some r) (S:Sat E.N W w0 Z pl L a w) (hK:Then E W w0 K r next):o.pu P a w next:=by
 simp only[bJ,ho]at h
 split at h
 ·rename_i ti hti;have tk:=ht T ti hti
  split at h
  ·rename_i d n hfl
   split at h
   ·rename_i ls hx
    split at h
    ·rename_i hle hn;rw[len_eq]at hle;have hle:=jV.1 hle;have hn:=Nat.eq_of_beq_eq_true hn;subst hn
     split at h
     ·rename_i l hl;obtain⟨fs,fd,hu,hfd,hoff,_,i,hi,hsz,hag⟩:=tk.vP f d 1 hfl;obtain⟨dd,hdd,hda⟩:=hag rfl;obtain⟨cs,hv,hcs⟩:=aK S hx;have h1:=(hcs.drop d).take 1;rw[hl]at h1;obtain⟨u,us,e,hu1,hu2⟩:=h1;have hcu:cs[d]? =some u:=by
       have:((cs.drop d).take 1)[0]? =some u:=by rw[e];rfl
       rw[List.getElem?_take,if_pos (by decide),List.getElem?_drop]at this
       exact this
      refine dW (fun w'=> ?_) h S hu1 hK
      unfold execOp;rw[ho];refine jE _ ?_;simp only[Instr.field,Sem.run_bind,dK hu,Result.andThen_ok,hfd,hv,asAgg,Sem.run_pure,part,Fe hdd,hda,hoff];rw[if_neg (by decide)]
      simp only[List.getElem?_toArray,hcu,Sem.run_pure]
     ·cases h
    ·cases h
   ·cases h
  ·cases h
 ·cases h
theorem run_indexAt {T e:TypeId} {i:TypeInfo} (hT:P.underlying T=some (.slice e)) (hi:P.info? e=some i) {A:Addr} {len c:Nat} {k:IntKind} {n:Int} (h0:0≤n) (h1:n<(len:Int)):
  (Instr.indexAt T (.slice (some A) len c) (.int k n)).run P w= .ok (.pointer (some (A.add (n.toNat*i.size)))) w:=by
 simp only[Instr.indexAt,asIntOf,Sem.run_bind,Sem.run_pure,Result.andThen_ok,dK hT];rw[if_pos ⟨h0,h1⟩,Sem.run_bind,lW hi]
 rfl
theorem WJ {α:Type} (d:α) (xs:List α) (n:Int) (h:n.toNat<xs.length):aF d xs n=xs[n.toNat]:=by simp[aF,List.getD,h]
theorem Uw (S:Sat N W w0 Z pl L a w) {l:bD G} {u:Value} (hu:gB Z w pl L.nx l u) {e:TypeId} {t:Ty} {xs:List (G.D t)} (h:rowOf L l=some ⟨e,t,xs⟩):
  (∃c,u= .slice none 0 c∧xs= [])∨ ∃A c,u= .slice A xs.length c:=by
 cases l with
 |val t' x=>
  cases t' with
  |sl e' t'=>
   cases h;have:=hu.1;cases this with
   |sl _ _ _ A c=>exact .inr ⟨A,c,rfl⟩
  |_=>cases h
 |full e' t' x=>
  cases h;obtain⟨A,hA⟩:=hu.1.2;exact .inr ⟨A,_,hA⟩
 |h_ o'=>
  simp only[rowOf]at h
  split at h
  ·rename_i e' t' x hg;cases h;obtain⟨vs,o1,_⟩:=S.mem.ob o' _ hg;rw[hu.1.2];rcases o1.2 with⟨e1,e2⟩|⟨g,cap,cur,e1,_⟩
   ·exact .inl ⟨0,e1,List.eq_nil_of_length_eq_zero e2⟩
   ·exact .inr ⟨_,_,e1⟩
  ·rename_i e' t' x hg;cases h;have:=S.mem.ob o' _ hg;have hR:bP G Z w (.sl e t) xs [pl o']:=this;rw[hu.1.2];generalize pl o'=q at hR;cases hR with
   |sl _ _ _ A c=>exact .inr ⟨A,c,rfl⟩
  ·cases h
 |_=>cases h
theorem FB (hs:fH G) (S:Sat N W w0 Z pl L a w) {l:bD G} {u:Value} (hu:gB Z w pl L.nx l u) {e:TypeId} {t:Ty} {xs:List (G.D t)} (h:rowOf L l=some ⟨e,t,xs⟩):
  ∃A c,u= .slice A xs.length c∧(xs.length=0∨ ∃b off,A=some ⟨b,off,none⟩∧ ∃vs,gX G Z w t xs vs∧ ∀j v,vs[j]? =some v→w.cell? ⟨b,off+j,none⟩=some v):=by
 have hrep: ∀(q:Value),bP G Z w (.sl e t) xs [q]→ ∃A c,q= .slice A xs.length c∧(xs.length=0∨ ∃b off,A=some ⟨b,off,none⟩∧ ∃vs,gX G Z w t xs vs∧ ∀j v,vs[j]? =some v→w.cell? ⟨b,off+j,none⟩=some v):=by
  intro q hR;cases hR with
  |sl _ _ _ A c b o cs hc hA hl hz hr=>
   refine⟨A,c,rfl,?_⟩;rcases hA with hA|hA
   ·exact .inl hA
   ·refine .inr ⟨b,o,hA,?_⟩;have key: ∀(ys:List (G.D t)) (k:Nat),(∀i (hi:i<ys.length),k+i<xs.length∧bP G Z w t ys[i] (cs (k+i)))→ ∃vs,gX G Z w t ys vs∧ ∀j v,vs[j]? =some v→w.cell? ⟨b,o+k*G.aY t+j,none⟩=some v:=by
     intro ys
     induction ys with
     |nil=>exact fun k _=>⟨[],rfl,fun j v hj=>by cases hj⟩
     |cons y ys ih=>
      intro k hk;obtain⟨vs,v1,v2⟩:=ih (k+1) (fun i hi=>by
       have:=hk (i+1) (by simpa using hi)
       rw[show k+(i+1)=k+1+i by omega]at this
       exact this)
      have h0:=hk 0 (by simp)
      refine⟨cs k++vs,⟨cs k,vs,rfl,hl k h0.1,h0.2,v1⟩,fun j v hj=> ?_⟩
      by_cases hjj:j<(cs k).length
      ·rw[List.getElem?_append_left hjj]at hj;exact(hz k j v h0.1 hj).2
      ·rw[List.getElem?_append_right (by omega)]at hj
       have:=v2 _ v hj;rw[hl k h0.1]at this hjj;rw[Nat.add_mul,Nat.one_mul]at this;rw[show o+k*G.aY t+j=o+(k*G.aY t+G.aY t)+(j-G.aY t) by omega]
       exact this
    obtain⟨vs,v1,v2⟩:=key xs 0 (fun i hi=>⟨by omega,by rw[Nat.zero_add];exact hr i hi⟩)
    refine⟨vs,v1,fun j v hj=> ?_⟩
    have:=v2 j v hj;rw[Nat.zero_mul,Nat.add_zero]at this;exact this
 cases l with
 |val t' x=>
  cases t' with
  |sl e' t'=>
   cases h;exact hrep u hu.1
  |_=>cases h
 |full e' t' x=>
  cases h;exact hrep u hu.1.1
 |h_ o'=>
  simp only[rowOf]at h
  split at h
  ·rename_i e' t' x hg;cases h;obtain⟨vs,o1,o2⟩:=S.mem.ob o' _ hg;rw[hu.1.2];rcases o1.2 with⟨e1,e2⟩|⟨g,cap,cur,e1,_⟩
   ·exact⟨none,0,by rw[e1,e2],.inl e2⟩
   ·refine⟨_,_,e1,.inr ⟨g,0,rfl,vs,o2,fun j v hj=> ?_⟩⟩
    have:=o1.cells (g:=g) (by rw[e1];rfl) j v hj
    rw[qN]at this;exact this
  ·rename_i e' t' x hg;cases h;rw[hu.1.2];exact hrep (pl o') (S.mem.ob o' _ hg)
  ·cases h
 |_=>cases h
theorem x_ (hs:fH G) (ht:fJ P G) {T:TypeId} {x i:Operand} (ho:o.op= .indexAddr T x i) (h:bJ E o L K=some r) (S:Sat E.N W w0 Z pl L a w) (hK:Then E W w0 K r next):o.pu P a w next:=by
 simp only[bJ,ho]at h
 split at h
 ·rename_i n hn;obtain⟨k,hi⟩:=nG S hn
  split at h
  ·rename_i e t hT;obtain⟨hu,ie,z,hie,hsz,_⟩:=(ht T _ hT).sl e t rfl;have exe: ∀A len c,a.eval x= .slice (some A) len c→0≤n→n<(len:Int)→ ∀w',(execOp a.eval o).run P w'= .ok (.value (.pointer (some (A.add (n.toNat*G.aY t))))) w':=by
    intro A len c e1 h0 h1 w';unfold execOp;rw[ho];refine jE _ ?_;rw[e1,hi,run_indexAt hu hie h0 h1,hsz]
   have rd: ∀(q:Value) (e':TypeId) (t':Ty) (xs:List (G.D t')),bP G Z w (.sl e' t') xs [q]→a.eval x=q→Ty.beq (.sl e t) (.sl e' t')=true→0≤n→n<(xs.length:Int)→
     out E o (.sv (.one (.oU t' (aF (tK G t') xs n)))) L K=some r→o.pu P a w next:=by
    intro q e' t' xs hR hq hb h0 h1 hout;have he:=Ty.eq_of_beq hb;injection he with he1 he2
    subst he1 he2;cases hR with
    |sl _ _ _ A c b off cs hc hA hl hz hr=>
     have hlt:n.toNat<xs.length:=by omega
     rcases hA with hA|hA
     ·omega
     ·subst hA;refine dW (exe _ _ _ hq h0 h1) hout S ⟨⟨b,off+n.toNat*G.aY t,cs n.toNat,by rw[qN],hl _ hlt,fun j v hj=>hz _ j v hlt hj,?_⟩,rfl⟩ hK
      rw[WJ _ _ _ hlt];exact hr _ hlt
   have wr: ∀(o':Nat) (e':TypeId) (t':Ty) (xs:List (G.D t')),o'<L.nx→Be (pl o') (a.eval x)→(∃vs,w.ownsRow 0 e' (G.aY t') (pl o') xs.length vs)→Ty.beq (.sl e t) (.sl e' t')=true→0≤n→n<(xs.length:Int)→
     out E o (.sv (.one (.jG o' n.toNat (G.aY t') 0))) L K=some r→o.pu P a w next:=by
    intro o' e' t' xs hlt hv ⟨vs,o1⟩ hb h0 h1 h;have he:=Ty.eq_of_beq hb;injection he with he1 he2
    subst he1 he2;rcases o1.2 with⟨e1,e2⟩|⟨g,cap,cur,e1,_⟩
    ·omega
    ·have hv:a.eval x=pl o':=by
      rcases hv with hv|⟨hv,_⟩
      ·exact hv
      ·rw[e1]at hv;cases hv
     exact dW (exe ⟨g,0,none⟩ _ _ (hv.trans e1) h0 h1) h S ⟨⟨hlt,g,xs.length,cap,e1,by omega,by rw[qN,Nat.zero_add,Nat.add_zero]⟩,rfl⟩ hK
   have row: ∀(o':Nat),o'<L.nx→Be (pl o') (a.eval x)→(match get L.objs o' with
     |some (.arr e' t' xs)=>match Ty.beq (.sl e t) (.sl e' t') with
      |true=>if 0≤n then if n<(xs.length:Int) then out E o (.sv (.one (.jG o' n.toNat (G.aY t') 0))) L K else none else none
      |false=>none
     |some (.tr e' t' xs)=>match Ty.beq (.sl e t) (.sl e' t') with
      |true=>if 0≤n then if n<(xs.length:Int) then out E o (.sv (.one (.jG o' n.toNat (G.aY t') 0))) L K else none else none
      |false=>none
     |some (.fo e' t' xs _ _ _)=>match Ty.beq (.sl e t) (.sl e' t') with
      |true=>if 0≤n then if n<(xs.length:Int) then out E o (.sv (.one (.jG o' n.toNat (G.aY t') 0))) L K else none else none
      |false=>none
     |some (.sw e' t' xs _ _ _ _ _)=>match Ty.beq (.sl e t) (.sl e' t') with
      |true=>if 0≤n then if n<(xs.length:Int) then out E o (.sv (.one (.jG o' n.toNat (G.aY t') 0))) L K else none else none
      |false=>none
     |some (.tk e' t' xs _)=>match Ty.beq (.sl e t) (.sl e' t') with
      |true=>if 0≤n then if n<(xs.length:Int) then out E o (.sv (.one (.jG o' n.toNat (G.aY t') 0))) L K else none else none
      |false=>none
     |some (.vU e' t' xs)=>match Ty.beq (.sl e t) (.sl e' t') with
      |true=>if 0≤n then if n<(xs.length:Int) then out E o (.sv (.one (.oU t' (aF (tK G t') xs n)))) L K else none else none
      |false=>none
     |_=>none)=some r→o.pu P a w next:=by
    intro o' hlt hv h
    split at h
    ·rename_i e' t' xs hg
     split at h
     ·rename_i hb
      split at h
      ·rename_i h0
       split at h
       ·rename_i h1;obtain⟨vs,o1,_⟩:=S.mem.ob o' _ hg;exact wr o' e' t' xs hlt hv ⟨vs,o1⟩ hb h0 h1 h
       ·cases h
      ·cases h
     ·cases h
    ·rename_i e' t' xs hg
     split at h
     ·rename_i hb
      split at h
      ·rename_i h0
       split at h
       ·rename_i h1;exact wr o' e' t' xs hlt hv (S.mem.ob o' _ hg) hb h0 h1 h
       ·cases h
      ·cases h
     ·cases h
    ·rename_i e' t' xs _ _ _ hg
     split at h
     ·rename_i hb
      split at h
      ·rename_i h0
       split at h
       ·rename_i h1;exact wr o' e' t' xs hlt hv (S.mem.ob o' _ hg) hb h0 h1 h
       ·cases h
      ·cases h
     ·cases h
    ·rename_i e' t' xs _ _ _ _ _ hg
     split at h
     ·rename_i hb
      split at h
      ·rename_i h0
       split at h
       ·rename_i h1;exact wr o' e' t' xs hlt hv (S.mem.ob o' _ hg) hb h0 h1 h
       ·cases h
      ·cases h
     ·cases h
    ·rename_i e' t' xs _ hg
     split at h
     ·rename_i hb
      split at h
      ·rename_i h0
       split at h
       ·rename_i h1;exact wr o' e' t' xs hlt hv (S.mem.ob o' _ hg) hb h0 h1 h
       ·cases h
      ·cases h
     ·cases h
    ·rename_i e' t' xs hg
     split at h
     ·rename_i hb
      split at h
      ·rename_i h0
       split at h
       ·rename_i h1;exact rd (a.eval x) e' t' xs (bP.weak (S.mem.ob o' _ hg) hv) rfl hb h0 h1 h
       ·cases h
      ·cases h
     ·cases h
    ·cases h
   split at h
   ·rename_i o' hx;exact row o' (aK S hx).1.1 (.inl (aK S hx).1.2) h
   ·rename_i o' hx;exact row o' (aK S hx).1.1 (aK S hx).1.2 h
   ·rename_i o' k z hx
    split at h
    ·rename_i e' t' xs m hg
     split at h
     ·rename_i hb hz;have he:=Ty.eq_of_beq hb;injection he with he1 he2
      have hz:=Nat.eq_of_beq_eq_true hz;subst he1 he2 hz
      split at h
      ·rename_i h0
       split at h
       ·rename_i h1;obtain⟨⟨hlt,b,n',c,hp,hkn,A,hv,hA⟩,_⟩:=aK S hx;obtain⟨vs,o1⟩:=S.mem.ob o' _ hg;have hn':n'=xs.length:=by
         rcases o1.2 with⟨e1,_⟩|⟨g,cap,cur,e1,_⟩
         ·rw[hp]at e1;cases e1
         ·rw[hp]at e1;injection e1
        subst hn';have hA:=hA (by omega)
        subst hA;exact dW (exe ⟨b,k*G.aY t,none⟩ _ _ hv h0 h1) h S ⟨⟨hlt,b,xs.length,c,hp,by omega,by rw[qN,Nat.add_mul,Nat.add_zero]⟩,rfl⟩ hK
       ·cases h
      ·cases h
     ·cases h
    ·cases h
   ·rename_i l hnot ac8 ac9 hx
    split at h
    ·rename_i e' t' xs hro
     split at h
     ·rename_i hb
      split at h
      ·rename_i h0
       split at h
       ·rename_i h1;have hl:=aK S hx;cases l with
        |val t'' x'=>
         cases t'' with
         |sl e'' t''=>
          cases hro;exact rd _ _ _ _ hl.1 rfl hb h0 h1 h
         |_=>cases hro
        |full e'' t'' x'=>
         cases hro;exact rd _ _ _ _ hl.1.1 rfl hb h0 h1 h
        |h_ o'=>exact absurd rfl (hnot o')
        |_=>cases hro
       ·cases h
      ·cases h
     ·cases h
    ·cases h
   ·cases h
  ·cases h
 ·cases h
theorem Dn {x:Operand} {i:Nat} (ho:o.op= .extract x i) (h:bJ E o L K=some r) (S:Sat E.N W w0 Z pl L a w) (hK:Then E W w0 K r next):o.pu P a w next:=by
 simp only[bJ,ho]at h
 split at h
 ·rename_i t
  split at h
  ·rename_i l hl
   split at h
   ·rename_i s hs;obtain⟨vs,hv,hvs⟩:=S.tm t _ hl;have key: ∀(l:List (SV G)) (vs:List Value) (i:Nat) (s:SV G),oW Z w pl L.nx l vs→nth l i=some s→ ∃u,vs[i]? =some u∧lU Z w pl L.nx s u:=by
     intro l
     induction l with
     |nil=>intro vs i s _ h;simp[nth]at h
     |cons x l ih=>
      intro vs i s ⟨u,us,e,h1,h2⟩ h;subst e;cases i with
      |zero=>injection h with h;subst h;exact⟨u,rfl,h1⟩
      |succ i=>obtain⟨u',k1,k2⟩:=ih us i s h2 h;exact⟨u',by simpa using k1,k2⟩
    obtain⟨u,k1,k2⟩:=key l vs i s hvs hs;refine dW (fun w'=> ?_) h S k2 hK
    unfold execOp;rw[ho];refine jE _ ?_;rw[show a.eval (.tmp t)= .tuple vs.toArray from hv]
    simp[Instr.extract,k1]
   ·cases h
  ·cases h
 ·cases h
theorem jd {e:TypeId} {z n:Nat} {v u:Value} {vs:List Value} (h:w.ownsRow 0 e z v n vs) (hw:Be v u): ∃A c,u= .slice A n c:=by
 rcases h.2 with⟨e1,e2⟩|⟨g,cap,cur,e1,_⟩
 ·rcases hw with hw|⟨_,A,c,hw⟩
  ·exact⟨none,0,by rw[hw,e1,e2]⟩
  ·exact⟨A,c,by rw[hw,e2]⟩
 ·rcases hw with hw|⟨hw,_⟩
  ·exact⟨_,cap,hw.trans e1⟩
  ·rw[e1]at hw;cases hw
theorem Nc {e:TypeId} {t:Ty} {xs:List (G.D t)} {v:Value} (h:bP G Z w (.sl e t) xs [v]): ∃A c,v= .slice A xs.length c:=by
 generalize hq: [v]=q at h;cases h with
 |sl _ _ _ A c b o cs hc hA hl hz hr=>injection hq with hq _;exact⟨A,c,hq⟩
theorem WL (M:Mem W w0 Z pl L.objs L.nx w) {l:bD G} {u:Value} (hu:gB Z w pl L.nx l u) {n:Int} (h:Yu L l=some n): ∃A k c,u= .slice A k c∧n=(k:Int):=by
 unfold Yu at h
 split at h
 ·injection h with h
  obtain⟨A,c,hu⟩:=hu.1;exact⟨A,0,c,hu,h.symm⟩
 ·rename_i o k z
  split at h
  ·rename_i hg
   split at h
   ·injection h with h
    obtain⟨⟨hlt,b,n',c,hp,hkn,A,hv,hA⟩,_⟩:=hu;obtain⟨vs,o1⟩:=M.ob o _ hg;refine⟨A,_,_,hv,?_⟩;rw[←h];rcases o1.2 with⟨e1,_⟩|⟨g,cap,cur,e1,_⟩
    ·rw[hp]at e1;cases e1
    ·rw[hp]at e1;injection e1 with _ e1
     rw[e1]
   ·cases h
  ·cases h
 ·rename_i o;have hw:Be (pl o) u:= .inl hu.1.2
  split at h
  ·rename_i hg;injection h with h;obtain⟨vs,h1⟩:=M.ob o _ hg;obtain⟨A,c,e⟩:=jd h1 hw;exact⟨A,_,c,e,h.symm⟩
  ·rename_i hg;injection h with h;obtain⟨vs,h1⟩:=M.ob o _ hg;obtain⟨A,c,e⟩:=jd h1 hw;exact⟨A,_,c,e,h.symm⟩
  ·rename_i hg;injection h with h;obtain⟨vs,h1⟩:=M.ob o _ hg;obtain⟨A,c,e⟩:=jd h1 hw;exact⟨A,_,c,e,h.symm⟩
  ·rename_i hg;injection h with h;obtain⟨vs,h1⟩:=M.ob o _ hg;obtain⟨A,c,e⟩:=jd h1 hw;exact⟨A,_,c,e,h.symm⟩
  ·cases h
 ·rename_i o;have hw:Be (pl o) u:=hu.1.2
  split at h
  ·rename_i hg;injection h with h;obtain⟨vs,h1,_⟩:=M.ob o _ hg;obtain⟨A,c,e⟩:=jd h1 hw;exact⟨A,_,c,e,h.symm⟩
  ·rename_i hg;injection h with h;obtain⟨A,c,e⟩:=Nc (bP.weak (M.ob o _ hg) hw);exact⟨A,_,c,e,h.symm⟩
  ·rename_i hg;injection h with h;obtain⟨vs,h1⟩:=M.ob o _ hg;obtain⟨A,c,e⟩:=jd h1 hw;exact⟨A,_,c,e,h.symm⟩
  ·rename_i hg;injection h with h;obtain⟨vs,h1⟩:=M.ob o _ hg;obtain⟨A,c,e⟩:=jd h1 hw;exact⟨A,_,c,e,h.symm⟩
  ·rename_i hg;injection h with h;obtain⟨vs,h1⟩:=M.ob o _ hg;obtain⟨A,c,e⟩:=jd h1 hw;exact⟨A,_,c,e,h.symm⟩
  ·rename_i hg;injection h with h;obtain⟨vs,h1⟩:=M.ob o _ hg;obtain⟨A,c,e⟩:=jd h1 hw;exact⟨A,_,c,e,h.symm⟩
  ·cases h
 ·cases h
theorem PE (ht:fJ P G) {x:Operand} {T T':TypeId} (S:Sat N W w0 Z pl L a w) {s:SV G} (hx:dB L x=some s) {n:Int} (hn:Yv (G.tab T) L s=some n): ∀w',(Builtin.len_ #[T] T' #[a.eval x]).run P w'= .ok (.int .i64 n) w':=by
 intro w';have q:=aK S hx;unfold Yv at hn
 split at hn
 ·rename_i y hT;injection hn with hn
  subst hn;rw[oD q];simp[Builtin.len_,dK ((ht T _ hT).str rfl),goInt]
 ·rename_i e t hT;injection hn with hn
  subst hn;rw[show a.eval x= .slice none 0 0 from q.1]
  simp[Builtin.len_,dK ((ht T _ hT).sl e t rfl).1,goInt]
 ·rename_i e t l hnn hT
  split at hn
  ·rename_i e' t' xs hro;injection hn with hn
   subst hn;rcases Uw S q hro with⟨c,h1,h2⟩|⟨A,c,h1⟩
   ·subst h2;rw[h1];simp[Builtin.len_,dK ((ht T _ hT).sl e t rfl).1,goInt]
   ·rw[h1];simp[Builtin.len_,dK ((ht T _ hT).sl e t rfl).1,goInt]
  ·obtain⟨A,k,c,h1,h2⟩:=WL S.mem q hn;rw[h1,h2];simp[Builtin.len_,dK ((ht T _ hT).sl e t rfl).1,goInt]
 ·cases hn
theorem Nh (S:Sat N W w0 Z pl L a w) {lo:Option Operand} {l:Int} (h:Yw L lo=some l):(lo=none∧l=0)∨ ∃x k,lo=some x∧a.eval x= .int k l:=by
 cases lo with
 |none=>injection h with h;exact .inl ⟨rfl,h.symm⟩
 |some x=>obtain⟨k,hk⟩:=nG S h;exact .inr ⟨x,k,rfl,hk⟩
theorem YS (S:Sat N W w0 Z pl L a w) {n:Int} {hi:Option Operand} {l:Int} (h:hiK L n hi=some l):(hi=none∧l=n)∨ ∃x k,hi=some x∧a.eval x= .int k l:=by
 cases hi with
 |none=>injection h with h;exact .inl ⟨rfl,h.symm⟩
 |some x=>obtain⟨k,hk⟩:=nG S h;exact .inr ⟨x,k,rfl,hk⟩
theorem oP {k:IntKind} {n:Int} {y:Nat} {code:BoundsCode} (h0:0≤n) (h1:n≤(y:Int)):(Instr.sliceBound (.int k n) y code).run P w= .ok n.toNat w:=by
 simp only[Instr.sliceBound,asIntOf,Sem.run_bind,Sem.run_pure,Result.andThen_ok];rw[if_pos ⟨h0,h1⟩]
 rfl
theorem wM (S:Sat N W w0 Z pl L a w) {lo hi:Option Operand} {l h:Int} {len cap:Nat} {isS:Bool} (hl:Yw L lo=some l) (hh:hiK L (len:Int) hi=some h) (h0:0≤l) (h1:l≤h) (h2:h≤(len:Int)) (h3:len≤cap) (w':World):
  (Instr.sliceBounds isS len cap (lo.map a.eval) (hi.map a.eval) none).run P w'= .ok (l.toNat,h.toNat,cap) w':=by
 unfold Instr.sliceBounds;rcases YS S hh with⟨rfl,rfl⟩|⟨x,k,rfl,hx⟩
 ·rcases Nh S hl with⟨rfl,rfl⟩|⟨y,k',rfl,hy⟩
  ·simp
  ·have hb: ∀code,(Instr.sliceBound (a.eval y) len code).run P w'= .ok l.toNat w':=fun code=>by rw[hy];exact oP h0 h1
   simp[hb]
 ·have hc: ∀code,(Instr.sliceBound (a.eval x) cap code).run P w'= .ok h.toNat w':=fun code=>by rw[hx];exact oP (by omega) (by omega)
  rcases Nh S hl with⟨rfl,rfl⟩|⟨y,k',rfl,hy⟩
  ·simp[hc]
  ·have hb: ∀code,(Instr.sliceBound (a.eval y) h.toNat code).run P w'= .ok l.toNat w':=fun code=>by rw[hy];exact oP h0 (by omega)
   simp[hc,hb]
theorem JV (S:Sat N W w0 Z pl L a w) {lo:Option Operand} {xh xm:Operand} {l h m:Int} {len cap:Nat} (hl:Yw L lo=some l) (hh:intOf (dB L xh)=some h) (hm:intOf (dB L xm)=some m) (h0:0≤l) (h1:l≤h) (h2:h≤(len:Int)) (h3:len≤cap) (hmh:m=h) (w':World):
  (Instr.sliceBounds true len cap (lo.map a.eval) (some (a.eval xh)) (some (a.eval xm))).run P w'= .ok (l.toNat,h.toNat,h.toNat) w':=by
 subst hmh;obtain⟨k1,e1⟩:=nG S hh;obtain⟨k2,e2⟩:=nG S hm;unfold Instr.sliceBounds;have hc: ∀code,(Instr.sliceBound (a.eval xm) cap code).run P w'= .ok m.toNat w':=fun code=>by rw[e2];exact oP (by omega) (by omega)
 have hc2: ∀code,(Instr.sliceBound (a.eval xh) m.toNat code).run P w'= .ok m.toNat w':=fun code=>by rw[e1];exact oP (by omega) (by omega)
 rcases Nh S hl with⟨rfl,rfl⟩|⟨y,k',rfl,hy⟩
 ·simp[hc,hc2]
 ·have hb: ∀code,(Instr.sliceBound (a.eval y) m.toNat code).run P w'= .ok l.toNat w':=fun code=>by rw[hy];exact oP h0 (by omega)
  simp[hc,hc2,hb]
theorem EI {α:Type} (xs:List α) (l h:Nat) (hh:h≤xs.length):((xs.take h).drop l).length=h-l:=by rw[List.length_drop,List.length_take];omega
theorem bP.sub {e:TypeId} {t:Ty} {xs:List (G.D t)} {A:Option Addr} {n c:Nat} (H:bP G Z w (.sl e t) xs [.slice A n c]) (l h m:Nat) (h1:l≤h) (h2:h≤xs.length) (h3:h≤m):
  bP G Z w (.sl e t) ((xs.take h).drop l) [.slice (if m=l then A else A.map (·.add (l*G.aY t))) (h-l) (m-l)]:=by
 generalize hq:([.slice A n c]:List Value)=q at H;cases H with
 |sl _ _ _ A' c' b o cs hc hA hl hz hr=>
  injection hq with hq _
  injection hq with e1 e2 e3
  subst e1 e2 e3;have hlen:((xs.take h).drop l).length=h-l:=by rw[List.length_drop,List.length_take];omega
  rw[←hlen];refine .sl e t _ _ _ b (o+l*G.aY t) (fun i=>cs (l+i)) (by omega) ?_ (fun i hi=>hl _ (by omega)) (fun i j v hi hj=> ?_) (fun i hi=> ?_)
  ·by_cases h0:h-l=0
   ·exact .inl (by omega)
   ·right;rcases hA with hA|hA
    ·omega
    ·rw[if_neg (by omega),hA,Option.map_some,qN]
  ·have:=hz (l+i) j v (by omega) hj
   rw[Nat.add_mul,←Nat.add_assoc]at this;exact this
  ·have:=hr (l+i) (by omega)
   simpa using this
theorem dR.from {t:Ty} {xs:List (G.D t)} {vs:List Value} {fp:List Nat} (h:dR G Z w t xs vs fp) {l:Nat} (h0:0<l) (hl:l≤xs.length): ∃A B,fp=A++B∧dR G Z w t (xs.drop l) (vs.drop (l*G.aY t)) B:=by
 obtain⟨A,F,B,e,_,k⟩:=h.cut (q:=l-1) (by omega)
 rw[show l-1+1=l by omega]at k
 exact⟨A++F,B,by rw[e,List.append_assoc],k⟩
theorem QM (ht:fJ P G) {T:TypeId} {x:Operand} {lo:Option Operand} {e:TypeId} {t:Ty} {q1 q2 q3} (hT:G.tab T=some ⟨q1,q2,q3,some (.sl e t)⟩) {lf:bD G} (hx:dB L x=some (.one lf)) {i:Nat} (hf:foB L lf=some i) {l:Int} (hl:Yw L lo=some l)
  (h:sliceT E o L i l e t K=some r) (S:Sat E.N W w0 Z pl L a w) (exe: ∀u,(∀w',(Instr.sliceAt T (a.eval x) (lo.map a.eval) none none).run P w'= .ok u w')→ ∀w',(execOp a.eval o).run P w'= .ok (.value u) w') (hK:Then E W w0 K r next):o.pu P a w next:=by
 obtain⟨hu,ii,z,hie,hsz,_⟩:=(ht T _ hT).sl e t rfl;have hv:=aK S hx;have hfo:jB G.own=true∧Be (pl i) (a.eval x)∧i<L.nx:=by
  unfold foB at hf
  split at hf
  ·cases hf
  ·rename_i hd
   split at hf
   ·split at hf
    ·injection hf with hf;subst hf;exact⟨hd,.inl hv.1.2,hv.1.1⟩
    ·cases hf
   ·split at hf
    ·injection hf with hf;subst hf;exact⟨hd,hv.1.2,hv.1.1⟩
    ·cases hf
   ·cases hf
 obtain⟨hd,hw,hix⟩:=hfo;unfold sliceT at h;cases L with
 |mk tm ob nx=>
 simp only at h
 split at h
 ·rename_i e' t' xs j off o2 hg
  split at h
  ·rename_i hb hem;have he:=Ty.eq_of_beq hb;injection he with he1 he2
   subst he1 he2
   split at h
   ·rename_i hjl
    split at h
    ·rename_i hll;have M:Mem W w0 Z pl ob nx w:=S.mem;obtain⟨f,T0⟩:=M.tr;obtain⟨vs,o1,k2,k3,k4,_,A,B,ef,hole⟩:=T0.rep i _ hg;have own: ∃vs',dR G Z w t (xs.drop l.toNat) (vs.drop (l.toNat*G.aY t)) vs'∧ ∃A',f i=A'++vs':=by
      have fin: ∀(e2:TypeId) (t2:Ty) (y:G.D t),Jh t (xs.getD j (y7 G t)) off ⟨.sl e2 t2,([]:List (G.D t2))⟩=some y→ ∃vs',dR G Z w t (xs.drop l.toNat) (vs.drop (l.toNat*G.aY t)) vs'∧ ∃A',f i=A'++vs':=by
       intro e2 t2 y hy;have H:=hole Z w (BC.refl Z w _) (.sl e2 t2) ([]:List (G.D t2)) (.slice none 0 0) [] y (fD.lN e2 t2) hy;obtain⟨A',B',e1,e2⟩:=H.from (l:=l.toNat) (by omega) (by rw[List.length_set];omega)
       rw[List.drop_set_of_lt (by omega)]at e2
       have hlt:j*G.aY t+off<l.toNat*G.aY t:=by
        have:(j+1)*G.aY t≤l.toNat*G.aY t:=Nat.mul_le_mul_right _ (by omega)
        rw[Nat.add_mul,Nat.one_mul]at this;omega
       rw[List.drop_set_of_lt hlt]at e2;exact⟨B',e2,A',by rw[ef,←e1];simp⟩
      unfold TW at hem
      split at hem
      ·split at hem
       ·rename_i y hy;exact fin _ _ y hy
       ·cases hem
      ·split at hem
       ·rename_i y hy;exact fin _ _ y hy
       ·cases hem
      ·cases hem
     obtain⟨D,hD,A',eD⟩:=own;have hDi: ∀k,k∈D→k∈f i:=fun k hk=>by rw[eD];exact List.mem_append_right _ hk
     have hDn:D.Nodup:=by have:=T0.nd i;rw[eD]at this;exact(List.nodup_append.1 this).2.1
     have live': ∀o' b,get ((i,Ob.dead)::ob) o'=some b→live b=true→get ob o'=some b:=by
      intro o' b hgb hl;have hne':i≠o':=by intro ee;subst ee;rw[cu]at hgb;cases hgb;cases hl
      rwa [dP _ _ hne']at hgb
     have T1:=(T0.kill i).set i D (fun b hb=>by rw[cu]at hb;cases hb;trivial) hDn (fun k hk=> .inl (hDi k hk))
     have T2:=T1.put i (.tk e t xs l.toNat) (by
      show j_ Z w pl nx (if i=i then D else f i) i (.tk e t xs l.toNat);rw[if_pos rfl];exact⟨vs,o1,hD⟩) (fun _ k hk o' hm=>by
      have hm:k∈(if o'=i then D else f o'):=hm
      split at hm
      ·exact T0.root i k i _ (hDi k hm) hg rfl hk
      ·exact T0.root o' k i _ hm hg rfl hk)
     have M2:Mem W w0 Z pl ((i,.tk e t xs l.toNat)::(i,.dead)::ob) nx w:=(M.kill i hix).add i (.tk e t xs l.toNat) hix ⟨vs,o1⟩ (fun _ k hk=>
      ⟨M.own i (.fo e t xs j off o2) k hg rfl hk,M.dU i _ k hg rfl hk,fun o' b' ho' hg' hl' hk'=>ho' (M.sep o' i b' _ k (live' o' b' hg' hl') hl' hg rfl hk' hk)⟩) ⟨_,T2⟩
     have M3:Mem W w0 Z pl ((i,.tk e t xs l.toNat)::ob) nx w:=M2.congr fun m=>by
      simp only[bn]
      split
      ·rfl
      ·rfl
     have hlen:0<xs.length:=by omega
     rcases o1.2 with⟨_,e2⟩|⟨g,cap,cur,e1,e0,e3,e4,_⟩
     ·omega
     have hval:a.eval x= .slice (some ⟨g,0,none⟩) xs.length cap:=by
      rcases hw with hw|⟨hw,_⟩
      ·rw[hw];exact e1
      ·rw[e1]at hw;cases hw
     have hh:hiK (⟨tm,ob,nx⟩:St G) (xs.length:Int) none=some (xs.length:Int):=rfl;have hb2:=wM (P:=P) (isS:=true) (len:=xs.length) (cap:=cap) S hl hh (by omega) (by omega) (by omega) e4
     refine dW (exe (.slice (if cap=l.toNat then some ⟨g,0,none⟩ else(some (⟨g,0,none⟩:Addr)).map (·.add (l.toNat*G.aY t))) (xs.length-l.toNat) (cap-l.toNat)) ?_) h (S.at (L':=⟨tm,_,nx⟩) (Ext.refl Z w pl nx) M3 rfl) ⟨⟨hix,g,xs.length,cap,e1,by omega,_,rfl,?_⟩,rfl⟩ hK
     ·intro w';rw[hval];have hb3:=hb2 w';rw[Option.map_none,Int.toNat_natCast]at hb3;simp only[Instr.sliceAt,Instr.slice,Sem.run_bind,dK hu,Result.andThen_ok,hb3,lW hie,hsz,Sem.run_pure]
     ·intro hlt;rw[if_neg (by omega),Option.map_some,qN,Nat.zero_add]
    ·cases h
   ·cases h
  ·cases h
 ·cases h
theorem JW (ht:fJ P G) {T:TypeId} {x:Operand} {lo hi mx:Option Operand} (ho:o.op= .slice T x lo hi mx) (h:bJ E o L K=some r) (S:Sat E.N W w0 Z pl L a w) (hK:Then E W w0 K r next):o.pu P a w next:=by
 have exe: ∀u,(∀w',(Instr.sliceAt T (a.eval x) (lo.map a.eval) (hi.map a.eval) (mx.map a.eval)).run P w'= .ok u w')→ ∀w',(execOp a.eval o).run P w'= .ok (.value u) w':=by
  intro u hu w';unfold execOp;rw[ho];exact jE _ (hu w')
 simp only[bJ,ho]at h
 split at h
 ·rename_i s hT hx;have hu:=(ht T _ hT).str rfl
  split at h
  ·cases h
  ·split at h
   ·rename_i l hh hl hhh
    split at h
    ·rename_i h0
     split at h
     ·rename_i h1
      split at h
      ·rename_i h2;have e:=oD (aK S hx);refine dW (exe (.string (s.extract l.toNat hh.toNat)) ?_) h S (xX _) hK;intro w';have hb:=wM (P:=P) (isS:=false) (len:=s.size) (cap:=s.size) S hl hhh h0 h1 h2 (Nat.le_refl _) w';rw[e];simp only[Instr.sliceAt,Instr.slice,Sem.run_bind,dK hu,Result.andThen_ok,Option.map_none,Option.isSome_none,Bool.false_eq_true,if_false,hb,Sem.run_pure]
      ·cases h
     ·cases h
    ·cases h
   ·cases h
 ·rename_i e t lf hT hx;obtain⟨hu,i,z,hie,hsz,_⟩:=(ht T _ hT).sl e t rfl
  split at h
  ·rename_i i hf
   split at h
   ·rename_i l hl;exact QM ht hT hx hf hl h S exe hK
   ·cases h
  split at h
  ·rename_i v L' YM;obtain⟨Z',T',ty,R1⟩:=xP YM S.mem (aK S hx);have S':=T'.sat S
   split at h
   ·rename_i xs hxs;have R2:=bP.cast hxs R1;obtain⟨A,c,hq,hc⟩: ∃A c,a.eval x= .slice A xs.length c∧xs.length≤c:=by
     generalize a.eval x=q at R2;cases R2 with|sl _ _ _ A c _ _ _ hc=>exact⟨A,c,rfl,hc⟩
    rw[hq]at R2
    split at h
    ·rename_i l hh hl hhh
     split at h
     ·split at h
      ·rename_i h0
       split at h
       ·rename_i h1
        split at h
        ·rename_i h2;have h0:0≤l:=h0;have h1:l≤hh:=h1;have h2:hh≤(xs.length:Int):=h2;have hb:=wM (P:=P) (isS:=true) (len:=xs.length) (cap:=c) S hl hhh h0 h1 h2 hc;refine dW (exe _ ?_) h S' ⟨R2.sub l.toNat hh.toNat c (by omega) (by omega) (by omega),rfl⟩ hK
         intro w';rw[hq];simp only[Instr.sliceAt,Instr.slice,Sem.run_bind,dK hu,Result.andThen_ok,Option.map_none,hb w',lW hie,hsz,Sem.run_pure]
        ·cases h
       ·cases h
      ·cases h
     ·rename_i xm
      split at h
      ·cases h
      ·rename_i xh
       split at h
       ·rename_i m hm
        split at h
        ·rename_i h0
         split at h
         ·rename_i h1
          split at h
          ·rename_i h2
           split at h
           ·rename_i h3;have h0:0≤l:=h0;have h1:l≤hh:=h1;have h2:hh≤(xs.length:Int):=h2;have hb:=JV (P:=P) (len:=xs.length) (cap:=c) S hl hhh hm h0 h1 h2 hc h3;have R3:=R2.sub l.toNat hh.toNat hh.toNat (by omega) (by omega) (Nat.le_refl _)
            have hlen:=EI (show List (G.D t) from xs) l.toNat hh.toNat (show hh.toNat≤List.length xs by omega)
            refine dW (exe _ ?_) h S' ⟨⟨R3,⟨_,by rw[hlen]⟩⟩,rfl⟩ hK
            intro w';rw[hq];simp only[Instr.sliceAt,Instr.slice,Sem.run_bind,dK hu,Result.andThen_ok,Option.map_some,hb w',lW hie,hsz,Sem.run_pure]
           ·cases h
          ·cases h
         ·cases h
        ·cases h
       ·cases h
    ·cases h
   ·cases h
  ·cases h
 ·cases h
theorem PG (S:Sat N W w0 Z pl L a w): ∀{xs:List Operand} {is:List Nat},TQ L xs=some is→(∀i∈is,i<L.nx∧ ∃b,pl i= .pointer (some ⟨b,0,none⟩))∧xs.map a.eval=is.map pl
 | [],is,h=>by simp only[TQ,Option.some.injEq]at h;subst h;exact⟨fun i hi=>absurd hi List.not_mem_nil,rfl⟩
 |x::xs,is,h=>by
  simp only[TQ]at h
  split at h
  ·rename_i i hx
   split at h
   ·rename_i l hl;injection h with h
    subst h;obtain⟨k1,k2⟩:=PG S hl;obtain⟨⟨h1,b,hb,hv⟩,_⟩:=aK S hx;refine⟨fun j hj=> ?_,by rw[List.map_cons,List.map_cons,k2,hv,hb]⟩
    rcases List.mem_cons.1 hj with hj|hj
    ·rw[hj];exact⟨h1,b,hb⟩
    ·exact k1 j hj
   ·cases h
  ·cases h
theorem JX {f:FuncId} {fst caps:Array Operand} (ho:o.op= .makeFunc (.func f) fst caps) (h:bJ E o L K=some r) (S:Sat E.N W w0 Z pl L a w) (hK:Then E W w0 K r next):o.wp P a w next Q:=by
 simp only[bJ,ho]at h
 split at h
 ·rename_i abM
  split at h
  ·rename_i is his;obtain⟨k1,k2⟩:=PG S his;have hf:fst= #[]:=by cases fst;simpa using abM
   subst hf;refine jc (u:= .func (.func f) #[] (is.map pl).toArray) ?_ h S ⟨⟨k1,rfl⟩,rfl⟩ hK;unfold execOp;rw[ho];refine jE _ ?_;simp only[Instr.makeFunc,List.map_toArray,List.map_nil,Sem.run_pure]
   congr 2
   rw[←k2];cases caps;simp
  ·cases h
 ·cases h
theorem foldl_set: ∀(us:List Value) (k off:Nat) (arr:List Value),off+k+us.length≤arr.length→(us.zipIdx k).foldl (fun(cs:Array Value) (p:Value×Nat)=>cs.setIfInBounds (off+p.2) p.1) arr.toArray=(RX.setAt arr (off+k) us).toArray
 | [],k,off,arr,_=>by
  have:RX.setAt arr (off+k) []=arr:=by
   apply List.ext_getElem?;intro j;rw[gZ _ _ _ _ (by simpa using by assumption),if_neg (by simp<;>omega)]
  rw[this];rfl
 |u::us,k,off,arr,h=>by
  simp only[List.zipIdx_cons,List.foldl_cons,List.setIfInBounds_toArray];rw[foldl_set us (k+1) off (arr.set (off+k) u) (by rw[List.length_set];simp only[List.length_cons]at h;omega)]
  congr 1
  apply List.ext_getElem?;intro j;simp only[List.length_cons]at h;rw[gZ _ _ _ _ (by rw[List.length_set];omega),gZ _ _ _ _ (by simp only[List.length_cons];omega),List.length_cons]
  by_cases h1:j=off+k
  ·subst h1;rw[if_neg (by omega),if_pos (by omega),List.getElem?_set_self (by omega),Nat.sub_self]
   rfl
  ·by_cases h2:off+(k+1)≤j∧j<off+(k+1)+us.length
   ·rw[if_pos h2,if_pos (by omega),show j-(off+k)=(j-(off+(k+1)))+1 by omega,List.getElem?_cons_succ]
   ·rw[if_neg h2,if_neg (by omega),List.getElem?_set_ne (by omega)]
theorem uB (us:Array Value) (off:Nat) (arr:List Value) (h:off+us.toList.length≤arr.length):us.zipIdx.foldl (fun(cs:Array Value) (p:Value×Nat)=>cs.setIfInBounds (off+p.2) p.1) arr.toArray=(RX.setAt arr off us.toList).toArray:=by
 rw[←Array.foldl_toList,Array.toList_zipIdx];exact foldl_set us.toList 0 off arr (by simpa using h)
theorem FH (S:Sat N W w0 Z pl L a w) {fl:List (Nat×Nat)}: ∀{ps:List (Nat×Operand)} {ls ls':List (bD G)} {cs:List Value},Cm L fl ps ls=some ls'→dS Z w pl L.nx ls cs→(∀f d n,nth fl f=some (d,n)→d+n≤ls.length)→
  ∃cs',Instr.fill (fl.toArray[·]?) cs.toArray (ps.map fun(p:Nat×Operand)=>(p.1,a.eval p.2))=some cs'.toArray∧dS Z w pl L.nx ls' cs'
 | [],ls,ls',cs,h,hl,_=>by simp only[Cm,Option.some.injEq]at h;subst h;exact⟨cs,rfl,hl⟩
 |(i,x)::ps,ls,ls',cs,h,hl,hf=>by
  simp only[Cm]at h
  split at h
  ·rename_i off n hfl
   split at h
   ·rename_i s hx
    split at h
    ·rename_i hn;rw[len_eq]at hn;have hn:=Nat.eq_of_beq_eq_true hn;have hv:=(aK S hx).cells;have hvl:=hv.length;have hcl:=hl.length;have hle:=hf i off n hfl;obtain⟨cs',k1,k2⟩:=FH S h (hl.setAt hv (by omega)) (fun f d n hh=>by rw[bW];exact hf f d n hh)
     refine⟨cs',?_,k2⟩;rw[List.map_cons,Instr.fill];have e1:fl.toArray[i]? =some (off,n):=by rw[List.getElem?_toArray,←lT];exact hfl
     have e2:(a.eval x).cells.size=n:=by rw[←Array.length_toList,hvl,hn]
     simp only[e1];rw[if_neg (by rw[e2];simp only[ne_eq,not_true_eq_false,decide_false,Bool.false_or,decide_eq_true_eq,List.size_toArray];omega)]
     rw[uB _ off cs (by rw[hvl];omega)]
     exact k1
    ·cases h
   ·cases h
  ·cases h
theorem JY (ht:fJ P G) {T:TypeId} {ps:Array (Nat×Operand)} (ho:o.op= .build T ps) (h:bJ E o L K=some r) (S:Sat E.N W w0 Z pl L a w) (hK:Then E W w0 K r next):o.pu P a w next:=by
 simp only[bJ,ho]at h
 split at h
 ·rename_i ti hti;have tk:=ht T ti hti
  split at h
  ·rename_i hagg
   split at h
   ·rename_i ls hls
    split at h
    ·rename_i ls' hb;have hz:Cj (G:=G) ti.leaves≠none:=by rw[hls];exact Option.some_ne_none _
     obtain⟨i,hi,hsz,MC⟩:=tk.size;obtain⟨fs,hu,hpl⟩:=tk.Z5 hagg;have hc:=wK tk.one hz;obtain⟨z1,z2⟩:=CW (Z:=Z) (w:=w) (pl:=pl) (nx:=L.nx) hls;obtain⟨cs',k1,k2⟩:=FH S hb z1 (fun f d n hh=>by obtain⟨_,_,_,_,_,q,_⟩:=tk.vP f d n hh;rw[z2];exact q)
     refine dW (u:= .agg cs'.toArray) (fun w'=> ?_) h S ⟨cs',rfl,k2⟩ hK
     unfold execOp;rw[ho];refine jE _ ?_;have hcc:(oC ti).cells=(ti.leaves.map zv).toArray:=by rw[←hc]
     have hps:(ps.map fun(p:Nat×Operand)=>(p.1,a.eval p.2)).toList=ps.toList.map fun(p:Nat×Operand)=>(p.1,a.eval p.2):=Array.toList_map
     simp only[Instr.build,Sem.run_bind,xU hi (MC hz),Result.andThen_ok,dK hu,Array.mapM_eq_mapM_toList,Sem.run_map];have:=run_places (P:=P) w' fs.toList ti.vP hpl;have h2:(fs.toList.mapM fun f=>(do pure (f.offset,←Go.sizeOf f.type):Sem (Nat×Nat))).run P w'= .ok ti.vP w':=this
     rw[h2];simp only[Result.andThen_ok,hcc];rw[hps,k1]
     rfl
    ·cases h
   ·cases h
  ·cases h
 ·cases h
theorem FI (hs:fH G) {t:Ty}: ∀{ps:List (Nat×Operand)} {j:Nat} {L L':St G} {xs:List (G.D t)} {Z:Nat→Nat→Prop},CB t j ps L=some (xs,L')→Sat N W w0 Z pl L a w→
  ∃Z' vs,jU W w0 w Z pl L Z' pl L'∧gX G Z' w t xs vs∧xs.length=ps.length∧
   ∀(pre post:List Value),pre.length=j*G.aY t→vs.length≤post.length→
    Instr.fill (fun i=>some (i*G.aY t,G.aY t)) (pre++post).toArray (ps.map fun(p:Nat×Operand)=>(p.1,a.eval p.2))=some (pre++vs++post.drop vs.length).toArray
 | [],j,L,L',xs,Z,h,S=>by
  simp only[CB,Option.some.injEq,Prod.mk.injEq]at h;obtain⟨rfl,rfl⟩:=h;exact⟨Z,[],.refl S.mem,rfl,rfl,fun pre post _ _=>by simp[Instr.fill]⟩
 |(i,x)::ps,j,L,L',xs,Z,h,S=>by
  simp only[CB]at h
  split at h
  ·rename_i hij;have hij:=Nat.eq_of_beq_eq_true hij;subst hij
   split at h
   ·rename_i s hx
    split at h
    ·rename_i v L1 hv
     split at h
     ·rename_i y hy
      split at h
      ·rename_i ys L2 hys;simp only[Option.some.injEq,Prod.mk.injEq]at h;obtain⟨rfl,rfl⟩:=h;obtain⟨Z1,T1,ty,R1⟩:=xQ hs hv S.mem (aK S hx);have S1:=T1.sat S;obtain⟨Z2,vs,T2,R2,hlen,JZ⟩:=FI hs hys S1;have YF:=(bP.cast hy R1).mono T2.ext.hZ T2.ext.hw;have hcl:(a.eval x).cells.toList.length=G.aY t:=YF.length hs;refine⟨Z2,(a.eval x).cells.toList++vs,T1.trans T2,⟨_,vs,rfl,hcl,YF,R2⟩,by simp[hlen],fun pre post hp hpo=> ?_⟩
       rw[List.length_append]at hpo;rw[List.map_cons,Instr.fill];simp only;have hsz:(a.eval x).cells.size=G.aY t:=by rw[←hcl];exact Array.length_toList.symm
       rw[if_neg (by rw[hsz];simp only[ne_eq,not_true_eq_false,decide_false,Bool.false_or,decide_eq_true_eq,List.size_toArray,List.length_append];omega)]
       rw[uB _ (i*G.aY t) (pre++post) (by rw[hcl,List.length_append];omega)]
       have e1:RX.setAt (pre++post) (i*G.aY t) (a.eval x).cells.toList=(pre++(a.eval x).cells.toList)++post.drop (a.eval x).cells.toList.length:=by
        have:=lD pre post (a.eval x).cells.toList 0;rw[Nat.add_zero,hp]at this;rw[this];have h3:post=post.take (a.eval x).cells.toList.length++post.drop (a.eval x).cells.toList.length:=(List.take_append_drop _ _).symm;have h4:=iF (post.take (a.eval x).cells.toList.length) (post.drop (a.eval x).cells.toList.length) (a.eval x).cells.toList (by rw[List.length_take];omega)
        rw[←h3]at h4;rw[h4,List.append_assoc]
       rw[e1];have:=JZ (pre++(a.eval x).cells.toList) (post.drop (a.eval x).cells.toList.length) (by rw[List.length_append,hp,hcl,Nat.add_mul,Nat.one_mul]) (by rw[List.length_drop];omega)
       rw[this,List.drop_drop,List.length_append];simp only[List.append_assoc]
      ·cases h
     ·cases h
    ·cases h
   ·cases h
  ·cases h
theorem Hz (ht:fJ P G) {T:TypeId} {n:Nat} {ps:Array (Nat×Operand)} (ho:o.op= .buildSlice T n ps) {e:TypeId} {t:Ty} {l1:List Tm} {l2:List (Nat×Nat)} {l3:Bool} (hT:G.tab T=some ⟨l1,l2,l3,some (.sl e t)⟩) (hbig:n*G.aY t≤16777216) {vs:List Value}
  (JZ: ∀post:List Value,post.length=n*G.aY t→Instr.fill (fun i=>some (i*G.aY t,G.aY t)) post.toArray (ps.toList.map fun(p:Nat×Operand)=>(p.1,a.eval p.2))=some vs.toArray):
  (execOp a.eval o).run P w= .ok (.value (.slice (some ⟨w.heap.size,0,none⟩) n n)) (w.alloc (.cells vs.toArray e)):=by
 obtain⟨hu,i,z,hie,hsz,MC,hzs,hpos,_,hcap⟩:=(ht T _ hT).sl e t rfl;unfold execOp;rw[ho];refine jE _ ?_;have hps:(ps.map fun(p:Nat×Operand)=>(p.1,a.eval p.2)).toList=ps.toList.map fun(p:Nat×Operand)=>(p.1,a.eval p.2):=Array.toList_map
 simp only[Instr.buildSlice,Sem.run_bind,dK hu,Result.andThen_ok,lW hie,hsz];rw[if_neg (by omega)]
 have hf:=JZ ((Array.range (n*G.aY t)).map (z.cells[· %z.cells.size]!)).toList (by simp)
 have hf':Instr.fill (fun i=>some (i*G.aY t,G.aY t)) (Array.map (fun x=>z.cells[x%z.cells.size]!) (Array.range (n*G.aY t))) (Array.map (fun(x:Nat×Operand)=>(x.1,a.eval x.2)) ps).toList=some vs.toArray:=by
  rw[hps];rw[Array.toArray_toList]at hf;exact hf
 by_cases h0:n*G.aY t=0
 ·rw[if_pos h0];have e0:Array.map (fun x=>(#[]:Array Value)[x%(#[]:Array Value).size]!) (Array.range (n*G.aY t))=Array.map (fun x=>z.cells[x%z.cells.size]!) (Array.range (n*G.aY t)):=by rw[h0];simp
  rw[Sem.run_bind];simp only[Sem.run_pure,Result.andThen_ok];rw[e0,hf']
  rfl
 ·rw[if_neg h0,Sem.run_bind,xU hie MC];simp only[Result.andThen_ok];rw[Sem.run_bind];simp only[Sem.run_pure,Result.andThen_ok];rw[hf']
  rfl
theorem WM {l l':bD G} {L L':St G} (h:GU l L=(l',L')) (M:Mem W w0 Z pl L.objs L.nx w) {u:Value} (hu:gB Z w pl L.nx l u): ∃Z',jU W w0 w Z pl L Z' pl L'∧gB Z' w pl L'.nx l' u:=by
 have same:l'=l→L'=L→ ∃Z',jU W w0 w Z pl L Z' pl L'∧gB Z' w pl L'.nx l' u:=by
  intro e1 e2;subst e1 e2;exact⟨Z,jU.refl M,hu⟩
 have keep:(l,L)=(l',L')→ ∃Z',jU W w0 w Z pl L Z' pl L'∧gB Z' w pl L'.nx l' u:=by
  intro e;injection e with e1 e2
  exact same e1.symm e2.symm
 unfold GU at h
 split at h
 ·exact keep h
 ·split at h
  ·rename_i o;obtain⟨ho,hv⟩:=hu.1;have vU: ∀(e:TypeId) (t:Ty) (xs:List (G.D t)),(get L.objs o=some (.arr e t xs)∨get L.objs o=some (.tr e t xs))→((.val (.sl e t) xs:bD G),freeze L o)=(l',L')→ ∃Z',jU W w0 w Z pl L Z' pl L'∧gB Z' w pl L'.nx l' u:=by
    intro e t xs hg hh;injection hh with e1 e2
    subst e1 e2;obtain⟨Z',X,M',R,one⟩:=M.freeze hg;refine⟨Z',⟨by rw[gY];exact X,by rw[gY];exact M',jD L o⟩,?_,hu.2⟩
    show bP G Z' w _ _ [u];rw[hv];exact R
   split at h
   ·rename_i e t xs hg
    split at h
    ·exact vU e t xs (.inl hg) h
    ·exact keep h
   ·rename_i e t xs hg
    split at h
    ·exact vU e t xs (.inr hg) h
    ·exact keep h
   ·exact keep h
  ·injection h with e1 e2
   subst e1 e2;exact⟨Z,jU.refl M,hu.1.1,hu.2⟩
  ·exact keep h
theorem Dp: ∀(ls:List (bD G)) {ls':List (bD G)} {L L':St G} {Z:Nat→Nat→Prop},xI ls L=(ls',L')→Mem W w0 Z pl L.objs L.nx w→ ∀{us:List Value},dS Z w pl L.nx ls us→ ∃Z',jU W w0 w Z pl L Z' pl L'∧dS Z' w pl L'.nx ls' us
 | [],_,_,_,Z,h,M,us,hu=>by
  simp only[xI,Prod.mk.injEq]at h;obtain⟨rfl,rfl⟩:=h;exact⟨Z,jU.refl M,hu⟩
 |l::ls,_,L0,_,Z,h,M,us,hu=>by
  simp only[xI,Prod.mk.injEq]at h;obtain⟨rfl,rfl⟩:=h;have h1:GU l L0=((GU l L0).1,(GU l L0).2):=rfl;have h2:xI ls (GU l L0).2=((xI ls (GU l L0).2).1,(xI ls (GU l L0).2).2):=rfl;obtain⟨u,us',rfl,hu1,hu2⟩:=hu;obtain⟨Z1,S1,k1⟩:=WM h1 M hu1;obtain⟨Z2,S2,k2⟩:=Dp ls h2 S1.mem (hu2.mono S1.ext);exact⟨Z2,S1.trans S2,u,us',rfl,k1.mono S2.ext,k2⟩
theorem QN (hs:fH G) (ht:fJ P G) {T:TypeId} {n:Nat} {ps:Array (Nat×Operand)} (ho:o.op= .buildSlice T n ps) {e:TypeId} {t:Ty} {l1:List Tm} {l2:List (Nat×Nat)} {l3:Bool} (hT:G.tab T=some ⟨l1,l2,l3,some (.sl e t)⟩)
  (h:wE E o e t n ps.toList L K=some r) (S:Sat E.N W w0 Z pl L a w) (hK:Then E W w0 K r next):o.wp P a w next Q:=by
 have fin: ∀(Z:Nat→Nat→Prop) (xs:List (G.D t)) (vs:List Value) (tm:List (Nat×DV G)) (ob:List (Nat×Ob G)) (nx:Nat) (f:Nat→List Nat) (D:List Nat),xs.length=n→n≤maxLen→Sat E.N W w0 Z pl ⟨tm,ob,nx⟩ a w→eH W w0.heap.size Z pl ob nx w f→zi W w0.heap.size Z pl ob w f D→dR G Z w t xs vs D→vs.length=n*G.aY t→
   (execOp a.eval o).run P w= .ok (.value (.slice (some ⟨w.heap.size,0,none⟩) n n)) (w.alloc (.cells vs.toArray e))→(iZ (.tr e t xs) ⟨tm,ob,nx⟩ fun i L'=>out E o (.sv (.one (.h_ i))) L' K)=some r→o.wp P a w next Q:=by
  intro Z xs vs tm ob nx f D hn hnm S1 T1 hD hO hvl hrun h;simp only[iZ]at h
  let v:Value:= .slice (some ⟨w.heap.size,0,none⟩) n n
  have hpl:upd pl nx v nx=v:=upd_same _ _ _;have hold: ∀k,k<w.heap.size→(w.alloc (.cells vs.toArray e)).heap[k]? =w.heap[k]? :=fun k hk=>Below.heap_alloc w _ _ hk
  have hrow:(w.alloc (.cells vs.toArray e)).ownsRow 0 e (G.aY t) (upd pl nx v nx) xs.length vs:=by
   rw[hpl,hn];have:=World.ownsRow_lit (e:=e) (size:=G.aY t) w vs.toArray n (Nat.zero_le _) hnm (by rw[List.size_toArray,hvl])
   simpa using this
  have M0:=S1.mem;have hO1:dR G Z (w.alloc (.cells vs.toArray e)) t xs vs D:=hO.mono ⟨fun k hk=>hold k (hD.mem k hk).2.2.2.2,fun _ _ h=>h,fun b i hz=>jC (hold b (M0.qL b i hz)) i⟩
  have X0:=(Ext.rP (Z:=Z) (pl:=pl) (nx:=nx) (w':=w.alloc (.cells vs.toArray e)) (fun b i hz=>hold b (M0.qL b i hz))).upd rfl v
  have hfr:Fr W w0.heap.size w (w.alloc (.cells vs.toArray e)):=Fr.kU (World.grownBy_alloc w _ none) M0.fr.size (fun k hk=>by cases hk)
  have K1:=M0.keep X0 (fun o b k hg hl hk=>⟨hold k (M0.blt hg hl hk),M0.dU o b k hg hl hk⟩) (fun b i hz=>Nat.lt_of_lt_of_le (M0.qL b i hz) hfr.size) (fun _ _ h=> .inl h) hfr ⟨f,T1,fun o k hk=>⟨hold k (T1.lt o k hk),T1.dU o k hk⟩⟩
  have T2:=T1.keep (dI:=upd pl nx v) (nx':=nx+1) (w':=w.alloc (.cells vs.toArray e)) (Z':=Z) M0.lt (Nat.le_succ _) X0.hp (fun o b k hg hl hk=>hold k (M0.blt hg hl hk)) X0.hZ X0.hw (fun o k hk=>⟨hold k (T1.lt o k hk),T1.dU o k hk⟩) hfr.size
  have hnone: ∀b,get ob nx=some b→False:=fun b hb=>Nat.lt_irrefl _ (M0.lt nx b hb)
  have T3:=T2.set nx D (fun b hb=>(hnone b hb).elim) hD.nd (fun k hk=>by
   obtain⟨a1,a2,a3,a4,a5⟩:=hD.mem k hk;exact .inr ⟨a1,fun o' b hgb hl hb=>a2 o' b hgb hl (by rw[←X0.hp o' (M0.lt o' b hgb)];exact hb),a3,a4,Nat.lt_of_lt_of_le a5 hfr.size⟩)
  have T4:=T3.put nx (.tr e t xs) (by
   show∃vs,_∧dR G _ _ t xs vs (if nx=nx then D else f nx);rw[if_pos rfl];exact⟨vs,hrow,hO1⟩) (fun _ k hk o' hm=>by
   rw[hpl]at hk;injection hk with hk
   subst hk;have hm:w.heap.size∈(if o'=nx then D else f o'):=hm
   split at hm
   ·exact Nat.lt_irrefl _ (hD.mem _ hm).2.2.2.2
   ·exact Nat.lt_irrefl _ (T1.lt o' _ hm))
  have M:Mem W w0 Z (upd pl nx v) ((nx,.tr e t xs)::ob) (nx+1) (w.alloc (.cells vs.toArray e)):=K1.add nx (.tr e t xs) (Nat.lt_succ_self _) ⟨vs,hrow⟩ (fun _ k hk=>by
   rw[hpl]at hk;injection hk with hk
   subst hk;refine⟨.inl M0.fr.size,fun j hz=>Nat.lt_irrefl _ (M0.qL _ j hz),fun o' b' ho' hg' hl' hk'=> ?_⟩
   rw[kZ pl v ho']at hk';exact Nat.lt_irrefl _ (M0.blt hg' hl' hk')) ⟨_,T4⟩
  exact jc hrun h (S1.at (L':=⟨tm,_,nx+1⟩) X0 M rfl) ⟨⟨Nat.lt_succ_self _,hpl.symm⟩,rfl⟩ hK
 unfold wE at h
 split at h
 ·rename_i hps
  split at h
  ·rename_i hn;have hn:=Nat.eq_of_beq_eq_true hn;subst hn;cases L with
   |mk tm ob nx=>
   obtain⟨f,T0⟩:=S.mem.tr;refine fin Z [] [] tm ob nx f [] rfl (Nat.zero_le _) S T0 zi.nil (.nil t) (by simp) (Hz ht ho hT (by simp) fun post hp=> ?_) h
   have:post= []:=List.eq_nil_of_length_eq_zero (by simpa using hp)
   subst this;rw[hps];simp[Instr.fill]
  ·cases h
 ·rename_i j x hps
  split at h
  ·rename_i ls hj hn hbig hx;have hj:=Nat.eq_of_beq_eq_true hj;have hn:=Nat.eq_of_beq_eq_true hn;have hbig:=jV.1 hbig;subst hj hn
   split at h
   rename_i lsF LF YT
   split at h
   ·rename_i ls' L1 gs habs
    split at h
    ·rename_i v L2 hv
     split at h
     ·rename_i y hy;obtain⟨hgs,h⟩:=uA h;obtain⟨cs,hcs,hls⟩:=aK S hx;obtain⟨ZF,SF,hls⟩:=Dp ls YT S.mem hls;have S:=SF.sat S;cases LF with
      |mk tm ob nx=>
      obtain⟨f,T0⟩:=S.mem.tr;obtain⟨fV,f1,l1,l2,lv,M1,T1,D1,_,_⟩:=Dh lsF habs hgs S.mem T0 zi.nil hls;obtain⟨Wy,xK,Eu⟩:=L1;have l1:Wy=tm:=l1;have l2:Eu=nx:=l2;subst l1 l2;rw[List.nil_append]at D1;obtain⟨_,_,hC⟩:=uy hs hv (us:=cs) (fV:=fV) lv;have:=fQ hy;subst this;have hcl:cs.length=G.aY t:=fD.length hs hC;have hO:dR G ZF w t [y] cs fV.flatten:=by
       have:=dR.cons t y [] cs [] fV.flatten [] hcl hC (.nil t)
       simpa using this
      refine fin ZF [y] cs Wy xK Eu f1 fV.flatten rfl (by simp[maxLen]) (S.at (L':=⟨Wy,xK,Eu⟩) (Ext.refl _ _ _ _) M1 rfl) T1 D1 hO (by rw[hcl,Nat.one_mul]) (Hz ht ho hT (by rw[Nat.one_mul];exact hbig) fun post hp=> ?_) h
      rw[hps,List.map_cons,List.map_nil,Instr.fill];simp only;have hcc:(a.eval x).cells.toList=cs:=by rw[hcs];simp[Value.cells]
      have hsz:(a.eval x).cells.size=G.aY t:=by rw[←hcl,←hcc];exact Array.length_toList.symm
      rw[Nat.one_mul]at hp;rw[if_neg (by rw[hsz];simp only[ne_eq,not_true_eq_false,decide_false,Bool.false_or,decide_eq_true_eq,List.size_toArray];omega)]
      rw[uB _ (0*G.aY t) post (by rw[hcc];omega),hcc]
      have:=iF post [] cs (by omega)
      rw[List.append_nil,List.append_nil]at this;rw[Nat.zero_mul,this];simp[Instr.fill]
     ·cases h
    ·cases h
   ·cases h
  ·cases h
 ·rename_i j x j' x' hps
  split at h
  ·rename_i ls ms hj hbig hx hx';rw[Bool.and_eq_true,Bool.and_eq_true]at hj;have hn:=Nat.eq_of_beq_eq_true hj.2.2;have hj':=Nat.eq_of_beq_eq_true hj.2.1;have hj:=Nat.eq_of_beq_eq_true hj.1;have hbig:=jV.1 hbig;subst hj hj' hn
   split at h
   rename_i lsF LF YT
   split at h
   ·rename_i ls' L1 gs habs
    split at h
    ·rename_i v _ v' _ hv hv'
     split at h
     ·rename_i y y' hy hy';obtain⟨hgs,h⟩:=uA h;obtain⟨cs,hcs,hls⟩:=aK S hx;obtain⟨cs',hcs',abO⟩:=aK S hx';obtain⟨ZF,SF,abP⟩:=Dp (ls++ms) YT S.mem (dS.append hls abO);have S:=SF.sat S;cases LF with
      |mk tm ob nx=>
      obtain⟨f,T0⟩:=S.mem.tr;obtain⟨fV,f1,l1,l2,lv,M1,T1,D1,_,_⟩:=Dh lsF habs hgs S.mem T0 zi.nil abP;obtain⟨Wy,xK,Eu⟩:=L1;have l1:Wy=tm:=l1;have l2:Eu=nx:=l2;subst l1 l2;rw[List.nil_append]at D1;have hk:cs.length=len ls:=by rw[len_eq];exact hls.length
      have lvA:=lv.take (len ls);have lvB:=lv.drop (len ls);rw[←hk,List.take_left]at lvA;rw[←hk,List.drop_left]at lvB;rw[hk]at lvA lvB;obtain⟨_,_,hC⟩:=uy hs hv lvA;obtain⟨_,_,hC'⟩:=uy hs hv' lvB;have:=fQ hy;subst this;have e':=fQ hy';subst e';have hcl:cs.length=G.aY t:=fD.length hs hC;have hcl':cs'.length=G.aY t:=fD.length hs hC';have hO:dR G ZF w t [y,y'] (cs++cs') fV.flatten:=by
       have:=dR.cons t y [y'] cs cs' _ _ hcl hC (by
        have:=dR.cons t y' [] cs' [] _ [] hcl' hC' (.nil t)
        simpa using this)
       have e:(fV.take (len ls)).flatten++(fV.drop (len ls)).flatten=fV.flatten:=by rw[←List.flatten_append,List.take_append_drop]
       rw[←e];exact this
      refine fin ZF _ (cs++cs') Wy xK Eu f1 fV.flatten rfl (by simp[maxLen]) (S.at (L':=⟨Wy,xK,Eu⟩) (Ext.refl _ _ _ _) M1 rfl) T1 D1 hO (by rw[List.length_append,hcl,hcl'];omega) (Hz ht ho hT hbig fun post hp=> ?_) h
      rw[hps,List.map_cons,List.map_cons,List.map_nil,Instr.fill];simp only;have hcc:(a.eval x).cells.toList=cs:=by rw[hcs];simp[Value.cells]
      have hsz:(a.eval x).cells.size=G.aY t:=by rw[←hcl,←hcc];exact Array.length_toList.symm
      have YU:(a.eval x').cells.toList=cs':=by rw[hcs'];simp[Value.cells]
      have hsz':(a.eval x').cells.size=G.aY t:=by rw[←hcl',←YU];exact Array.length_toList.symm
      rw[if_neg (by rw[hsz];simp only[ne_eq,not_true_eq_false,decide_false,Bool.false_or,decide_eq_true_eq,List.size_toArray];omega)]
      rw[uB _ (0*G.aY t) post (by rw[hcc];omega),hcc,Nat.zero_mul,Instr.fill]
      simp only;have hl1:(RX.setAt post 0 cs).length=post.length:=bW post 0 cs;rw[if_neg (by rw[hsz'];simp only[ne_eq,not_true_eq_false,decide_false,Bool.false_or,decide_eq_true_eq,List.size_toArray,hl1];omega)]
      rw[uB _ (1*G.aY t) _ (by rw[YU,hl1];omega),YU,Nat.one_mul]
      have p1:post=post.take (G.aY t)++post.drop (G.aY t):=(List.take_append_drop _ _).symm;have p2:RX.setAt post 0 cs=cs++post.drop (G.aY t):=by
       rw[p1];have:=iF (post.take (G.aY t)) (post.drop (G.aY t)) cs (by rw[List.length_take];omega)
       rw[this];simp
      have p3:RX.setAt (cs++post.drop (G.aY t)) (G.aY t) cs'=cs++cs':=by
       have:=lD cs (post.drop (G.aY t)) cs' 0;rw[Nat.add_zero,hcl]at this;rw[this];have q:=iF (post.drop (G.aY t)) [] cs' (by rw[List.length_drop];omega)
       rw[List.append_nil,List.append_nil]at q;rw[q]
      rw[p2,p3];simp[Instr.fill]
     ·cases h
    ·cases h
   ·cases h
  ·cases h
 ·cases h
theorem EJ (hs:fH G) (ht:fJ P G) {T:TypeId} {n:Nat} {ps:Array (Nat×Operand)} (ho:o.op= .buildSlice T n ps) (h:bJ E o L K=some r) (S:Sat E.N W w0 Z pl L a w) (hK:Then E W w0 K r next):o.wp P a w next Q:=by
 simp only[bJ,ho]at h
 split at h
 ·rename_i e t hT;obtain⟨hu,i,z,hie,hsz,MC,hzs,hpos,_,hcap⟩:=(ht T _ hT).sl e t rfl
  split at h
  ·exact QN hs ht ho hT h S hK
  split at h
  ·rename_i xs L' hel
   split at h
   ·rename_i hn;rw[len_eq]at hn;have hn:=Nat.eq_of_beq_eq_true hn
    split at h
    ·rename_i hbig;have hbig:=jV.1 hbig;obtain⟨Z',vs,T1,R1,hlen,JZ⟩:=FI hs hel S;have S1:=T1.sat S;have hvl:=R1.length;rw[hn]at hvl;have hf:=JZ [] ((Array.range (n*G.aY t)).map (z.cells[· %z.cells.size]!)).toList (by simp) (by simp[hvl])
     have hd:(((Array.range (n*G.aY t)).map (z.cells[· %z.cells.size]!)).toList).drop vs.length= []:=List.drop_eq_nil_of_le (by simp[hvl])
     rw[hd,List.nil_append,List.nil_append,List.append_nil]at hf;cases L' with
     |mk tm ob nx=>
     simp only[iZ]at h
     let v:Value:= .slice (some ⟨w.heap.size,0,none⟩) n n
     have hpl:upd pl nx v nx=v:=upd_same _ _ _;have X:=(Ext.rP (Z:=Z') (pl:=pl) (nx:=nx) (fun b i hz=>Below.heap_alloc w (.cells vs.toArray e) b (S1.mem.qL b i hz))).upd rfl v
     have hnm:n≤maxLen:=by
      have:n*G.aY t≤16777216:=hbig;have:n≤n*G.aY t:=Nat.le_mul_of_pos_right n hpos;simp only[maxLen];omega
     obtain⟨M,X⟩:=S1.mem.newP (w':=w.alloc (.cells vs.toArray e)) (.arr e t xs) (.cells vs.toArray e) v rfl (Fr.kU (World.grownBy_alloc w _ none) S1.mem.fr.size (fun k hk=>by cases hk)) (fun k hk=>Below.heap_alloc w _ _ hk)
      ⟨vs,by
       rw[hpl,hn];have:=World.ownsRow_lit (e:=e) (size:=G.aY t) w vs.toArray n (Nat.zero_le _) hnm (by rw[List.size_toArray,hvl])
       simpa using this,R1.mono X.hZ X.hw⟩
     refine jc ?_ h (S1.at X M rfl) ⟨⟨Nat.lt_succ_self _,hpl.symm⟩,rfl⟩ hK;unfold execOp;rw[ho];refine jE _ ?_;have hps:(ps.map fun(p:Nat×Operand)=>(p.1,a.eval p.2)).toList=ps.toList.map fun(p:Nat×Operand)=>(p.1,a.eval p.2):=Array.toList_map
     simp only[Instr.buildSlice,Sem.run_bind,dK hu,Result.andThen_ok,lW hie,hsz];rw[if_neg (by have:n*G.aY t≤16777216:=hbig;omega)]
     have hf':Instr.fill (fun i=>some (i*G.aY t,G.aY t)) (Array.map (fun x=>z.cells[x%z.cells.size]!) (Array.range (n*G.aY t))) (Array.map (fun(x:Nat×Operand)=>(x.1,a.eval x.2)) ps).toList=some vs.toArray:=by
      rw[hps];rw[Array.toArray_toList]at hf;exact hf
     by_cases h0:n*G.aY t=0
     ·rw[if_pos h0];have e0:Array.map (fun x=>(#[]:Array Value)[x%(#[]:Array Value).size]!) (Array.range (n*G.aY t))=Array.map (fun x=>z.cells[x%z.cells.size]!) (Array.range (n*G.aY t)):=by rw[h0];simp
      rw[Sem.run_bind];simp only[Sem.run_pure,Result.andThen_ok];rw[e0,hf']
      rfl
     ·rw[if_neg h0,Sem.run_bind,xU hie MC];simp only[Result.andThen_ok];rw[Sem.run_bind];simp only[Sem.run_pure,Result.andThen_ok];rw[hf']
      rfl
    ·cases h
   ·cases h
  ·cases h
 ·cases h
theorem EK (A:Option Addr) (c:Nat):(Conv.bytesToString (.slice A 0 c)).run P w= .ok (.string (strOf [])) w:=by
 cases A with
 |none=>rfl
 |some b=>exact run_bytesToString w b 0 c [] (by rfl)
theorem Nj (xs:List Int) (A:Option Addr) (c:Nat) (hcell:xs.length=0∨ ∃b off,A=some ⟨b,off,none⟩∧ ∃vs,gX G Z w (.int .u8) xs vs∧ ∀(j:Nat) (v:Value),vs[j]? =some v→w.cell? ⟨b,off+j,none⟩=some v):
  (Conv.bytesToString (.slice A xs.length c)).run P w= .ok (.string (strOf xs)) w:=by
 rcases hcell with h0|⟨b,off,rfl,vs,hR,hcl⟩
 ·have hn:xs= []:=List.eq_nil_of_length_eq_zero h0;subst hn;exact EK A c
 ·have hvs: ∀(xs:List Int) (vs:List Value),gX G Z w (.int .u8) xs vs→vs=xs.map (Value.int .u8):=by
   intro xs
   induction xs with
   |nil=>intro vs h;exact h
   |cons x xs ih=>
    rintro vs ⟨cs,vs',rfl,_,h1,h2⟩;cases h1;rw[ih vs' h2]
    rfl
  have hvs:=hvs xs vs hR;subst hvs;have hl:=run_loadCells_list (P:=P) w ⟨b,off,none⟩ (List.map (Value.int .u8) xs) (fun j v hj=>by rw[qN];exact hcl j v hj)
  simp only[List.length_map]at hl;exact run_bytesToString w _ _ c _ hl
theorem Dq (hs:fH G) {T T':TypeId} {x:Operand} (ht:fJ P G) (ho:o.op= .convert T T' x) (h:bJ E o L K=some r) (S:Sat E.N W w0 Z pl L a w) (hK:Then E W w0 K r next):o.wp P a w next Q:=by
 have h0:=h;simp only[bJ,ho]at h
 split at h
 ·rename_i k n hx
  split at h
  ·rename_i e1 e2;exact kK (nC (Dl ht ⟨_,_,_,_,e1⟩ ho h0 S hK))
  ·cases h
 ·rename_i s hx;have e:=oD (aK S hx)
  split at h
  ·rename_i _ _ _ _ _ _ e1 e2;have i1:=(ht T _ e1).str rfl;have i2:=(ht T' _ e2).str rfl;exact kK (jk (xY ho (u:= .string s) (by rw[e];simp[convert,dK i1,dK i2])) h S (xX _) hK)
  ·rename_i el e1 e2
   split at h
   ·rename_i e3;have i1:=(ht T _ e1).str rfl;have i3:=(ht el _ e3).int .u8 rfl;obtain⟨i2,_⟩:=(ht T' _ e2).sl el (.int .u8) rfl;have hrun:=Lib.run_convert_string_bytes (P:=P) w T T' el s i1 i2 i3;have hsz:=Lib.bytesWorld_size w el s;have old:=Lib.bytesWorld_at_old w el s;have M:=S.mem;have X:Ext Z w pl L.nx (fun b i=>Z b i∨b=w.heap.size) (Lib.bytesWorld w el s) pl L.nx:=
     ⟨Nat.le_refl _,fun _ _=>rfl,fun _ _ h=> .inl h,fun b i hz=>Lib.bytesWorld_old w el s ⟨b,i,none⟩ (M.qL b i hz)⟩
    have hbase:w0.heap.size≤w.heap.size:=M.fr.size;have F:Fr W w0.heap.size w (Lib.bytesWorld w el s):=by
     refine⟨?_,?_,?_,by rw[hsz];omega,fun b hb _=>old b (by omega),fun b cs T fr hb _ hc=>⟨cs,by rw[old b (by omega)];exact hc,rfl,fun _ _=>rfl⟩⟩<;>
      simp[Lib.bytesWorld,World.freeze,World.alloc,World.drew,-World.alloc_eq,-World.drew_eq]
    have M':=M.keep X (fun o b k hg hl hk=>⟨old k (M.blt hg hl hk),fun i hz=>hz.elim (M.dU o b k hg hl hk i) (fun h=>by have:=M.blt hg hl hk;omega)⟩)
     (fun b i hz=>hz.elim (fun h=>by have:=M.qL b i h;omega) (fun h=>by omega)) (fun b i hz=>hz.elim .inl (fun h=> .inr (.inl (by omega)))) F
     (M.tr.elim fun f T=>⟨f,T,fun o k hk=>⟨old k (T.lt o k hk),fun i hz=>hz.elim (T.dU o k hk i) (fun h=>by have:=T.lt o k hk;omega)⟩⟩)
    refine jc (xY ho (by rw[e];exact hrun)) h (S.at X M' rfl) ⟨?_,rfl⟩ hK
    exact QL w el s Z
   ·cases h
  ·cases h
 ·rename_i l n1 n2 hx;have hu:=aK S hx
  split at h
  ·rename_i el _ _ _ e1 e2;have i2:=(ht T' _ e2).str rfl;obtain⟨i1,_⟩:=(ht T _ e1).sl el (.int .u8) rfl
   split at h
   ·rename_i e3;have i3:=(ht el _ e3).int .u8 rfl
    split at h
    ·rename_i e' t' xs hro
     split at h
     ·rename_i ys hc;have hc:=fQ hc;have h1:(⟨.sl e' t',xs⟩:TV G)=⟨.sl el (.int .u8),ys⟩:=hc;injection h1 with h1 h2
      injection h1 with h1 h3
      subst h1 h3;have h2:=eq_of_heq h2;subst h2;obtain⟨A,c,hq,hcell⟩:=FB hs S hu hro;refine kK (jk (u:= .string (strOf xs)) (xY ho ?_) h S (xX _) hK);have hq:a.eval x= .slice A (List.length xs) c:=hq;rw[hq,run_convert_bytes_string w T T' e' A _ c i1 i3 i2];exact Nj (G:=G) (Z:=Z) xs A c hcell
     ·cases h
    ·cases h
   ·cases h
  ·cases h
 ·cases h
theorem uC (z:Array Value) (s:Nat) (hz:z.size=s) (hp:0<s): ∀n:Nat,(madeCells z (n*s)).toList=(List.replicate n z.toList).flatten:=by
 intro n;unfold madeCells;rw[Array.toList_map,Array.toList_range]
 induction n with
 |zero=>simp
 |succ n ih=>
  rw[Nat.succ_mul,List.range_add,List.map_append,ih,List.replicate_succ',List.flatten_append,List.flatten_cons,List.flatten_nil,List.append_nil,List.map_map]
  congr 1
  subst hz;refine List.ext_getElem (by simp) fun i h1 h2=> ?_
  have hi:i<z.size:=by simpa using h1
  simp[Nat.mul_add_mod,Nat.mod_eq_of_lt hi,hi,Nat.add_mod]
theorem gX.replicate {t:Ty} {x:G.D t} {cs:List Value} (hl:cs.length=G.aY t) (h:bP G Z w t x cs): ∀n:Nat,gX G Z w t (List.replicate n x) (List.replicate n cs).flatten
 |0=>rfl
 |n+1=>⟨cs,(List.replicate n cs).flatten,by rw[List.replicate_succ,List.flatten_cons],hl,h,gX.replicate hl h n⟩
theorem FK {nx:Nat}: ∀{ls:List (bD G)} {us:List Value},uu ls=true→dS Z w pl nx ls us→ ∃fV,qR Z w ls us fV∧fV.flatten= []
 | [],us,_,hu=>⟨[],⟨hu,rfl⟩,rfl⟩
 |l::ls,_,h,⟨u,us,e,h1,h2⟩=>by
  subst e;have go:uu ls=true→Tt Z w l u []→ ∃fV,qR Z w (l::ls) (u::us) fV∧fV.flatten= []:=by
   intro hb hl;obtain⟨fV,k1,k2⟩:=FK hb h2;exact⟨[]::fV,⟨u,us,[],fV,rfl,rfl,hl,k1⟩,by rw[List.flatten_cons,k2];rfl⟩
  have h0:=h1.1;cases l with
  |val t x=>
   have h0:bP G Z w t x [u]:=h0;cases t with
   |int k=>exact go h ⟨by cases h0;exact .int k _,h1.2⟩
   |bool=>exact go h ⟨by cases h0;exact .bool _,h1.2⟩
   |str=>exact go h ⟨by cases h0;exact .str _,h1.2⟩
   |_=>cases h
  |kb b=>exact go h ⟨h0,rfl⟩
  |lN=>exact go h ⟨h0,rfl⟩
  |_=>cases h
theorem dR.replicate {t:Ty} {x:G.D t} {cs:List Value} (hl:cs.length=G.aY t) (h:fD G Z w t x cs []): ∀n:Nat,dR G Z w t (List.replicate n x) (List.replicate n cs).flatten []
 |0=> .nil t
 |n+1=>by
  have:=dR.cons t x _ cs _ [] [] hl h (dR.replicate hl h n);rw[List.replicate_succ,List.replicate_succ,List.flatten_cons]
  simpa using this
theorem HY (hs:fH G) (ht:fJ P G) {T:TypeId} {l c:Operand} (ho:o.op= .makeSlice T l c) (h:bJ E o L K=some r) (S:Sat E.N W w0 Z pl L a w) (hK:Then E W w0 K r next):o.wp P a w next Q:=by
 simp only[bJ,ho]at h
 split at h
 ·rename_i n m hn hm;obtain⟨kl,hel⟩:=nG S hn;obtain⟨kc,hec⟩:=nG S hm
  split at h
  ·rename_i e t hT;obtain⟨hu,i,z,hie,hsz,MC,hzs,hpos,hcb,hcap⟩:=(ht T _ hT).sl e t rfl
   split at h
   ·rename_i te hte;have tk:=ht e te hte
    split at h
    ·rename_i ls hls
     split at h
     ·rename_i s hsv
      split at h
      ·rename_i v L' hv
       split at h
       ·rename_i x hx
        split at h
        ·rename_i hnm;subst hnm
         split at h
         ·rename_i h0
          split at h
          ·rename_i hn1;have hz0:Cj (G:=G) te.leaves≠none:=by rw[hls];exact Option.some_ne_none _
           obtain⟨i',hi',_,abS⟩:=tk.size;have:i'=i:=Option.some.inj (hi'.symm.trans hie);subst this;have hzz:z=oC te:=Option.some.inj (MC.symm.trans (abS hz0));have hzc:=wK tk.one hz0;obtain⟨u,q1,q2,q3,_⟩:=xW (Z:=Z) (w:=w) (pl:=pl) (nx:=L.nx) hsv (CW hls).1;obtain⟨Z',T1,_,R1⟩:=xQ hs hv S.mem q1;have R1:=R1.cast hx;have hcu:u.cells.toList=(oC te).cells.toList:=by
            rw[hzc];cases hag:te.agg with
            |true=>rw[q2 hag];rfl
            |false=>
             have e1:=q3 hag;rw[e1];have:u.oneCell'=true:=by
              rw[hag]at hsv;simp only[xJ]at hsv
              split at hsv
              ·injection hsv with hsv;subst hsv;exact q1.2
              ·cases hsv
             exact cells_one this
           rw[hcu,←hzz]at R1;have S1:=T1.sat S;obtain⟨k,rfl⟩:=Int.eq_ofNat_of_zero_le h0;have hk:k≤G.cap e:=by omega
           have hbytes:i'.bytes*k≤281474976710656:=by
            have:i'.bytes*k≤G.cap e*i'.bytes:=by rw[Nat.mul_comm (G.cap e)];exact Nat.mul_le_mul_left _ hk
            omega
           obtain⟨w1,hr,own,gr⟩:=run_make_full (P:=P) w 0 T e i' z (G.aY t) hu hie MC hsz kl kc k hbytes (Nat.le_trans hk hcap) (Nat.zero_le _);cases L' with
           |mk tm ob nx=>
           simp only[iZ]at h
           let v':Value:= .slice (some ⟨w.heap.size,0,none⟩) k k
           have hpl:upd pl nx v' nx=v':=upd_same _ _ _;have old: ∀b,b<w.heap.size→w1.heap[b]? =w.heap[b]? :=fun b hb=>gr.block b hb (fun h=>by cases h)
           have X:=(Ext.rP (Z:=Z') (pl:=pl) (nx:=nx) (fun b i hz=>old b (S1.mem.qL b i hz))).upd rfl v'
           have hrun:(execOp a.eval o).run P w= .ok (.value v') w1:=by
            unfold execOp;rw[ho];refine jE _ ?_;rw[hel,hec];exact hr
           split at h
           ·rename_i hfz hown;have q1':dS Z w pl L.nx ls (oC te).cells.toList:=by
             rw[←hcu];have:=q1.cells;cases hag:te.agg with
             |true=>rw[hag]at hsv;simp only[xJ,Option.some.injEq]at hsv;subst hsv;exact this
             |false=>
              rw[hag]at hsv;simp only[xJ]at hsv
              split at hsv
              ·injection hsv with hsv;subst hsv;exact this
              ·cases hsv
            obtain⟨fV,f1,f2⟩:=FK hown q1';have hsl:s.ls=ls:=by
             cases hag:te.agg with
             |true=>rw[hag]at hsv;simp only[xJ,Option.some.injEq]at hsv;subst hsv;rfl
             |false=>
              rw[hag]at hsv;simp only[xJ]at hsv
              split at hsv
              ·cases hsv;rfl
              ·cases hsv
            obtain⟨_,_,hC⟩:=uy hs hv (w:=w) (us:=(oC te).cells.toList) (fV:=fV) (by rw[hsl];exact f1)
            have:=fQ hx;subst this;rw[f2,←hzz]at hC;have hRow:dR G Z w t (List.replicate k x) (madeCells z.cells (k*G.aY t)).toList []:=by
             rw[uC _ _ hzs hpos];exact dR.replicate (by rw[Array.length_toList];exact hzs) hC k
            have aak:=hRow.mono (w':=w1) (Z':=Z') ⟨fun k hk=>(by cases hk),T1.ext.hZ,fun b j hz=>jC (old b (S.mem.qL b j hz)) j⟩
            have hown1:w1.ownsRow 0 e (G.aY t) (upd pl nx v' nx) (List.replicate k x).length (madeCells z.cells (k*G.aY t)).toList:=by rw[hpl,List.length_replicate];exact own
            obtain⟨M,X⟩:=S1.mem.new (w':=w1) (.tr e t (List.replicate k x)) (.cells #[] e) v' rfl (Fr.kU gr S1.mem.fr.size (fun k hk=>by cases hk)) old
             ⟨_,hown1⟩ (fun f T hn=>by
              have T1:=(T.kill nx).set nx [] (fun b hb=>by rw[cu]at hb;cases hb;trivial) List.nodup_nil (fun k hk=>by cases hk)
              refine⟨_,(T1.put nx (.tr e t (List.replicate k x)) ?_ (fun _ k hk o' hm=> ?_)).congr (fun n=>by simp only[bn];split<;>rfl)⟩
              ·show∃vs,_∧dR G _ w1 t _ vs (if nx=nx then [] else f nx);rw[if_pos rfl];exact⟨_,hown1,aak⟩
              ·rw[hpl]at hk;injection hk with hk
               subst hk;have hm:w.heap.size∈(if o'=nx then [] else f o'):=hm
               split at hm
               ·cases hm
               ·exact hn o' hm)
            exact jc hrun h (S1.at X M rfl) ⟨⟨Nat.lt_succ_self _,hpl.symm⟩,rfl⟩ hK
           ·cases h
           have hRow:gX G Z' w t (List.replicate k x) (madeCells z.cells (k*G.aY t)).toList:=by
            rw[uC _ _ hzs hpos];exact gX.replicate (by rw[Array.length_toList];exact hzs) R1 k
           obtain⟨M,X⟩:=S1.mem.newP (w':=w1) (.arr e t (List.replicate k x)) (.cells #[] e) v' rfl (Fr.kU gr S1.mem.fr.size (fun k hk=>by cases hk)) old
            ⟨_,by rw[hpl,List.length_replicate];exact own,hRow.mono X.hZ X.hw⟩
           exact jc hrun h (S1.at X M rfl) ⟨⟨Nat.lt_succ_self _,hpl.symm⟩,rfl⟩ hK
          ·cases h
         ·cases h
        ·cases h
       ·cases h
      ·cases h
     ·cases h
    ·cases h
   ·cases h
  ·cases h
 ·cases h
theorem sZ {t ty e:TypeId} {i:TypeInfo} {size:Nat} (ht:P.underlying t=some (.slice e)) (hi:P.info? e=some i)
  {v:Value} {n:Nat} {xs:List Value} (hown:w.ownsRow 0 e size v n xs) (c:Nat):(Builtin.append_ #[t,t] ty #[v,.slice none 0 c]).run P w= .ok v w:=by
 rcases hown.2 with⟨rfl,rfl⟩|⟨g,cap,cur,rfl,_,_,hnc,_⟩
 ·simp[Builtin.append_,dK ht,sizeOf,typeInfo,hi,Builtin.lenOf,Builtin.firstCells]
 ·simp[Builtin.append_,dK ht,sizeOf,typeInfo,hi,Builtin.lenOf,Builtin.firstCells,hnc,storeCells]
theorem QO (hs:fH G) (S:Sat N W w0 Z pl L a w) {x:Operand} {s:SV G} (hx:dB L x=some s) {e:TypeId} {t:Ty} {ys:List (G.D t)} (h:GZ L e t s=some ys):
  ∃A c,a.eval x= .slice A ys.length c∧(ys.length=0∨ ∃b off,A=some ⟨b,off,none⟩∧ ∃vs,gX G Z w t ys vs∧ ∀j v,vs[j]? =some v→w.cell? ⟨b,off+j,none⟩=some v):=by
 have q:=aK S hx;unfold GZ at h
 split at h
 ·injection h with h
  subst h;exact⟨none,0,q.1,.inl rfl⟩
 ·rename_i l _
  split at h
  ·rename_i e' t' xs hro
   split at h
   ·rename_i y hy;injection h with h
    subst h;have he:=fQ hy;injection he with he1 he2
    injection he1 with he1 he3
    subst he1 he3;have he2:=eq_of_heq he2;subst he2;exact FB hs S q hro
   ·cases h
  ·cases h
 ·cases h
theorem gX.append {t:Ty}: ∀{xs ys:List (G.D t)} {vs us:List Value},gX G Z w t xs vs→gX G Z w t ys us→gX G Z w t (xs++ys) (vs++us)
 | [],_,_,_,h,k=>by rw[show _=_ from h];exact k
 |_::_,_,_,_,⟨cs,vs',e,hl,h1,h2⟩,k=>by rw[e,List.append_assoc];exact⟨cs,_,rfl,hl,h1,gX.append h2 k⟩
theorem gX.one {t:Ty}: ∀{xs:List (G.D t)} {vs:List Value},gX G Z w t xs vs→ ∀u∈vs,u.oneCell'=true
 | [],_,h,u,hu=>by rw[show _=_ from h]at hu;cases hu
 |_::_,_,⟨cs,vs',e,hl,h1,h2⟩,u,hu=>by
  rw[e]at hu;rcases List.mem_append.1 hu with hu|hu
  ·exact h1.one u hu
  ·exact gX.one h2 u hu
theorem Sat.MM (S:Sat N W w0 Z pl L a w) (s:SV G): ∃Z',Sat N W w0 Z' pl (RX.MM s L) a w∧(RX.MM s L).tmps=L.tmps:=by
 unfold RX.MM
 split
 ·rename_i o
  split
  ·rename_i e t xs hg;obtain⟨Z',X,M',_,_⟩:=S.mem.freeze (.inr hg);exact⟨Z',S.at (L':=freeze L o) (by rw[gY];exact X) (by rw[gY];exact M') (jD L o),jD L o⟩
  ·exact⟨Z,S,rfl⟩
 ·exact⟨Z,S,rfl⟩
theorem QS (hs:fH G) (ht:fJ P G) {x y:Operand} {T ty:TypeId} {e:TypeId} {t:Ty} {l1:List Tm} {l2:List (Nat×Nat)} {l3:Bool} (hT:G.tab T=some ⟨l1,l2,l3,some (.sl e t)⟩) (S:Sat E.N W w0 Z pl L a w)
  {s i:SV G} (hx:dB L x=some s) (hy:dB L y=some i) {ys xs:List (G.D t)} {L':St G} (hi:GZ L e t i=some ys) (hg:TP L e t s=some (xs,L')) (hc:xs.length+ys.length≤G.cap e)
  (h:(iZ (.arr e t (xs++ys)) L' fun n A_=>out E o (.sv (.one (.h_ n))) A_ K)=some r) (exe: ∀u w',(Builtin.append_ #[T,T] ty #[a.eval x,a.eval y]).run P w= .ok u w'→(execOp a.eval o).run P w= .ok (.value u) w')
  (hK:Then E W w0 K r next):o.wp P a w next Q:=by
 obtain⟨hu,ie,z,hie,hsz,MC,hzs,hpos,hcap,hcm⟩:=(ht T _ hT).sl e t rfl;have hbytes:(xs.length+ys.length)*ie.bytes≤140737488355328:=Nat.le_trans (Nat.mul_le_mul_right _ hc) hcap;have h63:xs.length+ys.length≤maxLen:=Nat.le_trans hc hcm;have hsrc: ∃vs,w.ownsRow 0 e (G.aY t) (a.eval x) xs.length vs∧gX G Z w t xs vs∧L'.tmps=L.tmps∧L'.nx=L.nx∧Mem W w0 Z pl L'.objs L'.nx w∧
   (∀k,(a.eval x).ownBlock=some k→Own w0.heap.size W (.arr e t xs) k∧(∀j,¬Z k j)∧k<w.heap.size∧ ∀o' b',get L'.objs o'=some b'→live b'=true→bk (pl o')≠some k)∧
   ∃f,eH W w0.heap.size Z pl L'.objs L'.nx w f∧ ∀k,(a.eval x).ownBlock=some k→ ∀o',k∉f o':=by
  unfold TP at hg
  split at hg
  ·simp only[Option.some.injEq,Prod.mk.injEq]at hg;obtain⟨rfl,rfl⟩:=hg;have:=(aK S hx).1;rw[show a.eval x= .slice none 0 0 from this]
   exact⟨[],World.ownsRow_nil w 0 e _,rfl,rfl,rfl,S.mem,(fun k hk=>by cases hk),S.mem.tr.elim fun f T=>⟨f,T,fun k hk=>by cases hk⟩⟩
  ·rename_i o';cases L with
   |mk tm ob nx=>
   simp only at hg
   split at hg
   ·rename_i e' t' xs' hgo
    split at hg
    ·rename_i y' hy';simp only[Option.some.injEq,Prod.mk.injEq]at hg;obtain⟨rfl,rfl⟩:=hg;have he:=fQ hy';injection he with he1 he2
     injection he1 with he1 he3
     subst he1 he3;have he2:=eq_of_heq he2;subst he2;obtain⟨vs,o1,o2⟩:=S.mem.ob o' _ hgo;obtain⟨q1,q2⟩:=(aK S hx).1;rw[q2];have hbk: ∀k,(pl o').ownBlock=some k→bk (pl o')=some k:=by
      intro k hk;generalize pl o'=q at hk;cases q with
      |slice ad n c=>cases ad with|some ad=>exact hk|none=>cases hk
      |_=>cases hk
     refine⟨vs,o1,o2,rfl,rfl,S.mem.kill o' q1,fun k hk=> ?_,S.mem.tr.elim fun f T=>⟨f,T.kill o',fun k hk o2 hm=>T.root o2 k o' _ hm hgo rfl (hbk k hk)⟩⟩
     have hbk:=hbk k hk;refine⟨?_,S.mem.dU o' _ k hgo rfl hbk,S.mem.blt hgo rfl hbk,fun o2 b2 hg2 hl2 hk2=> ?_⟩
     ·exact S.mem.own o' _ k hgo rfl hbk
     ·have hne:o'≠o2:=by intro ee;subst ee;rw[cu]at hg2;cases hg2;cases hl2
      have abT:get ob o2=some b2:=by
       have hg2:get ((o',Ob.dead)::ob) o2=some b2:=hg2
       rwa [dP _ _ hne]at hg2
      exact hne (S.mem.sep o' o2 _ b2 k hgo rfl abT hl2 hbk hk2)
    ·cases hg
   ·cases hg
  ·cases hg
 obtain⟨vs,o1,o2,ltm,lnx,M,hblk,f,TF,hfT⟩:=hsrc;have hrun: ∃v' w' us,(Builtin.append_ #[T,T] ty #[a.eval x,a.eval y]).run P w= .ok v' w'∧w'.ownsRow 0 e (G.aY t) v' (xs.length+ys.length) (vs++us)∧w.grownBy w' (a.eval x).ownBlock∧gX G Z w t ys us∧
   (v'.ownBlock=(a.eval x).ownBlock∨v'.ownBlock=some w.heap.size):=by
  obtain⟨A,c,hv,hrows⟩:=QO hs S hy hi;rcases hrows with h0|⟨b,off,hA,us,r1,r2⟩
  ·have hys:ys= []:=List.eq_nil_of_length_eq_zero h0;subst hys;rw[hv];cases A with
   |none=>
    refine⟨a.eval x,w,[],sZ hu hie o1 c,?_,World.grownBy.refl w _,rfl,.inl rfl⟩;rw[List.append_nil];exact o1
   |some ad=>
    obtain⟨v',w',k1,k2,k3,_,k4⟩:=run_append_own_at (P:=P) w 0 T ty e ie z (G.aY t) ie.bytes hu hie MC hsz rfl hzs hpos (a.eval x) xs.length vs o1 ad 0 c [] (by simp) (fun j u hj=>by cases hj) (fun u hu=>by cases hu) (by simpa using h63) (by simpa using hbytes) (Nat.zero_le _)
    exact⟨v',w',[],k1,k2,k3,rfl,k4⟩
  ·subst hA;rw[hv];obtain⟨v',w',k1,k2,k3,_,k4⟩:=run_append_own_at (P:=P) w 0 T ty e ie z (G.aY t) ie.bytes hu hie MC hsz rfl hzs hpos (a.eval x) xs.length vs o1 ⟨b,off,none⟩ ys.length c us r1.length (fun j u hj=>by rw[qN];exact r2 j u hj) r1.one h63 hbytes (Nat.zero_le _)
   exact⟨v',w',us,k1,k2,k3,r1,k4⟩
 obtain⟨v',w',us,k1,k2,k3,r1,k4⟩:=hrun;cases L' with
 |mk tm ob nx=>
 simp only[iZ]at h;have hfr:Fr W w0.heap.size w w':=Fr.kU k3 M.fr.size (fun k hk=>by
  rcases(hblk k hk).1 with hh|hh
  ·exact .inl hh
  ·exact .inr hh)
 have hzs': ∀k j,Z k j→w'.heap[k]? =w.heap[k]? :=fun k j hz=>k3.block k (M.qL k j hz) (fun ee=>(hblk k ee.symm).2.1 j hz)
 have X0:Ext Z w pl nx Z w' pl nx:=Ext.rP hzs';have X:=X0.upd rfl v';have M1:=M.keep X (fun o' b k hgo hl hk=>⟨k3.block k (M.blt hgo hl hk) (fun ee=>(hblk k ee.symm).2.2.2 o' b hgo hl hk),M.dU o' b k hgo hl hk⟩) (fun k j hz=>Nat.lt_of_lt_of_le (M.qL k j hz) hfr.size) (fun _ _ h=> .inl h) hfr
  ⟨f,TF,fun o k hk=>⟨k3.block k (TF.lt o k hk) (fun ee=>hfT k ee.symm o hk),TF.dU o k hk⟩⟩
 have T1:=TF.keep (dI:=upd pl nx v') (nx':=nx+1) (w':=w') (Z':=Z) M.lt (Nat.le_succ _) X.hp (fun o' b k hgo hl hk=>k3.block k (M.blt hgo hl hk) (fun ee=>(hblk k ee.symm).2.2.2 o' b hgo hl hk)) X.hZ X.hw (fun o k hk=>⟨k3.block k (TF.lt o k hk) (fun ee=>hfT k ee.symm o hk),TF.dU o k hk⟩) hfr.size
 have hpl:upd pl nx v' nx=v':=upd_same _ _ _;have M2:=M1.add nx (.arr e t (xs++ys)) (Nat.lt_succ_self _) ⟨vs++us,by rw[hpl,List.length_append];exact k2,(o2.mono X.hZ X.hw).append (r1.mono X.hZ X.hw)⟩ (fun _ k hk=>by
  rw[hpl]at hk;have hown:v'.ownBlock=some k:=by
   rcases k2.2 with⟨e1,_⟩|⟨g,cap,cur,e1,_⟩
   ·rw[e1]at hk;cases hk
   ·rw[e1]at hk⊢;exact hk
  rcases k4 with k4|k4
  ·rw[hown]at k4;obtain⟨m1,m2,m3,m4⟩:=hblk k k4.symm;refine⟨m1,m2,fun o' b' ho' hg' hl' hk'=> ?_⟩
   rw[kZ pl v' ho']at hk';exact m4 o' b' hg' hl' hk'
  ·rw[hown]at k4;injection k4 with k4
   subst k4;refine⟨.inl M.fr.size,fun j hz=>Nat.lt_irrefl _ (M.qL _ j hz),fun o' b' ho' hg' hl' hk'=> ?_⟩
   rw[kZ pl v' ho']at hk';exact Nat.lt_irrefl _ (M.blt hg' hl' hk'))
  ⟨f,T1.put nx _ trivial fun _ k hk o' hm=>by
   rw[hpl]at hk;have hown:v'.ownBlock=some k:=by
    rcases k2.2 with⟨e1,_⟩|⟨g,cap,cur,e1,_⟩
    ·rw[e1]at hk;cases hk
    ·rw[e1]at hk⊢;exact hk
   rcases k4 with k4|k4
   ·rw[hown]at k4;exact hfT k k4.symm o' hm
   ·rw[hown]at k4;injection k4 with k4
    subst k4;exact Nat.lt_irrefl _ (TF.lt o' _ hm)⟩
 have ltm:tm=L.tmps:=ltm;have lnx:nx=L.nx:=lnx;have S':Sat E.N W w0 Z (upd pl nx v') ⟨tm,(nx,.arr e t (xs++ys))::ob,nx+1⟩ a w':=S.at (L':=⟨tm,(nx,.arr e t (xs++ys))::ob,nx+1⟩) (by rw[←lnx];exact X) M2 ltm
 exact jc (exe v' w' k1) h S' ⟨⟨Nat.lt_succ_self _,hpl.symm⟩,by
  rcases k2.2 with⟨e1,_⟩|⟨g,cap,cur,e1,_⟩<;>rw[e1]<;>rfl⟩ hK
end
section
open Go Go.RowKit
variable {G:jf} {R:Type} {P:Program} {W:fA} {w0 w w':World} {Z Z':Nat→Nat→Prop} {pl dI:Nat→Value} {N:Nat}
variable {E:Env G R} {o:Oper} {L:St G} {K:St G→Option R} {r:R} {a:Act} {next:Act→World→Prop} {Q:Exit→Act→World→Prop}
theorem Dt (S:Sat N W w0 Z pl L a w): ∀{xs:List Operand} {j:Nat} {l:List (Nat×DV G)},EZ L j xs=some l→l.length=xs.length∧ ∀t d,get l t=some d→j≤t∧t<j+xs.length∧eU Z w pl L.nx d ((xs.map a.eval).getD (t-j) undef)
 | [],j,l,h=>by simp only[EZ,Option.some.injEq]at h;subst h;exact⟨rfl,fun t d hg=>by simp[get]at hg⟩
 |x::xs,j,l,h=>by
  simp only[EZ]at h
  split at h
  ·rename_i s hx
   split at h
   ·rename_i l' hl;injection h with h
    subst h;obtain⟨k1,k2⟩:=Dt S hl;refine⟨by simp[k1],fun t d hg=> ?_⟩
    rw[bn]at hg
    split at hg
    ·rename_i e;injection hg with hg
     subst e hg;rw[Nat.sub_self];exact⟨Nat.le_refl _,by simp,aK S hx⟩
    ·obtain⟨m1,m2,m3⟩:=k2 t d hg;refine⟨by omega,by simp only[List.length_cons];omega,?_⟩
     rw[show t-j=(t-(j+1))+1 by omega,List.map_cons,List.getD_cons_succ]
     exact m3
   ·cases h
  ·cases h
theorem J3 {nx:Nat}: ∀{caps:List Nat} {j:Nat},(∀i∈caps,i<nx∧ ∃b,pl i= .pointer (some ⟨b,0,none⟩))→(CE (G:=G) j caps).length=caps.length∧ ∀t d,get (CE (G:=G) j caps) t=some d→j≤t∧eU Z w pl nx d ((caps.map pl).getD (t-j) undef)
 | [],j,_=>⟨rfl,fun t d hg=>by simp[CE,get]at hg⟩
 |i::caps,j,h=>by
  obtain⟨k1,k2⟩:=J3 (caps:=caps) (j:=j+1) (fun i hi=>h i (List.mem_cons_of_mem _ hi))
  refine⟨by simp[CE,k1],fun t d hg=> ?_⟩
  simp only[CE]at hg;rw[bn]at hg;obtain⟨h1,b,hb⟩:=h i List.mem_cons_self
  split at hg
  ·rename_i e;injection hg with hg
   subst e hg;rw[Nat.sub_self];exact⟨Nat.le_refl _,⟨h1,b,hb,hb⟩,by rw[List.map_cons,List.getD_cons_zero,hb];rfl⟩
  ·obtain⟨m1,m3⟩:=k2 t d hg;refine⟨by omega,?_⟩
   rw[show t-j=(t-(j+1))+1 by omega,List.map_cons,List.getD_cons_succ]
   exact m3
theorem PI {α:Type}: ∀{l l':List (Nat×α)} {t:Nat} {d:α},get (l++l') t=some d→get l t=some d∨get l' t=some d
 | [],_,_,_,h=> .inr h
 |(k,v)::l,l',t,d,h=>by
  rw[List.cons_append,bn]at h;rw[bn]
  split at h
  ·rename_i e;rw[if_pos e];exact .inl h
  ·rename_i e;rw[if_neg e];exact PI h
section names
variable {f:Nat→Nat} {pr mJ:Nat→Value} {n rQ:Nat}
def NF (f:Nat→Nat) (pr:Nat→Value) (n:Nat) (mJ:Nat→Value) (rQ:Nat):Prop:= ∀j,j<n→f j<rQ∧mJ (f j)=pr j
theorem FM (h:NF f pr n mJ rQ) {p:iP} {vs:List (TV G)}:(lS f p vs).2=(lS (fun j=>j) p vs).2∧ ∀{u:Value},gB Z w pr n (lS (fun j=>j) p vs).1 u→gB Z w mJ rQ (lS f p vs).1 u:=by
 cases p with
 |val t=>cases vs<;>exact⟨rfl,fun hu=>hu⟩
 |arr j=>exact⟨rfl,fun hu=>⟨⟨(h j hu.1.1).1,hu.1.2.trans (h j hu.1.1).2.symm⟩,hu.2⟩⟩
 |sub j k z=>exact⟨rfl,fun hu=>by obtain⟨⟨h1,b,n,c,h2,h3⟩,h4⟩:=hu;exact⟨⟨(h j h1).1,b,n,c,(h j h1).2.trans h2,h3⟩,h4⟩⟩
 |ptr j off=>exact⟨rfl,fun hu=>by obtain⟨⟨h1,b,h2,h3⟩,h4⟩:=hu;exact⟨⟨(h j h1).1,b,(h j h1).2.trans h2,h3⟩,h4⟩⟩
 |oh=>exact⟨rfl,fun hu=>hu⟩
 |ji=>exact⟨rfl,fun hu=>hu⟩
 |fn g js=>
  refine⟨rfl,fun hu=> ?_⟩
  obtain⟨⟨h1,h2⟩,h3⟩:=hu;rw[List.map_id']at h1 h2;refine⟨⟨fun i hi=> ?_,?_⟩,h3⟩
  ·obtain⟨j,hj,e⟩:=List.mem_map.1 hi;subst e;obtain⟨q1,b,q2⟩:=h1 j hj;exact⟨(h j q1).1,b,(h j q1).2.trans q2⟩
  ·rw[h2]
   congr 2
   rw[List.map_map];exact List.map_congr_left (fun j hj=>((h j (h1 j hj).1).2).symm)
 |any=>exact⟨rfl,fun hu=>⟨trivial,hu.2⟩⟩
 |jS j=>exact⟨rfl,fun hu=>⟨⟨(h j hu.1.1).1,by rw[(h j hu.1.1).2];exact hu.1.2⟩,hu.2⟩⟩
theorem p_ (h:NF f pr n mJ rQ): ∀{ps:List iP} {vs:List (TV G)},(eG f ps vs).2=(eG (fun j=>j) ps vs).2∧(eG f ps vs).1.length=ps.length∧ ∀{us:List Value},dS Z w pr n (eG (fun j=>j) ps vs).1 us→dS Z w mJ rQ (eG f ps vs).1 us
 | [],vs=>⟨rfl,rfl,fun hu=>hu⟩
 |p::ps,vs=>by
  obtain⟨a1,a2⟩:=FM (Z:=Z) (w:=w) h (p:=p) (vs:=vs);obtain⟨b1,b2,b3⟩:=p_ h (ps:=ps) (vs:=(lS (fun j=>j) p vs).2)
  simp only[eG];rw[a1];exact⟨b1,by simp[b2],fun⟨u,us',e,q1,q2⟩=>⟨u,us',e,a2 q1,b3 q2⟩⟩
theorem WN (h:NF f pr n mJ rQ) {p:yT} {vs:List (TV G)}:(GY f p vs).2=(GY (fun j=>j) p vs).2∧ ∀{u:Value},eU Z w pr n (GY (fun j=>j) p vs).1 u→eU Z w mJ rQ (GY f p vs).1 u:=by
 cases p with
 |one p=>obtain⟨a1,a2⟩:=FM (Z:=Z) (w:=w) h (p:=p) (vs:=vs);exact⟨a1,fun hu=>a2 hu⟩
 |agg ps=>obtain⟨a1,_,a2⟩:=p_ (Z:=Z) (w:=w) h (ps:=ps) (vs:=vs);exact⟨a1,fun⟨cs,e,hu⟩=>⟨cs,e,a2 hu⟩⟩
 |st s=>
  cases vs with
  |nil=>exact⟨rfl,fun hu=>hu⟩
  |cons v r=>
   refine⟨rfl,fun{u} hu=> ?_⟩
   simp only[GY]at hu⊢;cases hv:ni v with
   |none=>exact trivial
   |some s'=>
    rw[hv]at hu;have key: ∀(m:Nat) (l:List (TV G)) (ls:List (bD G)) (us:List Value),dJ m l=some ls→dS Z w pr n ls us→dS Z w mJ rQ ls us:=by
     intro m
     induction m with
     |zero=>intro l ls us hl hu;cases l with|nil=>simp only[dJ,Option.some.injEq]at hl;subst hl;exact hu|cons _ _=>simp[dJ]at hl
     |succ m ih=>
      intro l ls us hl hu;cases l with
      |nil=>simp only[dJ,Option.some.injEq]at hl;subst hl;exact hu
      |cons x l=>
       obtain⟨t,y⟩:=x;have plain:(∀k,t≠ .st k)→dS Z w mJ rQ ls us:=by
        intro hn;have hl':(match dJ m l with|some b=>some (bD.val t y::b)|none=>none)=some ls:=by
         rw[←hl];cases t with
         |st k=>exact absurd rfl (hn k)
         |_=>rfl
        split at hl'
        ·rename_i b hb;injection hl' with hl'
         subst hl';obtain⟨u',us',e,q1,q2⟩:=hu;exact⟨u',us',e,q1,ih l b us' hb q2⟩
        ·cases hl'
       cases t with
       |st k=>
        simp only[dJ]at hl
        split at hl
        ·rename_i a1 ha
         split at hl
         ·rename_i b1 hb;injection hl with hl
          subst hl;have e1:=(hu.take a1.length);have e2:=(hu.drop a1.length);rw[List.take_left]at e1;rw[List.drop_left]at e2;have:=(ih _ a1 _ ha e1).append (ih l b1 _ hb e2)
          rwa [List.take_append_drop]at this
         ·cases hl
        ·cases hl
       |int k=>exact plain (fun _ e=>by cases e)
       |bool=>exact plain (fun _ e=>by cases e)
       |str=>exact plain (fun _ e=>by cases e)
       |sl e t=>exact plain (fun _ e=>by cases e)
       |po t=>exact plain (fun _ e=>by cases e)
    obtain⟨t,y⟩:=v;cases t with
    |st k=>
     simp only[ni]at hv
     split at hv
     ·rename_i l hl;injection hv with hv
      subst hv;obtain⟨cs,e,hu⟩:=hu;exact⟨cs,e,key _ _ _ _ hl hu⟩
     ·cases hv
    |int k=>injection hv with hv;subst hv;exact hu
    |bool=>injection hv with hv;subst hv;exact hu
    |str=>injection hv with hv;subst hv;exact hu
    |sl e t=>injection hv with hv;subst hv;exact hu
    |po t=>injection hv with hv;subst hv;exact hu
theorem FN (h:NF f pr n mJ rQ): ∀{ps:List (Nat×yT)} {vs:List (TV G)},(fU f ps vs).2=(fU (fun j=>j) ps vs).2∧
  ∀t d,get (fU f ps vs).1 t=some d→ ∃d',get (fU (fun j=>j) ps vs).1 t=some d'∧ ∀u,eU Z w pr n d' u→eU Z w mJ rQ d u
 | [],vs=>⟨rfl,fun t d hg=>by simp[fU,get]at hg⟩
 |(t0,p)::ps,vs=>by
  obtain⟨a1,a2⟩:=WN (Z:=Z) (w:=w) h (p:=p) (vs:=vs);obtain⟨b1,b2⟩:=FN h (ps:=ps) (vs:=(GY (fun j=>j) p vs).2)
  simp only[fU];rw[a1];refine⟨b1,fun t d hg=> ?_⟩
  rw[bn]at hg⊢
  split at hg
  ·rename_i e;injection hg with hg
   subst hg;rw[if_pos e];exact⟨_,rfl,fun u hu=>a2 hu⟩
  ·rename_i e;rw[if_neg e];exact b2 t d hg
end names
def jT (f:Nat→Nat) (p:jY) (old:Option (Ob G)) (vs:List (TV G)):Ob G×List (TV G):=
 match p with
 | .cells ro pl=>match old with
  |some (.cells ro' ls)=>(.cells ro' (mrg f pl ls vs).1,(mrg f pl ls vs).2)
  |_=>(.cells ro (eG f pl vs).1,(eG f pl vs).2)
 | .arr e t=>match vs with
  |⟨.sl _ t',x⟩::r=>(.arr e t' x,r)
  |_=>(.arr e t [],[])
 | .ow _ false e t=>match vs with
  |⟨.sl _ t',x⟩::r=>(.arr e t' x,r)
  |_=>(.arr e t [],[])
 | .ow _ true e t=>match vs with
  |⟨.sl _ t',x⟩::r=>(.tr e t' x,r)
  |_=>(.tr e t [],[])
 | .mo t u tg=>match vs with
  |v::v'::r=>(.mo v.t v'.t v.x v'.x (V8 f tg),r)
  |_=>(.mo t u (y7 G t) (y7 G u) (V8 f tg),[])
 | .tk e t=>match vs with
  |⟨.sl _ t',x⟩::⟨.int _,n⟩::r=>(.tk e t' x (show Int from n).toNat,r)
  |_=>(.tk e t [] 0,[])
theorem J4 (f:Nat→Nat) (j:Nat) (p:jY) (ps:List jY) (vs:List (TV G)) (ob:List (Nat×Ob G)):
  jm f j (p::ps) vs ob=jm f (j+1) ps (jT f p (get ob (f j)) vs).2 ((f j,(jT f p (get ob (f j)) vs).1)::ob):=by
 cases p with
 |cells ro pl=>
  cases hg:get ob (f j) with
  |none=>simp only[jm,jT,hg]
  |some b=>cases b<;>simp only[jm,jT,hg]
 |arr e t=>
  cases vs with
  |nil=>rfl
  |cons v r=>obtain⟨t',x⟩:=v;cases t'<;>rfl
 |ow kp tree e t=>
  cases tree<;>
  (cases vs with
  |nil=>rfl
  |cons v r=>obtain⟨t',x⟩:=v;cases t'<;>rfl)
 |mo t u tg=>
  cases vs with
  |nil=>rfl
  |cons v r=>cases r<;>rfl
 |tk e t=>
  cases vs with
  |nil=>rfl
  |cons v r=>
   obtain⟨t',x⟩:=v;cases t' with
   |sl e' t'=>
    cases r with
    |nil=>rfl
    |cons v' r=>obtain⟨t2,x2⟩:=v';cases t2<;>rfl
   |_=>rfl
theorem zo (f:Nat→Nat) (j:Nat) (p:jY) (ps:List jY) (vs:List (TV G)):
  gu f j (p::ps) vs=((f j,(jT f p none vs).1)::(gu f (j+1) ps (jT f p none vs).2).1,(gu f (j+1) ps (jT f p none vs).2).2):=by
 cases p with
 |cells ro pl=>rfl
 |arr e t=>
  cases vs with
  |nil=>rfl
  |cons v r=>obtain⟨t',x⟩:=v;cases t'<;>rfl
 |ow kp tree e t=>
  cases tree<;>
  (cases vs with
  |nil=>rfl
  |cons v r=>obtain⟨t',x⟩:=v;cases t'<;>rfl)
 |mo t u tg=>
  cases vs with
  |nil=>rfl
  |cons v r=>cases r<;>rfl
 |tk e t=>
  cases vs with
  |nil=>rfl
  |cons v r=>
   obtain⟨t',x⟩:=v;cases t' with
   |sl e' t'=>
    cases r with
    |nil=>rfl
    |cons v' r=>obtain⟨t2,x2⟩:=v';cases t2<;>rfl
   |_=>rfl
theorem H6 (f:Nat→Nat) {nx:Nat}: ∀{ps:List iP} {ls:List (bD G)} {vs:List (TV G)},ps.length=ls.length→(mrg f ps ls vs).2=(eG f ps vs).2∧(mrg f ps ls vs).1.length=ls.length∧
  ∀{cs cs':List Value},dS Z w pl nx (eG f ps vs).1 cs'→dS Z w pl nx ls cs→(∀i:Nat,ps[i]? =some .any→cs'[i]? =cs[i]?)→dS Z w pl nx (mrg f ps ls vs).1 cs'
 | [],[],vs,_=>⟨rfl,rfl,fun h _ _=>h⟩
 |p::ps,l::ls,vs,h=>by
  have ih:=H6 f (nx:=nx) (ps:=ps) (ls:=ls) (vs:=(lS f p vs).2) (by simpa using h)
  obtain⟨a1,a2,a3⟩:=ih;cases p with
  |any=>
   have a2':(mrg f ps ls vs).1.length=ls.length:=a2;refine⟨a1,by simp[mrg,a2'],fun{cs cs'} h1 h2 h3=> ?_⟩
   obtain⟨u,us,e,q1,q2⟩:=h1;obtain⟨u',us',e',q1',q2'⟩:=h2;subst e e';have h0:=h3 0 rfl;injection h0 with h0
   subst h0;exact⟨_,us,rfl,q1',a3 q2 q2' (fun i hi=>by have:=h3 (i+1) (by simpa using hi);simpa using this)⟩
  |_=>
   refine⟨a1,by simp[mrg,a2],fun{cs cs'} h1 h2 h3=> ?_⟩
   obtain⟨u,us,e,q1,q2⟩:=h1;obtain⟨u',us',e',q1',q2'⟩:=h2;subst e e';exact⟨_,us,rfl,q1,a3 q2 q2' (fun i hi=>by have:=h3 (i+1) (by simpa using hi);simpa using this)⟩
 | [],_::_,_,h=>by cases h
 |_::_,[],_,h=>by cases h
theorem QT {f:Nat→Nat} {p:jY} {old:Option (Ob G)} {vs:List (TV G)} {pr mJ:Nat→Value} {n rQ:Nat} (h:NF f pr n mJ rQ)
  (hl: ∀ro pl ro' ls,p= .cells ro pl→old=some (.cells ro' ls)→pl.length=ls.length):(jT f p old vs).2=(jT (fun j=>j) p none vs).2:=by
 cases p with
 |cells ro pl=>
  simp only[jT];have e:=(p_ (Z:=fun _ _=>False) (w:=default) h (ps:=pl) (vs:=vs)).1
  split
  ·rename_i ro' ls;rw[(H6 (G:=G) (Z:=fun _ _=>False) (w:=default) (pl:=pr) (nx:=n) f (hl ro pl ro' ls rfl rfl)).1,e]
  ·exact e
 |arr e t=>simp only[jT]
 |ow kp tree e t=>cases tree<;>simp only[jT]
 |mo t u tg=>simp only[jT];split<;>rfl
 |tk e t=>simp only[jT]
theorem Du {f:Nat→Nat} {pr mJ:Nat→Value} {n rQ:Nat} (h:NF f pr n mJ rQ): ∀{ps:List jY} {j:Nat} {vs:List (TV G)} {ob:List (Nat×Ob G)},
  (∀(i:Nat) p,ps[i]? =some p→ ∀ro pl ro' ls,p= .cells ro pl→get ob (f (j+i))=some (.cells ro' ls)→pl.length=ls.length)→
  (∀i i',i<ps.length→i'<ps.length→f (j+i)=f (j+i')→i=i')→ ∀o b,get (jm f j ps vs ob) o=some b→
  (∃(i:Nat) (p:jY) (vF:List (TV G)),ps[i]? =some p∧o=f (j+i)∧b=(jT f p (get ob (f (j+i))) vF).1∧get (gu (fun j=>j) j ps vs).1 (j+i)=some (jT (fun j=>j) p none vF).1)∨
   ((∀i,i<ps.length→o≠f (j+i))∧get ob o=some b)
 | [],j,vs,ob,_,_,o,b,hg=> .inr ⟨fun i hi=>absurd hi (Nat.not_lt_zero _),hg⟩
 |p::ps,j,vs,ob,hl,hinj,o,b,hg=>by
  rw[J4]at hg;have hrest:=QT (f:=f) (p:=p) (old:=get ob (f j)) (vs:=vs) h (fun ro pl ro' ls e1 e2=>hl 0 p rfl ro pl ro' ls e1 e2)
  have WO: ∀i,i<ps.length→get ((f j,(jT f p (get ob (f j)) vs).1)::ob) (f (j+1+i))=get ob (f (j+(i+1))):=by
   intro i hi;rw[show j+1+i=j+(i+1) by omega]
   refine dP _ _ (fun e=> ?_)
   have:=hinj 0 (i+1) (by simp) (by simpa using hi) e
   omega
  rcases Du h (ps:=ps) (j:=j+1) (fun i p' hp ro pl ro' ls e1 e2=>by
    have hlt:i<ps.length:=(List.getElem?_eq_some_iff.1 hp).1;rw[WO i hlt]at e2;exact hl (i+1) p' (by simpa using hp) ro pl ro' ls e1 e2)
   (fun i i' hi hi' e=>by
    have:=hinj (i+1) (i'+1) (by simpa using hi) (by simpa using hi') (by rw[show j+(i+1)=j+1+i by omega,show j+(i'+1)=j+1+i' by omega];exact e)
    omega) o b hg with⟨i,p',vF,h1,h2,h3,h4⟩|⟨h1,h2⟩
  ·have hlt:i<ps.length:=(List.getElem?_eq_some_iff.1 h1).1;refine .inl ⟨i+1,p',vF,by simpa using h1,by rw[show j+(i+1)=j+1+i by omega];exact h2,?_,?_⟩
   ·rw[WO i hlt]at h3;exact h3
   ·rw[zo,dP _ _ (by omega),←hrest,show j+(i+1)=j+1+i by omega]
    exact h4
  ·by_cases e:f j=o
   ·subst e;rw[cu]at h2;injection h2 with h2
    refine .inl ⟨0,p,vs,rfl,rfl,h2.symm,?_⟩;rw[zo];exact cu _ _ _
   ·rw[dP _ _ e]at h2;refine .inr ⟨fun i hi=> ?_,h2⟩
    cases i with
    |zero=>exact fun ee=>e ee.symm
    |succ i=>have:=h1 i (by simpa using hi);rwa [show j+(i+1)=j+1+i by omega]
end
end Go.Proofs.YtmcbhnbemhfifaaGreatDoor.RX
