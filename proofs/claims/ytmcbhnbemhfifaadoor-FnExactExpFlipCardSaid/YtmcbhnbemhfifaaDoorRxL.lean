/- An operation's evaluation comes to one state, or to none. No condition. -/
import Derived.Test.YtmcbhnbemhfifaaDoorRxO
namespace Go.Proofs.YtmcbhnbemhfifaaDoor.RX
open Go Go.RowKit
set_option autoImplicit false
variable {G : Sig} {R : Type} {r : R}
/-- Two continuations that are answered are answered both. -/
def Both (r : R) (x y z : Option R) : Prop := x = some r → y = some r → z = some r
section
variable {E : Env G R} {o : Oper} {A B C : St G → Option R}
theorem Both.none {y z : Option R} : Both r Option.none y z := fun h => by cases h
theorem out_both (h : ∀ L, Both r (A L) (B L) (C L)) (v : DV G) (L : St G) : Both r (out E o v L A) (out E o v L B) (out E o v L C) := by
  unfold out
  cases o.dst with
  | none => exact h L
  | some d =>
    simp only
    cases Nat.blt d E.N with
    | true => exact h _
    | false => exact .none
theorem ite_both {p : Prop} [Decidable p] {a b c a' b' c' : Option R} (h : Both r a b c) (h' : Both r a' b' c') : Both r (if p then a else a') (if p then b else b') (if p then c else c') := by
  split
  · exact h
  · exact h'
theorem condK_both {s : SV G} {a b c a' b' c' : Option R} (h : Both r a b c) (h' : Both r a' b' c') : Both r (condK s a a') (condK s b b') (condK s c c') := by
  unfold condK
  cases s with
  | agg ls => exact .none
  | one l =>
    cases l with
    | kb b => cases b with | true => exact h | false => exact h'
    | prop p d => exact @ite_both _ _ p d _ _ _ _ _ _ h h'
    | val t x => cases t with | bool => exact ite_both h h' | _ => exact .none
    | _ => exact .none
theorem binI_both {op : BinOp} {k : IntKind} {x y : Int} {f g h : Leaf G → Option R} (hh : ∀ l, Both r (f l) (g l) (h l)) : Both r (binI op k x y f) (binI op k x y g) (binI op k x y h) := by
  unfold binI
  cases op <;> first | exact hh _ | exact ite_both .none (hh _) | exact .none
theorem binS_both {op : BinOp} {x y : ByteArray} {f g h : Leaf G → Option R} (hh : ∀ l, Both r (f l) (g l) (h l)) : Both r (binS op x y f) (binS op x y g) (binS op x y h) := by
  unfold binS
  cases op <;> first | exact hh _ | exact ite_both (hh _) .none | exact .none
theorem binK_both {T : Option TI} {op : BinOp} {x y : SV G} {f g h : Leaf G → Option R} (hh : ∀ l, Both r (f l) (g l) (h l)) : Both r (binK T op x y f) (binK T op x y g) (binK T op x y h) := by
  unfold binK
  repeat' (first | exact Both.none | exact hh _ | exact binI_both hh | exact binS_both hh | split)
theorem bind_both {α : Type} {x : Option α} {f g h : α → Option R} (hh : ∀ a, Both r (f a) (g a) (h a)) : Both r (x.bind f) (x.bind g) (x.bind h) := by
  cases x with
  | none => exact .none
  | some a => exact hh a
theorem gdK_both : ∀ {gs : List Nat} {x y z : Option R}, Both r x y z → Both r (gdK gs x) (gdK gs y) (gdK gs z)
  | [], _, _, _, h => h
  | n :: gs, _, _, _, h => ite_both (gdK_both h) .none
theorem loadT_both {ti : TI} {L : St G} {i n z off : Nat} {e : TypeId} {t : Ty} {xs : List (G.D t)} (ho : ∀ (v : DV G) (L : St G), Both r (out E o v L A) (out E o v L B) (out E o v L C)) : Both r (loadT E o ti L i n z off e t xs A) (loadT E o ti L i n z off e t xs B) (loadT E o ti L i n z off e t xs C) := by
  unfold loadT
  repeat' (first | exact Both.none | exact ho _ _ | split)
theorem storeT_both {s : SV G} {L : St G} {i n z off : Nat} {e : TypeId} {t : Ty} {xs : List (G.D t)} (ho : ∀ (v : DV G) (L : St G), Both r (out E o v L A) (out E o v L B) (out E o v L C)) : Both r (storeT E o s L i n z off e t xs A) (storeT E o s L i n z off e t xs B) (storeT E o s L i n z off e t xs C) := by
  unfold storeT
  repeat' (first | exact Both.none | exact gdK_both (ho _ _) | split)
theorem newOb_both {b : Ob G} {L : St G} {f g k : Nat → St G → Option R} (h : ∀ i L, Both r (f i L) (g i L) (k i L)) : Both r (newOb b L f) (newOb b L g) (newOb b L k) := by
  unfold newOb
  cases L
  exact h _ _
theorem buildT_both {e : TypeId} {t : Ty} {n : Nat} {ps : List (Nat × Operand)} {L : St G} (ho : ∀ (v : DV G) (L : St G), Both r (out E o v L A) (out E o v L B) (out E o v L C)) : Both r (buildT E o e t n ps L A) (buildT E o e t n ps L B) (buildT E o e t n ps L C) := by
  unfold buildT
  repeat' (first | exact Both.none | exact gdK_both (newOb_both fun _ _ => ho _ _) | exact newOb_both fun _ _ => ho _ _ | split)
theorem appendT_both {e : TypeId} {t : Ty} {s i : SV G} {L : St G} (ho : ∀ (v : DV G) (L : St G), Both r (out E o v L A) (out E o v L B) (out E o v L C)) : Both r (appendT E o e t s i L A) (appendT E o e t s i L B) (appendT E o e t s i L C) := by
  unfold appendT
  repeat' (first | exact Both.none | refine ite_both (newOb_both fun _ _ => ho _ _) Both.none | split)
theorem semOp_both (h : ∀ L, Both r (A L) (B L) (C L)) (L : St G) : Both r (semOp E o L A) (semOp E o L B) (semOp E o L C) := by
  have ho := fun v L => out_both (E := E) (o := o) h v L
  have hc : ∀ (c : Ct G) l L, Both r (callK E o c l L A) (callK E o c l L B) (callK E o c l L C) := by
    intro c l L
    cases L with
    | mk tm ob nx =>
    simp only [callK]
    split
    · split
      · refine bind_both fun x => ?_
        split
        · split
          · exact ho _ _
          · exact .none
        · exact ho _ _
      · exact .none
    · exact .none
  cases hop : o.op with
  | call c =>
    simp only [semOp, hop]
    repeat' (first | exact Both.none | exact ho _ _ | exact hc _ _ _ | exact appendT_both ho | refine ite_both ?_ Both.none | split)
  | unOp op T x =>
    cases op <;> simp only [semOp, hop]
    all_goals repeat' (first | exact Both.none | exact ho _ _ | split)
  | makeFunc f x y =>
    cases f <;> simp only [semOp, hop]
    all_goals repeat' (first | exact Both.none | exact ho _ _ | split)
  | _ =>
    simp only [semOp, hop]
    repeat' (first | exact Both.none | exact ho _ _ | exact loadT_both ho | exact storeT_both ho | exact buildT_both ho | exact binK_both fun _ => ho _ _ | exact bind_both fun _ => ho _ _ | refine condK_both ?_ ?_ | refine ite_both ?_ Both.none | split)
theorem semG_both {all : List Oper} (h : ∀ L, Both r (A L) (B L) (C L)) (L : St G) : Both r (semG E all o L A) (semG E all o L B) (semG E all o L C) := by
  have ho := fun v L => out_both (E := E) (o := o) h v L
  unfold semG
  repeat' (first | exact Both.none | exact ho _ _ | exact semOp_both h _ | refine condK_both ?_ ?_ | split)
/-- Continuations that are answered one by one are answered all. -/
theorem semG_all {all : List Oper} {ι : Type} {f : ι → St G → Option R} (L : St G) (q : ι) : ∀ (qs : List ι), (∀ x ∈ q :: qs, semG E all o L (f x) = some r) →
    semG E all o L (fun L' => @ite _ (∀ x ∈ q :: qs, f x L' = some r) (Classical.propDecidable _) (some r) none) = some r := by
  intro qs
  induction qs with
  | nil =>
    intro h
    refine semG_both (r := r) (A := f q) (B := f q) (C := _) (fun L' h1 _ => ?_) L (h q List.mem_cons_self) (h q List.mem_cons_self)
    rw [if_pos]
    intro x hx
    rw [List.mem_singleton.1 hx]
    exact h1
  | cons q' qs ih =>
    intro h
    refine semG_both (r := r) (A := f q') (C := _) (fun L' h1 h2 => ?_) L (h q' (by simp)) (ih fun x hx => h x (by rcases List.mem_cons.1 hx with e | e <;> simp [e]))
    split at h2
    · rename_i h3
      rw [if_pos]
      intro x hx
      rcases List.mem_cons.1 hx with e | e
      · subst e; exact h3 _ List.mem_cons_self
      · rcases List.mem_cons.1 e with e | e
        · subst e; exact h1
        · exact h3 _ (List.mem_cons_of_mem _ e)
    · cases h2
end
end Go.Proofs.YtmcbhnbemhfifaaDoor.RX
