/- A part of an engine that carries Go code out on trees of values, proved sound over the model for every program. No condition beyond what each theorem states. -/
import Derived.Test.YtpkdcjbkfkhgdaaGreatQH1
import Derived.Lib.AppendZerosOnto
import Derived.Lib.Overlaps
import Derived.Laws.IdiomStrings
section
set_option linter.unusedSimpArgs false
set_option linter.unusedVariables false
namespace Go.H
open Go
inductive TV where
  | one (t : T)
  | agg (ts : List T)
inductive C where
  | t (x : T)
  | arr (i : Nat)
  | ptr (i j : Nat)
  | fn (f : FuncId) (caps : List C)
inductive Arg where
  | one (c : C)
  | agg (cs : List C)
mutual
def CRep (w : World) (fz : Nat → Prop) (hs : List Value) : C → (Nat → Prop) → Value → Prop
  | .t x, S, v => OwT w fz x S v
  | .arr i, _, v => hs[i]? = some v
  | .ptr i j, _, v => ∃ b, hs[i]? = some (.pointer (some ⟨b, 0, none⟩)) ∧ v = .pointer (some ⟨b, j, none⟩)
  | .fn f caps, _, v => ∃ cs, v = .func (.func f) #[] (List.toArray cs) ∧ CRepL w fz hs caps (fun _ => False) cs
def CRepL (w : World) (fz : Nat → Prop) (hs : List Value) : List C → (Nat → Prop) → List Value → Prop
  | [], _, vs => vs = []
  | c :: cs, S, vs => ∃ u us, ∃ S1 S2 : Nat → Prop, vs = u :: us ∧ (∀ b, S1 b → S b ∧ ¬ S2 b) ∧ (∀ b, S2 b → S b) ∧ CRep w fz hs c S1 u ∧ CRepL w fz hs cs S2 us
end
def ARep (w : World) (fz : Nat → Prop) (hs : List Value) : Arg → (Nat → Prop) → Value → Prop
  | .one c, S, v => CRep w fz hs c S v
  | .agg cs, S, v => ∃ us, v = .agg (List.toArray us) ∧ CRepL w fz hs cs S us
def ARepL (w : World) (fz : Nat → Prop) (hs : List Value) : List Arg → (Nat → Prop) → List Value → Prop
  | [], _, vs => vs = []
  | c :: cs, S, vs => ∃ u us, ∃ S1 S2 : Nat → Prop, vs = u :: us ∧ (∀ b, S1 b → S b ∧ ¬ S2 b) ∧ (∀ b, S2 b → S b) ∧ ARep w fz hs c S1 u ∧ ARepL w fz hs cs S2 us
def ObRep (w : World) (fz : Nat → Prop) : Ob → (Nat → Prop) → Value → Prop
  | .var cells, S, h => ∃ b cur e, h = .pointer (some ⟨b, 0, none⟩) ∧ S b ∧ w.heap[b]? = some (.cells cur e (0, 0)) ∧ OwL w fz cells (fun x => S x ∧ x ≠ b) cur.toList
  | .arr sz rows, S, h => OwT w fz (.sl true sz rows) S h
def ObRepL (w : World) (fz : Nat → Prop) : List Ob → (Nat → Prop) → List Value → Prop
  | [], _, vs => vs = []
  | c :: cs, S, vs => ∃ u us, ∃ S1 S2 : Nat → Prop, vs = u :: us ∧ (∀ b, S1 b → S b ∧ ¬ S2 b) ∧ (∀ b, S2 b → S b) ∧ ObRep w fz c S1 u ∧ ObRepL w fz cs S2 us
def RRep (w : World) (fz : Nat → Prop) : TV → (Nat → Prop) → Value → Prop
  | .one t, S, v => OwT w fz t S v
  | .agg ts, S, v => ∃ us, v = .agg (List.toArray us) ∧ OwL w fz ts S us
def RRepL (w : World) (fz : Nat → Prop) : List TV → (Nat → Prop) → List Value → Prop
  | [], _, vs => vs = []
  | c :: cs, S, vs => ∃ u us, ∃ S1 S2 : Nat → Prop, vs = u :: us ∧ (∀ b, S1 b → S b ∧ ¬ S2 b) ∧ (∀ b, S2 b → S b) ∧ RRep w fz c S1 u ∧ RRepL w fz cs S2 us
def RetRep (w : World) (fz : Nat → Prop) (rs : List TV) (S : Nat → Prop) (v : Value) : Prop :=
  ∃ vs, RRepL w fz rs S vs ∧ v = (if h : vs.length = 1 then vs[0] else .tuple (List.toArray vs))
class Inv (P : Program) where
  n : Nat
  I : World → Prop
  size : ∀ w, I w → n ≤ w.heap.size
  stable : ∀ w w' : World, w.heap.size ≤ w'.heap.size → (∀ b, b < n → w'.heap[b]? = w.heap[b]?) → I w → I w'
  mixed : P.follows .mixedOrders = true
structure Post (P : Program) [Inv P] (w : World) (fz S : Nat → Prop) (hs : List Value) (rs : List TV) (L' : List Ob) (e : Ending) (w' : World) (v : Value) (fz' Sr So' : Nat → Prop) : Prop where
  ret : e = .returned v
  os : w'.os = w.os
  tape : w'.tape = w.tape
  output : w'.output = w.output
  size : w.heap.size ≤ w'.heap.size
  same : ∀ b, b < w.heap.size → ¬ S b → w'.heap[b]? = w.heap[b]?
  fz1 : ∀ b, fz b → fz' b
  fz2 : ∀ b, fz' b → b < w'.heap.size ∧ (fz b ∨ S b ∨ w.heap.size ≤ b)
  own : ∀ b, Sr b ∨ So' b → b < w'.heap.size ∧ ¬ fz' b ∧ (S b ∨ w.heap.size ≤ b)
  dis : ∀ b, Sr b → ¬ So' b
  res : RetRep w' fz' rs Sr v
  obs : ObRepL w' fz' L' So' hs
def SemX (P : Program) [Inv P] (f : FuncId) (as : List Arg) (L : List Ob) (rs : List TV) (L' : List Ob) : Prop :=
  ∀ (w : World) (fz Sa So : Nat → Prop) (hs vs : List Value), Inv.I P w → (∀ b, fz b → b < w.heap.size) → (∀ b, Sa b ∨ So b → b < w.heap.size ∧ ¬ fz b ∧ Inv.n P ≤ b) → (∀ b, Sa b → ¬ So b) →
    ARepL w fz hs as Sa vs → ObRepL w fz L So hs →
    Calls P f (List.toArray vs) w fun e w' => ∃ v fz' Sr So', Post P w fz (fun b => Sa b ∨ So b) hs rs L' e w' v fz' Sr So'
def Arg.ro : TV → Arg
  | .one t => .one (.t t)
  | .agg ts => .agg (ts.map .t)
def Sem (P : Program) [Inv P] (f : FuncId) (as rs : List TV) : Prop := SemX P f (as.map Arg.ro) [] rs []
def ownV (k : Nat) : T → V
  | .sl true _ rows => .ref k 0 rows.length
  | t => t.toV none
def ownM (k : Nat) : T → List (Nat × Mem)
  | .sl true sz rows => [(k, .arr ⟨sz, rows, 1, none⟩)]
  | _ => []
def ownVL (k : Nat) : List T → List V
  | [] => []
  | t :: ts => ownV k t :: ownVL (k + 1) ts
def ownML (k : Nat) : List T → List (Nat × Mem)
  | [] => []
  | t :: ts => ownM k t ++ ownML (k + 1) ts
def SF.ext (s : SF) (ms : List (Nat × Mem)) : SF := ⟨s.F, fun x => (look x ms).or (s.M x), fun x => x ∈ ms.map (·.1) ∨ s.B x⟩
theorem look_append {β : Type} (x : Nat) : ∀ (a b : List (Nat × β)), look x (a ++ b) = (look x a).or (look x b)
  | [], b => by simp [look]
  | (k, y) :: a, b => by
    simp only [List.cons_append, look]
    by_cases e : x = k <;> simp [e, look_append x a b]
theorem SF.ext_ext (s : SF) (a b : List (Nat × Mem)) : ∀ {E : Env} {nt : Nat} {g : Gh} {x : Act} {w : World}, Sim E nt ((s.ext a).ext b) g x w → Sim E nt (s.ext (b ++ a)) g x w := fun h => by
  refine h.less (fun _ _ h => h) (fun k m hm => ?_) (fun k hk => ?_)
  · simp only [SF.ext, look_append] at hm ⊢
    rw [← hm]
    cases look k b <;> simp
  · simp only [SF.ext, List.map_append, List.mem_append] at hk ⊢
    rcases hk with hk | hk | hk
    · exact .inl (.inl hk)
    · exact .inl (.inr hk)
    · exact .inr hk
def Un (E : Env) (g : Gh) (w : World) (b : Nat) : Prop := b < w.heap.size ∧ (∀ x, ¬ Own g x b) ∧ ¬ g.fz b ∧ (E.wr b ∨ E.w0.heap.size ≤ b)
theorem Sim.dist {E : Env} {nt : Nat} {s : SF} {g : Gh} {a : Act} {w : World} (h : Sim E nt s g a w) {t : T} {S : Nat → Prop} {v : Value} {k : Nat} (ho : OwT w g.fz t S v) (hS : ∀ b, S b → Un E g w b) (hk : ∀ x ∈ (ownM k t).map (·.1), ¬ s.B x) :
    ∃ g', Sim E nt (s.ext (ownM k t)) g' a w ∧ Ext g w g' w ∧ VRep w g' (ownV k t) v ∧ g'.fz = g.fz ∧ g'.bv = g.bv ∧ (∀ x b, Own g' x b → Own g x b ∨ S b) ∧ (∀ x, x ≠ k ∨ s.B x → g'.fp x = g.fp x ∧ g'.top x = g.top x ∧ g'.ab x = g.ab x) := by
  have triv : RoT w g.fz t v → ∃ g', Sim E nt (s.ext []) g' a w ∧ Ext g w g' w ∧ VRep w g' (t.toV none) v ∧ g'.fz = g.fz ∧ g'.bv = g.bv ∧ (∀ x b, Own g' x b → Own g x b ∨ S b) ∧ (∀ x, x ≠ k ∨ s.B x → g'.fp x = g.fp x ∧ g'.top x = g.top x ∧ g'.ab x = g.ab x) := fun hr =>
    ⟨g, h.less (fun _ _ h => h) (fun k m hm => by simpa [SF.ext, look] using hm) (fun k hk => by simp [SF.ext]; exact hk), Ext.refl g w, RoT.toV (dep := none) trivial (fun _ => hr) (fun _ _ _ => trivial) (fun _ _ _ => trivial) (fun _ _ => trivial) (fun _ _ => trivial), rfl, rfl, fun _ _ h => .inl h, fun _ _ => ⟨rfl, rfl, rfl⟩⟩
  cases t with
  | sl o sz rows =>
    cases o with
    | true =>
      have ho' := ho
      simp only [OwT] at ho
      obtain ⟨base, cap, hv, hc, hm, hr⟩ := ho
      subst hv
      obtain ⟨g', h', hx, hab, hfz, hfp, htop, hbv, hoth⟩ := h.setArr (w' := w) k [] (A := ⟨sz, rows, 1, none⟩) (S := S) (base := base) (cap := cap) rfl rfl rfl (Nat.le_refl _) (.inr ⟨hk k (by simp [ownM]), rfl⟩) (fun x hx => by cases hx) (fun _ _ _ _ => rfl)
        (fun b hb => ⟨(hS b hb).1, .inr (.inr (hS b hb).2)⟩) ho' (fun c hc => by cases hc)
      refine ⟨g', ?_, hx, ?_, hfz, hbv, fun x b hxb => ?_, fun x hx => hoth x (hx.elim id fun hb e => hk k (by simp [ownM]) (e ▸ hb)) (by simp)⟩
      · refine h'.memEq (funext fun y => ?_) (fun y => by simp [SF.ext, ownM])
        simp only [SF.ext, ownM, look]
        by_cases e : y = k <;> simp [e]
      · simp only [ownV, VRep]
        exact ⟨base, cap, sz, base, hab, by omega, rfl, fun _ => rfl, fun _ => by cases base <;> simp [Addr.add]⟩
      · rcases hxb with hxb | hxb
        · rw [hbv] at hxb; exact .inl (.inl hxb)
        · by_cases e : x = k
          · subst e; rw [hfp] at hxb; exact .inr hxb
          · rw [(hoth x e (by simp)).1] at hxb; exact .inl (.inr hxb)
    | false => exact triv (by simpa only [OwT] using ho)
  | int k' n => exact triv (by simpa only [OwT, RoT] using ho)
  | bool b => exact triv (by simpa only [OwT, RoT] using ho)
  | str s => exact triv (by simpa only [OwT, RoT] using ho)
  | ptr row => exact triv (by simpa only [OwT] using ho)
  | fn f caps => exact triv (by simpa only [OwT] using ho)
  | junk => exact triv (by simp only [RoT])
  | nl => exact triv (by simpa only [OwT, RoT] using ho)
  | val x => exact triv (by simpa only [OwT, RoT] using ho)
theorem ownM_key {k x : Nat} {t : T} (h : x ∈ (ownM k t).map (·.1)) : x = k := by
  unfold ownM at h
  split at h <;> simp at h
  exact h
theorem ownML_key {x : Nat} : ∀ {ts : List T} {k : Nat}, x ∈ (ownML k ts).map (·.1) → k ≤ x ∧ x < k + ts.length
  | [], k, h => by simp [ownML] at h
  | t :: ts, k, h => by
    simp only [ownML, List.map_append, List.mem_append] at h
    rcases h with h | h
    · have := ownM_key h; simp; omega
    · have := ownML_key h; simp; omega
theorem Un.mono {E : Env} {g g' : Gh} {w : World} {S : Nat → Prop} {b : Nat} (h : Un E g w b) (hfz : g'.fz = g.fz) (ho : ∀ x b, Own g' x b → Own g x b ∨ S b) (hn : ¬ S b) : Un E g' w b :=
  ⟨h.1, fun x hx => by rcases ho x b hx with e | e; exact h.2.1 x e; exact hn e, by rw [hfz]; exact h.2.2.1, h.2.2.2⟩
theorem Sim.distL {E : Env} {nt : Nat} {a : Act} {w : World} : ∀ {ts : List T} {s : SF} {g : Gh} {S : Nat → Prop} {vs : List Value} {k : Nat}, Sim E nt s g a w → OwL w g.fz ts S vs → (∀ b, S b → Un E g w b) → (∀ x ∈ (ownML k ts).map (·.1), ¬ s.B x) →
    ∃ g', Sim E nt (s.ext (ownML k ts)) g' a w ∧ Ext g w g' w ∧ VRepL w g' (ownVL k ts) vs ∧ g'.fz = g.fz ∧ g'.bv = g.bv ∧ (∀ x b, Own g' x b → Own g x b ∨ S b) ∧ (∀ x, (x < k ∨ k + ts.length ≤ x ∨ s.B x) → g'.fp x = g.fp x ∧ g'.top x = g.top x ∧ g'.ab x = g.ab x)
  | [], s, g, S, vs, k, h, ho, hS, hk => by
    simp only [OwL] at ho
    subst ho
    exact ⟨g, h.less (fun _ _ h => h) (fun k m hm => by simpa [SF.ext, ownML, look] using hm) (fun k hk => by simp [SF.ext, ownML]; exact hk), Ext.refl g w, by simp only [ownVL, VRepL], rfl, rfl, fun _ _ h => .inl h, fun _ _ => ⟨rfl, rfl, rfl⟩⟩
  | t :: ts, s, g, S, vs, k, h, ho, hS, hk => by
    simp only [OwL] at ho
    obtain ⟨u, us, S1, S2, rfl, d1, d2, h1, h2⟩ := ho
    obtain ⟨g1, s1, x1, r1, f1, b1, o1, q1⟩ := h.dist (k := k) h1 (fun b hb => hS b (d1 b hb).1) (fun x hx => hk x (by simp only [ownML, List.map_append, List.mem_append]; exact .inl hx))
    have hun : ∀ b, S2 b → Un E g1 w b := fun b hb => (hS b (d2 b hb)).mono f1 o1 (fun hb1 => (d1 b hb1).2 hb)
    obtain ⟨g2, s2, x2, r2, f2, b2, o2, q2⟩ := Sim.distL (k := k + 1) s1 (by rw [f1]; exact h2) hun (fun x hx hb => by
      rcases hb with hb | hb
      · have := ownM_key hb
        have := ownML_key hx
        omega
      · exact hk x (by simp only [ownML, List.map_append, List.mem_append]; exact .inr hx) hb)
    have xx : Ext g w g2 w := ⟨Nat.le_refl _, fun d b hd => x2.bv d b (x1.bv d b hd), fun κ x hx => x2.ab κ x (x1.ab κ x hx), fun b hb => ⟨(x2.fz b (x1.fz b hb).1).1, fun _ => rfl⟩, fun κ => Nat.le_trans (x1.top κ) (x2.top κ), fun κ hκ => by
      have e1 : g1.top κ = g.top κ := Nat.le_antisymm (by rw [← hκ]; exact x2.top κ) (x1.top κ)
      have e2 : g2.top κ = g1.top κ := by rw [hκ, e1]
      exact ⟨(x2.fp κ e2).1.trans (x1.fp κ e1).1, fun _ _ _ => rfl⟩⟩
    refine ⟨g2, ?_, xx, ?_, f2.trans f1, b2.trans b1, fun x b hxb => ?_, fun x hx => ?_⟩
    · have e := SF.ext_ext s _ _ s2
      refine e.less (fun _ _ h => h) (fun y m hm => ?_) (fun y hy => ?_)
      · simp only [SF.ext, ownML, look_append] at hm ⊢
        rw [← hm]
        cases e1 : look y (ownM k t) with
        | none => simp
        | some m1 =>
          have hy : y ∈ (ownM k t).map (·.1) := by
            unfold ownM at e1 ⊢
            split at e1 <;> simp only [look] at e1
            · split at e1
              · rename_i e; simp [e]
              · cases e1
            · cases e1
          have hyk := ownM_key hy
          have e2 : look y (ownML (k + 1) ts) = none := by
            cases e3 : look y (ownML (k + 1) ts) with
            | none => rfl
            | some m2 =>
              exfalso
              have lm : ∀ {l : List (Nat × Mem)} {y : Nat} {m : Mem}, look y l = some m → y ∈ l.map (·.1) := by
                intro l
                induction l with
                | nil => intro y m h; simp [look] at h
                | cons p l ih =>
                  intro y m h
                  obtain ⟨q, r⟩ := p
                  simp only [look] at h
                  split at h
                  · rename_i e; simp [e]
                  · simp only [List.map_cons, List.mem_cons]; exact .inr (ih h)
              have := ownML_key (lm e3)
              omega
          rw [e2]
          simp
      · simp only [SF.ext, ownML, List.map_append, List.mem_append] at hy ⊢
        rcases hy with (hy | hy) | hy
        · exact .inl (.inr hy)
        · exact .inl (.inl hy)
        · exact .inr hy
    · simp only [ownVL, VRepL]
      exact ⟨u, us, rfl, r1.ext x2, r2⟩
    · rcases o2 x b hxb with e | e
      · rcases o1 x b e with e | e
        · exact .inl e
        · exact .inr (d1 b e).1
      · exact .inr (d2 b e)
    · simp only [List.length_cons] at hx
      have e1 := q1 x (by rcases hx with hx | hx | hx; exact .inl (by omega); exact .inl (by omega); exact .inr hx)
      have e2 := q2 x (by rcases hx with hx | hx | hx; exact .inl (by omega); exact .inr (.inl (by omega)); exact .inr (.inr (.inr hx)))
      exact ⟨e2.1.trans e1.1, e2.2.1.trans e1.2.1, e2.2.2.trans e1.2.2⟩
theorem Ext.trans {g g1 g2 : Gh} {w w1 w2 : World} (x1 : Ext g w g1 w1) (x2 : Ext g1 w1 g2 w2) : Ext g w g2 w2 :=
  ⟨Nat.le_trans x1.size x2.size, fun d b hd => x2.bv d b (x1.bv d b hd), fun κ x hx => x2.ab κ x (x1.ab κ x hx),
    fun b hb => ⟨(x2.fz b (x1.fz b hb).1).1, fun hl => ((x2.fz b (x1.fz b hb).1).2 (Nat.lt_of_lt_of_le hl x1.size)).trans ((x1.fz b hb).2 hl)⟩, fun κ => Nat.le_trans (x1.top κ) (x2.top κ), fun κ hκ => by
      have e1 : g1.top κ = g.top κ := Nat.le_antisymm (by rw [← hκ]; exact x2.top κ) (x1.top κ)
      have e2 : g2.top κ = g1.top κ := by rw [hκ, e1]
      refine ⟨(x2.fp κ e2).1.trans (x1.fp κ e1).1, fun b hb hl => ?_⟩
      rw [(x2.fp κ e2).2 b (by rw [(x1.fp κ e1).1]; exact hb) (Nat.lt_of_lt_of_le hl x1.size)]
      exact (x1.fp κ e1).2 b hb hl⟩
theorem Sim.adopt {E : Env} {nt : Nat} {s : SF} {g : Gh} {a : Act} {w : World} (h : Sim E nt s g a w) {k b : Nat} {cs : List V} {cur : Array Value} {e : TypeId} (hk : ¬ s.B k) (hb : Un E g w b) (hh : w.heap[b]? = some (.cells cur e (0, 0))) (hn : VRepL w g cs cur.toList) :
    ∃ g', Sim E nt ⟨s.F, fun x => if x = k then some (.var cs) else s.M x, fun x => x = k ∨ s.B x⟩ g' a w ∧ Ext g w g' w ∧ g'.bv k = some b ∧ g'.fz = g.fz ∧ (∀ x c, Own g' x c → Own g x c ∨ c = b) ∧ g'.fp = g.fp ∧ g'.top = g.top ∧ g'.ab = g.ab ∧ (∀ x, x ≠ k → g'.bv x = g.bv x) := by
  let g' : Gh := { g with bv := upd g.bv k (some b) }
  obtain ⟨n1, n2, n3, n4⟩ := h.newK hk
  have hx : Ext g w g' w := {
    size := Nat.le_refl _
    bv := fun d c hd => by
      simp only [g', upd]
      by_cases e : d = k
      · subst e; rw [n1] at hd; cases hd
      · rw [if_neg e]; exact hd
    ab := fun κ x hx => hx
    fz := fun c hc => ⟨hc, fun _ => rfl⟩
    top := fun κ => Nat.le_refl _
    fp := fun κ _ => ⟨rfl, fun _ _ _ => rfl⟩ }
  have hown' : ∀ x c, Own g' x c → (x = k ∧ c = b) ∨ (x ≠ k ∧ Own g x c) := by
    intro x c ho
    by_cases e : x = k
    · subst e
      rcases ho with ho | ho
      · simp only [g', upd, if_true, Option.some.injEq] at ho; exact .inl ⟨rfl, ho.symm⟩
      · exact absurd ho (n3 c)
    · rcases ho with ho | ho
      · simp only [g', upd, if_neg e] at ho; exact .inr ⟨e, .inl ho⟩
      · exact .inr ⟨e, .inr ho⟩
  refine ⟨g', h.change hx rfl rfl rfl (fun _ _ _ => rfl) ?_ ?_ ?_ ?_ ?_ ?_ ?_ ?_ ?_ ?_ (fun b hb => .inl hb), hx, by simp only [g', upd, if_true], rfl, fun x c ho => ?_, rfl, rfl, rfl, fun x hx => by simp only [g', upd, if_neg hx]⟩
  · intro x m hm
    by_cases e' : x = k
    · subst e'
      simp only [if_true, Option.some.injEq] at hm
      subst hm
      exact ⟨b, cur, e, by simp only [g', upd, if_true], hh, hn.ext hx⟩
    · simp only [if_neg e'] at hm
      exact (h.mem x m hm).ext hx rfl (fun _ _ _ => rfl)
  · intro x c ho
    rcases hown' x c ho with ⟨_, rfl⟩ | ⟨_, h1⟩
    · exact .inr hb.2.2.2
    · exact .inl ⟨x, h1⟩
  · intro x c ho
    rcases hown' x c ho with ⟨_, rfl⟩ | ⟨_, h1⟩
    · exact hb.1
    · exact (h.ownlt x c h1).1
  · intro x y c h1 h2
    have k2 := hown' y c h2
    rcases hown' x c h1 with ⟨e1, e3⟩ | ⟨e1, h3⟩ <;> rcases k2 with ⟨e2, e4⟩ | ⟨e2, h4⟩
    · rw [e1, e2]
    · subst e3; exact absurd h4 (hb.2.1 y)
    · subst e4; exact absurd h3 (hb.2.1 x)
    · exact h.disj x y c h3 h4
  · intro x c ho hf
    rcases hown' x c ho with ⟨_, rfl⟩ | ⟨_, h1⟩
    · exact hb.2.2.1 hf
    · exact h.ownfz x c h1 hf
  · exact h.fzlt
  · intro x hxx
    simp only [g', upd] at hxx
    by_cases e : x = k
    · exact .inl e
    · rw [if_neg e] at hxx; exact .inr (h.bornV x hxx)
  · intro x hxx
    exact .inr (h.bornA x hxx)
  · intro x hxx
    exact h.bornF x (fun e => hxx (.inr e))
  · intro x hxx
    by_cases e : x = k
    · subst e; exact ⟨n2, n3⟩
    · simp only [g', upd, if_neg e] at hxx; exact h.kind x hxx
  · rcases hown' x c ho with ⟨_, rfl⟩ | ⟨_, h1⟩
    · exact .inr rfl
    · exact .inl h1
def obM (i : Nat) : Ob → List (Nat × Mem)
  | .var cells => (lkey i, .var (ownVL (lkey i + 1) cells)) :: ownML (lkey i + 1) cells
  | .arr sz rows => [(lkey i, .arr ⟨sz, rows, 1, none⟩)]
def obML (i : Nat) : List Ob → List (Nat × Mem)
  | [] => []
  | o :: os => obM i o ++ obML (i + 1) os
def obOk : Ob → Prop
  | .var cells => cells.length < 900
  | .arr .. => True
theorem Sim.distOb {E : Env} {nt : Nat} {s : SF} {g : Gh} {a : Act} {w : World} (h : Sim E nt s g a w) {o : Ob} {S : Nat → Prop} {v : Value} {i : Nat} (ho : ObRep w g.fz o S v) (hok : obOk o) (hS : ∀ b, S b → Un E g w b) (hk : ∀ k, lkey i ≤ k → k < lkey (i + 1) → ¬ s.B k) :
    ∃ g', Sim E nt (s.ext (obM i o)) g' a w ∧ Ext g w g' w ∧ HRep g' (lkey i) o v ∧ g'.fz = g.fz ∧ (∀ x b, Own g' x b → Own g x b ∨ S b) := by
  have hl : lkey (i + 1) = lkey i + 1000 := by simp only [lkey]; omega
  cases o with
  | var cells =>
    simp only [obOk] at hok
    obtain ⟨b, cur, e, hv, hSb, hh, hc⟩ := ho
    obtain ⟨g1, s1, x1, r1, f1, b1, o1, _⟩ := h.distL (k := lkey i + 1) hc (fun x hx => hS x hx.1) (fun x hx => by have := ownML_key hx; exact hk _ (by omega) (by omega))
    have hun : Un E g1 w b := (hS b hSb).mono f1 o1 (fun hb => hb.2 rfl)
    obtain ⟨g2, s2, x2, bv2, f2, o2, _⟩ := s1.adopt (k := lkey i) (fun hb => by
      rcases hb with hb | hb
      · have := ownML_key hb; omega
      · exact hk _ (Nat.le_refl _) (by omega) hb) hun hh r1
    refine ⟨g2, ?_, x1.trans x2, ⟨b, bv2, hv⟩, f2.trans f1, fun x c hx => ?_⟩
    · refine s2.memEq (funext fun y => ?_) (fun y => ?_)
      · simp only [SF.ext, obM, look]
        by_cases e : y = lkey i <;> simp [e]
      · simp only [SF.ext, obM, List.map_cons, List.mem_cons]
        constructor
        · rintro (h | h | h)
          · exact .inl (.inl h)
          · exact .inl (.inr h)
          · exact .inr h
        · rintro ((h | h) | h)
          · exact .inl h
          · exact .inr (.inl h)
          · exact .inr (.inr h)
    · rcases o2 x c hx with e | e
      · exact (o1 x c e).imp id fun h => h.1
      · subst e; exact .inr hSb
  | arr sz rows =>
    simp only [ObRep] at ho
    have ho2 := ho
    simp only [OwT] at ho2
    obtain ⟨base, cap, hv, hc, _⟩ := ho2
    obtain ⟨g1, s1, x1, r1, f1, b1, o1, q1⟩ := h.dist (k := lkey i) ho hS (fun x hx => by have := ownM_key hx; exact hk _ (by omega) (by omega))
    refine ⟨g1, s1.memEq rfl (fun y => Iff.rfl), x1, ?_, f1, o1⟩
    simp only [ownV, VRep] at r1
    obtain ⟨base', cap', sz', base'', h1, h2, h3, h4, _⟩ := r1
    rw [h4 trivial, hv] at h3
    simp only [Value.slice.injEq, Nat.sub_zero, true_and] at h3
    obtain ⟨rfl, rfl⟩ := h3
    obtain ⟨_, _, hab, _⟩ := s1.mem (lkey i) (.arr ⟨sz, rows, 1, none⟩) (by simp [SF.ext, ownM, look])
    rw [h1] at hab
    simp only [Option.some.injEq, Prod.mk.injEq] at hab
    obtain ⟨_, _, rfl⟩ := hab
    exact ⟨base, cap, h1, hc, hv⟩
theorem HRepL.get {g : Gh} : ∀ {L : List Ob} {i j : Nat} {vs : List Value} {v : Value}, HRepL g i L vs → vs[j]? = some v → ∃ o, L[j]? = some o ∧ HRep g (lkey (i + j)) o v
  | [], i, j, vs, v, h, hv => by simp only [HRepL] at h; subst h; simp at hv
  | o :: os, i, j, vs, v, h, hv => by
    obtain ⟨u, us, rfl, h1, h2⟩ := h
    cases j with
    | zero => simp only [List.getElem?_cons_zero, Option.some.injEq] at hv; subst hv; exact ⟨o, rfl, h1⟩
    | succ j =>
      obtain ⟨o', h3, h4⟩ := HRepL.get h2 (by simpa using hv)
      exact ⟨o', by simpa using h3, by rw [show i + (j + 1) = i + 1 + j by omega]; exact h4⟩
theorem obM_key {i x : Nat} {o : Ob} (hok : obOk o) (h : x ∈ (obM i o).map (·.1)) : lkey i ≤ x ∧ x < lkey (i + 1) := by
  have hl : lkey (i + 1) = lkey i + 1000 := by simp only [lkey]; omega
  cases o with
  | var cells =>
    simp only [obOk] at hok
    simp only [obM, List.map_cons, List.mem_cons] at h
    rcases h with h | h
    · omega
    · have := ownML_key h; omega
  | arr sz rows =>
    simp only [obM, List.map_cons, List.map_nil, List.mem_singleton] at h
    omega
theorem lkey_mono {i j : Nat} (h : i ≤ j) : lkey i ≤ lkey j := by simp only [lkey]; omega
theorem SF.ext_append {E : Env} {nt : Nat} {s : SF} {g : Gh} {a : Act} {w : World} {x y : List (Nat × Mem)} (h : Sim E nt ((s.ext x).ext y) g a w) (hd : ∀ k, k ∈ x.map (·.1) → k ∉ y.map (·.1)) : Sim E nt (s.ext (x ++ y)) g a w := by
  have lm : ∀ {l : List (Nat × Mem)} {y : Nat} {m : Mem}, look y l = some m → y ∈ l.map (·.1) := by
    intro l
    induction l with
    | nil => intro y m h; simp [look] at h
    | cons p l ih =>
      intro y m h
      obtain ⟨q, r⟩ := p
      simp only [look] at h
      split at h
      · rename_i e; simp [e]
      · simp only [List.map_cons, List.mem_cons]; exact .inr (ih h)
  refine h.less (fun _ _ h => h) (fun k m hm => ?_) (fun k hk => ?_)
  · simp only [SF.ext, look_append] at hm ⊢
    rw [← hm]
    cases e1 : look k x with
    | none => simp
    | some m1 =>
      cases e2 : look k y with
      | none => simp
      | some m2 => exact absurd (lm e2) (hd k (lm e1))
  · simp only [SF.ext, List.map_append, List.mem_append] at hk ⊢
    rcases hk with hk | hk | hk
    · exact .inl (.inr hk)
    · exact .inl (.inl hk)
    · exact .inr hk
theorem Sim.ext_nil {E : Env} {nt : Nat} {s : SF} {g : Gh} {a : Act} {w : World} (h : Sim E nt s g a w) : Sim E nt (s.ext []) g a w :=
  h.less (fun _ _ h => h) (fun k m hm => by simpa [SF.ext, look] using hm) (fun k hk => by simp [SF.ext]; exact hk)
theorem Sim.distObL {E : Env} {nt : Nat} {a : Act} {w : World} : ∀ {L : List Ob} {s : SF} {g : Gh} {S : Nat → Prop} {vs : List Value} {i : Nat}, Sim E nt s g a w → ObRepL w g.fz L S vs → (∀ o ∈ L, obOk o) → (∀ b, S b → Un E g w b) → (∀ k, lkey i ≤ k → ¬ s.B k) →
    ∃ g', Sim E nt (s.ext (obML i L)) g' a w ∧ Ext g w g' w ∧ HRepL g' i L vs ∧ g'.fz = g.fz ∧ (∀ x b, Own g' x b → Own g x b ∨ S b)
  | [], s, g, S, vs, i, h, ho, hok, hS, hk => by
    simp only [ObRepL] at ho
    exact ⟨g, h.ext_nil, Ext.refl g w, ho, rfl, fun _ _ h => .inl h⟩
  | o :: os, s, g, S, vs, i, h, ho, hok, hS, hk => by
    obtain ⟨u, us, S1, S2, rfl, d1, d2, h1, h2⟩ := ho
    have hok1 := hok o (List.mem_cons_self ..)
    obtain ⟨g1, s1, x1, r1, f1, o1⟩ := h.distOb h1 hok1 (fun b hb => hS b (d1 b hb).1) (fun k hk1 _ => hk k hk1)
    have hun : ∀ b, S2 b → Un E g1 w b := fun b hb => (hS b (d2 b hb)).mono f1 o1 (fun hb1 => (d1 b hb1).2 hb)
    have hlt : lkey i < lkey (i + 1) := by simp only [lkey]; omega
    obtain ⟨g2, s2, x2, r2, f2, o2⟩ := Sim.distObL (i := i + 1) s1 (by rw [f1]; exact h2) (fun o ho => hok o (List.mem_cons_of_mem _ ho)) hun (fun k hk1 hb => by
      rcases hb with hb | hb
      · have := (obM_key hok1 hb).2; omega
      · exact hk k (by omega) hb)
    have key2 : ∀ {os : List Ob} {i : Nat} {k : Nat}, (∀ o ∈ os, obOk o) → k ∈ (obML i os).map (·.1) → lkey i ≤ k := by
      intro os
      induction os with
      | nil => intro i k _ hk; simp [obML] at hk
      | cons o os ih =>
        intro i k hok hk
        simp only [obML, List.map_append, List.mem_append] at hk
        rcases hk with hk | hk
        · exact (obM_key (hok o (List.mem_cons_self ..)) hk).1
        · have := ih (fun o ho => hok o (List.mem_cons_of_mem _ ho)) hk
          have hm : lkey i ≤ lkey (i + 1) := lkey_mono (Nat.le_succ _)
          omega
    refine ⟨g2, SF.ext_append s2 (fun k hk1 hk2 => ?_), x1.trans x2, ⟨u, us, rfl, r1.ext x2, r2⟩, f2.trans f1, fun x b hx => ?_⟩
    · have h1 := (obM_key hok1 hk1).2
      have h2 := key2 (fun o ho => hok o (List.mem_cons_of_mem _ ho)) hk2
      omega
    · rcases o2 x b hx with e | e
      · exact (o1 x b e).imp id fun h => (d1 b h).1
      · exact .inr (d2 b e)
mutual
def cVc (L : List Ob) : C → V
  | .t x => x.toV none
  | .arr i => match L[i]? with
    | some (.arr _ rows) => .ref (lkey i) 0 rows.length
    | _ => .undef
  | .ptr i j => .vptr (lkey i) j
  | .fn f caps => .fn f (cVcL L caps)
def cVcL (L : List Ob) : List C → List V
  | [] => []
  | c :: cs => cVc L c :: cVcL L cs
end
def cV (L : List Ob) (k : Nat) : C → V
  | .t x => ownV k x
  | c => cVc L c
def cVL (L : List Ob) (k : Nat) : List C → List V
  | [] => []
  | c :: cs => cV L k c :: cVL L (k + 1) cs
def cM (k : Nat) : C → List (Nat × Mem)
  | .t x => ownM k x
  | _ => []
def cML (k : Nat) : List C → List (Nat × Mem)
  | [] => []
  | c :: cs => cM k c ++ cML (k + 1) cs
mutual
theorem cVc_ok {w : World} {g : Gh} {hs : List Value} {L : List Ob} (hh : HRepL g 0 L hs) : ∀ {c : C} {v : Value}, CRep w g.fz hs c (fun _ => False) v → VRep w g (cVc L c) v
  | .t x, v, h => by
    simp only [CRep] at h
    simp only [cVc]
    exact RoT.toV (dep := none) trivial (fun _ => h.ro (fun _ h => h) (fun _ _ h => h.elim)) (fun _ _ _ => trivial) (fun _ _ _ => trivial) (fun _ _ => trivial) (fun _ _ => trivial)
  | .arr i, v, h => by
    simp only [CRep] at h
    obtain ⟨o, h1, h2⟩ := hh.get h
    simp only [cVc, h1]
    cases o with
    | var cells => simp only [VRep]
    | arr sz rows =>
      obtain ⟨base, cap, hab, hc, rfl⟩ := h2
      simp only [Nat.zero_add] at hab
      simp only [VRep]
      exact ⟨base, cap, sz, base, hab, by omega, rfl, fun _ => rfl, fun _ => by cases base <;> simp [Addr.add]⟩
  | .ptr i j, v, h => by
    simp only [CRep] at h
    obtain ⟨b, h0, rfl⟩ := h
    obtain ⟨o, h1, h2⟩ := hh.get h0
    simp only [cVc, VRep]
    cases o with
    | var cells =>
      obtain ⟨b', hbv, e⟩ := h2
      simp only [Nat.zero_add] at hbv
      simp only [Value.pointer.injEq, Option.some.injEq, Addr.mk.injEq, and_true] at e
      subst e
      exact ⟨b, hbv, rfl⟩
    | arr sz rows => obtain ⟨_, _, _, _, e⟩ := h2; cases e
  | .fn f caps, v, h => by
    simp only [CRep] at h
    obtain ⟨cs, e, hc⟩ := h
    simp only [cVc, VRep]
    exact ⟨cs, e, cVcL_ok hh hc⟩
theorem cVcL_ok {w : World} {g : Gh} {hs : List Value} {L : List Ob} (hh : HRepL g 0 L hs) : ∀ {cs : List C} {vs : List Value}, CRepL w g.fz hs cs (fun _ => False) vs → VRepL w g (cVcL L cs) vs
  | [], vs, h => by simpa only [cVcL, VRepL, CRepL] using h
  | c :: cs, vs, h => by
    simp only [CRepL] at h
    obtain ⟨u, us, S1, S2, rfl, d1, d2, h1, h2⟩ := h
    have e1 : S1 = fun _ => False := funext fun b => propext ⟨fun h => (d1 b h).1, fun h => h.elim⟩
    have e2 : S2 = fun _ => False := funext fun b => propext ⟨fun h => d2 b h, fun h => h.elim⟩
    subst e1; subst e2
    simp only [cVcL, VRepL]
    exact ⟨u, us, rfl, cVc_ok hh h1, cVcL_ok hh h2⟩
end
mutual
theorem CRep.fz {w : World} {fz fz' : Nat → Prop} {hs : List Value} (e : fz' = fz) {c : C} {S : Nat → Prop} {v : Value} (h : CRep w fz hs c S v) : CRep w fz' hs c S v := by subst e; exact h
end
theorem CRep.none {w : World} {fz : Nat → Prop} {hs : List Value} {c : C} {S : Nat → Prop} {v : Value} (h : CRep w fz hs c S v) (hn : ∀ x, c ≠ .t x) : CRep w fz hs c (fun _ => False) v := by
  cases c with
  | t x => exact absurd rfl (hn x)
  | arr i => simpa only [CRep] using h
  | ptr i j => simpa only [CRep] using h
  | fn f caps => simpa only [CRep] using h
theorem Sim.distC {E : Env} {nt : Nat} {s : SF} {g : Gh} {a : Act} {w : World} {hs : List Value} {L : List Ob} (h : Sim E nt s g a w) (hh : HRepL g 0 L hs) {c : C} {S : Nat → Prop} {v : Value} {k : Nat} (hc : CRep w g.fz hs c S v) (hS : ∀ b, S b → Un E g w b) (hk : ¬ s.B k) :
    ∃ g', Sim E nt (s.ext (cM k c)) g' a w ∧ Ext g w g' w ∧ VRep w g' (cV L k c) v ∧ g'.fz = g.fz ∧ (∀ x b, Own g' x b → Own g x b ∨ S b) := by
  cases c with
  | t x =>
    simp only [CRep] at hc
    obtain ⟨g', h1, h2, h3, h4, _, h5, _⟩ := h.dist (k := k) hc hS (fun x hx => by have := ownM_key hx; subst this; exact hk)
    exact ⟨g', h1, h2, h3, h4, h5⟩
  | arr i => exact ⟨g, h.ext_nil, Ext.refl g w, cVc_ok hh (hc.none (by simp)), rfl, fun _ _ h => .inl h⟩
  | ptr i j => exact ⟨g, h.ext_nil, Ext.refl g w, cVc_ok hh (hc.none (by simp)), rfl, fun _ _ h => .inl h⟩
  | fn f caps => exact ⟨g, h.ext_nil, Ext.refl g w, cVc_ok hh (hc.none (by simp)), rfl, fun _ _ h => .inl h⟩
theorem cM_key {k x : Nat} {c : C} (h : x ∈ (cM k c).map (·.1)) : x = k := by
  cases c with
  | t y => exact ownM_key h
  | arr i => simp [cM] at h
  | ptr i j => simp [cM] at h
  | fn f caps => simp [cM] at h
theorem cML_key {x : Nat} : ∀ {cs : List C} {k : Nat}, x ∈ (cML k cs).map (·.1) → k ≤ x ∧ x < k + cs.length
  | [], k, h => by simp [cML] at h
  | t :: ts, k, h => by
    simp only [cML, List.map_append, List.mem_append] at h
    rcases h with h | h
    · have := cM_key h; simp; omega
    · have := cML_key h; simp; omega
theorem Sim.distCL {E : Env} {nt : Nat} {a : Act} {w : World} {hs : List Value} {L : List Ob} : ∀ {cs : List C} {s : SF} {g : Gh} {S : Nat → Prop} {vs : List Value} {k : Nat}, Sim E nt s g a w → HRepL g 0 L hs → CRepL w g.fz hs cs S vs → (∀ b, S b → Un E g w b) → (∀ i, i < cs.length → ¬ s.B (k + i)) →
    ∃ g', Sim E nt (s.ext (cML k cs)) g' a w ∧ Ext g w g' w ∧ VRepL w g' (cVL L k cs) vs ∧ g'.fz = g.fz ∧ (∀ x b, Own g' x b → Own g x b ∨ S b)
  | [], s, g, S, vs, k, h, hh, ho, hS, hk => by
    simp only [CRepL] at ho
    subst ho
    exact ⟨g, h.ext_nil, Ext.refl g w, by simp only [cVL, VRepL], rfl, fun _ _ h => .inl h⟩
  | c :: cs, s, g, S, vs, k, h, hh, ho, hS, hk => by
    simp only [CRepL] at ho
    obtain ⟨u, us, S1, S2, rfl, d1, d2, h1, h2⟩ := ho
    obtain ⟨g1, s1, x1, r1, f1, o1⟩ := h.distC (k := k) hh h1 (fun b hb => hS b (d1 b hb).1) (by have := hk 0 (by simp); simpa using this)
    have hun : ∀ b, S2 b → Un E g1 w b := fun b hb => (hS b (d2 b hb)).mono f1 o1 (fun hb1 => (d1 b hb1).2 hb)
    obtain ⟨g2, s2, x2, r2, f2, o2⟩ := Sim.distCL (k := k + 1) s1 (hh.ext x1) (by rw [f1]; exact h2) hun (fun i hi hb => by
      rcases hb with hb | hb
      · have := cM_key hb; omega
      · exact hk (i + 1) (by simp; omega) (by rw [← Nat.add_assoc, Nat.add_right_comm]; exact hb))
    refine ⟨g2, SF.ext_append s2 (fun x hx1 hx2 => ?_), x1.trans x2, ?_, f2.trans f1, fun x b hxb => ?_⟩
    · have := cM_key hx1
      have := cML_key hx2
      omega
    · simp only [cVL, VRepL]
      exact ⟨u, us, rfl, r1.ext x2, r2⟩
    · rcases o2 x b hxb with e | e
      · exact (o1 x b e).imp id fun h => (d1 b h).1
      · exact .inr (d2 b e)
def argV (L : List Ob) (p : Nat) : Arg → V
  | .one c => cV L (4096 * p) c
  | .agg cs => .agg (cVL L (4096 * p) cs)
def argM (p : Nat) : Arg → List (Nat × Mem)
  | .one c => cM (4096 * p) c
  | .agg cs => cML (4096 * p) cs
def argVs (L : List Ob) : Nat → List Arg → List V
  | _, [] => []
  | p, c :: cs => argV L p c :: argVs L (p + 1) cs
def argMs : Nat → List Arg → List (Nat × Mem)
  | _, [] => []
  | p, c :: cs => argM p c ++ argMs (p + 1) cs
def argOk : Arg → Prop
  | .one _ => True
  | .agg cs => cs.length ≤ 4096
theorem argM_key {p x : Nat} {c : Arg} (hok : argOk c) (h : x ∈ (argM p c).map (·.1)) : 4096 * p ≤ x ∧ x < 4096 * (p + 1) := by
  cases c with
  | one c => have := cM_key h; omega
  | agg cs => simp only [argOk] at hok; have := cML_key h; omega
theorem Sim.distA {E : Env} {nt : Nat} {a : Act} {w : World} {hs : List Value} {L : List Ob} : ∀ {as : List Arg} {s : SF} {g : Gh} {S : Nat → Prop} {vs : List Value} {p : Nat}, Sim E nt s g a w → HRepL g 0 L hs → ARepL w g.fz hs as S vs → (∀ c ∈ as, argOk c) → (∀ b, S b → Un E g w b) → (∀ k, 4096 * p ≤ k → k < 4096 * (p + as.length) → ¬ s.B k) →
    ∃ g', Sim E nt (s.ext (argMs p as)) g' a w ∧ Ext g w g' w ∧ VRepL w g' (argVs L p as) vs
  | [], s, g, S, vs, p, h, hh, ho, hok, hS, hk => by
    simp only [ARepL] at ho
    subst ho
    exact ⟨g, h.ext_nil, Ext.refl g w, by simp only [argVs, VRepL]⟩
  | c :: cs, s, g, S, vs, p, h, hh, ho, hok, hS, hk => by
    simp only [ARepL] at ho
    obtain ⟨u, us, S1, S2, rfl, d1, d2, h1, h2⟩ := ho
    have hok1 := hok c (List.mem_cons_self ..)
    have one : ∃ g', Sim E nt (s.ext (argM p c)) g' a w ∧ Ext g w g' w ∧ VRep w g' (argV L p c) u ∧ g'.fz = g.fz ∧ (∀ x b, Own g' x b → Own g x b ∨ S1 b) := by
      cases c with
      | one c => exact h.distC hh h1 (fun b hb => hS b (d1 b hb).1) (hk _ (Nat.le_refl _) (by simp))
      | agg cs' =>
        simp only [ARep] at h1
        obtain ⟨us', rfl, h1⟩ := h1
        simp only [argOk] at hok1
        obtain ⟨g', k1, k2, k3, k4, k5⟩ := h.distCL (k := 4096 * p) hh h1 (fun b hb => hS b (d1 b hb).1) (fun i hi => hk _ (by omega) (by simp; omega))
        exact ⟨g', k1, k2, by simp only [argV, VRep]; exact ⟨us', rfl, k3⟩, k4, k5⟩
    obtain ⟨g1, s1, x1, r1, f1, o1⟩ := one
    have hun : ∀ b, S2 b → Un E g1 w b := fun b hb => (hS b (d2 b hb)).mono f1 o1 (fun hb1 => (d1 b hb1).2 hb)
    obtain ⟨g2, s2, x2, r2⟩ := Sim.distA (p := p + 1) s1 (hh.ext x1) (by rw [f1]; exact h2) (fun c hc => hok c (List.mem_cons_of_mem _ hc)) hun (fun k hk1 hk2 hb => by
      rcases hb with hb | hb
      · have := argM_key hok1 hb; omega
      · exact hk k (by omega) (by simp; omega) hb)
    have key2 : ∀ {os : List Arg} {i : Nat} {k : Nat}, (∀ o ∈ os, argOk o) → k ∈ (argMs i os).map (·.1) → 4096 * i ≤ k := by
      intro os
      induction os with
      | nil => intro i k _ hk; simp [argMs] at hk
      | cons o os ih =>
        intro i k hok hk
        simp only [argMs, List.map_append, List.mem_append] at hk
        rcases hk with hk | hk
        · exact (argM_key (hok o (List.mem_cons_self ..)) hk).1
        · have := ih (fun o ho => hok o (List.mem_cons_of_mem _ ho)) hk; omega
    refine ⟨g2, SF.ext_append s2 (fun x hx1 hx2 => ?_), x1.trans x2, ?_⟩
    · have := (argM_key hok1 hx1).2
      have := key2 (fun c hc => hok c (List.mem_cons_of_mem _ hc)) hx2
      omega
    · simp only [argVs, VRepL]
      exact ⟨u, us, rfl, r1.ext x2, r2⟩
def initF : Nat → List V → List (Nat × V)
  | _, [] => []
  | p, v :: vs => (p, v) :: initF (p + 1) vs
def initS (as : List Arg) (L : List Ob) : St :=
  let ms := obML 0 L ++ argMs 0 as
  ⟨initF 0 (argVs L 0 as), ms, ms.map (·.1)⟩
theorem look_initF {w : World} {g : Gh} : ∀ {xs : List V} {vs : List Value} {i t : Nat} {x : V}, VRepL w g xs vs → look t (initF i xs) = some x → i ≤ t ∧ ∃ v, vs[t - i]? = some v ∧ VRep w g x v
  | [], vs, i, t, x, _, h => by simp [initF, look] at h
  | y :: ys, vs, i, t, x, hr, h => by
    simp only [VRepL] at hr
    obtain ⟨u, us, rfl, h1, h2⟩ := hr
    simp only [initF, look] at h
    split at h
    · rename_i e
      subst e
      cases h
      exact ⟨Nat.le_refl _, u, by simp, h1⟩
    · obtain ⟨h3, v, h4, h5⟩ := look_initF h2 h
      have e : t - i = (t - (i + 1)) + 1 := by omega
      exact ⟨by omega, v, by rw [e]; simpa using h4, h5⟩
theorem Sim.init {w : World} {fz Sa So : Nat → Prop} {hs vs : List Value} {as : List Arg} {L : List Ob} {nt : Nat} (hfz : ∀ b, fz b → b < w.heap.size) (hS : ∀ b, Sa b ∨ So b → b < w.heap.size ∧ ¬ fz b) (hd : ∀ b, Sa b → ¬ So b)
    (ha : ARepL w fz hs as Sa vs) (ho : ObRepL w fz L So hs) (hok : ∀ o ∈ L, obOk o) (hok2 : ∀ c ∈ as, argOk c) (hn : vs.length ≤ nt) (has : as.length < 200) :
    Simm ⟨w, fun b => Sa b ∨ So b, fz, L, hs⟩ nt (initS as L) { tmps := List.toArray vs ++ Array.replicate (nt - (List.toArray vs).size) undef, defers := [] } w := by
  let E : Env := ⟨w, fun b => Sa b ∨ So b, fz, [], []⟩
  let a : Act := { tmps := List.toArray vs ++ Array.replicate (nt - (List.toArray vs).size) undef, defers := [] }
  let g0 : Gh := ⟨fun _ => none, fun _ => none, fun _ => 0, fun _ _ => False, fz⟩
  have hown : ∀ k b, ¬ Own g0 k b := fun k b h => by rcases h with h | h; cases h; exact h
  have s0 : Sim E nt ⟨fun _ => none, fun _ => none, fun _ => False⟩ g0 a w :=
    { os := rfl, tape := rfl, output := rfl, size := Nat.le_refl _, same := fun _ _ _ => rfl, defers := rfl, nt := by simp [a]; omega, frame := fun _ _ h => (by cases h), mem := fun _ _ h => (by cases h), disj := fun k _ b h => absurd h (hown k b), ownfz := fun k b h => absurd h (hown k b), ownlt := fun k b h => absurd h (hown k b),
      fzlt := hfz, bornV := fun _ h => absurd rfl h, bornA := fun _ h => absurd rfl h, bornF := fun _ _ => ⟨fun _ h => h, rfl⟩, kind := fun _ h => absurd rfl h, fz1 := fun _ h => h, hnd := rfl, fz2 := fun _ h => .inl h }
  have hun : ∀ b, Sa b ∨ So b → Un E g0 w b := fun b hb => ⟨(hS b hb).1, fun x => hown x b, (hS b hb).2, .inl hb⟩
  obtain ⟨g1, s1, x1, r1, f1, o1⟩ := s0.distObL (i := 0) ho hok (fun b hb => hun b (.inr hb)) (fun _ _ h => h)
  have hun1 : ∀ b, Sa b → Un E g1 w b := fun b hb => (hun b (.inl hb)).mono f1 o1 (hd b hb)
  have okey : ∀ {os : List Ob} {i : Nat} {k : Nat}, (∀ o ∈ os, obOk o) → k ∈ (obML i os).map (·.1) → lkey i ≤ k := by
    intro os
    induction os with
    | nil => intro i k _ hk; simp [obML] at hk
    | cons o os ih =>
      intro i k hok hk
      simp only [obML, List.map_append, List.mem_append] at hk
      rcases hk with hk | hk
      · exact (obM_key (hok o (List.mem_cons_self ..)) hk).1
      · have := ih (fun o ho => hok o (List.mem_cons_of_mem _ ho)) hk
        have hm : lkey i ≤ lkey (i + 1) := lkey_mono (Nat.le_succ _)
        omega
  obtain ⟨g2, s2, x2, r2⟩ := s1.distA (p := 0) r1 (by rw [f1]; exact ha) hok2 hun1 (fun k _ hk hb => by
    rcases hb with hb | hb
    · have := okey hok hb
      simp only [lkey] at this
      omega
    · exact hb)
  have akey : ∀ {os : List Arg} {i : Nat} {k : Nat}, (∀ o ∈ os, argOk o) → k ∈ (argMs i os).map (·.1) → k < 4096 * (i + os.length) := by
    intro os
    induction os with
    | nil => intro i k _ hk; simp [argMs] at hk
    | cons o os ih =>
      intro i k hok hk
      simp only [argMs, List.map_append, List.mem_append] at hk
      rcases hk with hk | hk
      · have := (argM_key (hok o (List.mem_cons_self ..)) hk).2; simp; omega
      · have := ih (fun o ho => hok o (List.mem_cons_of_mem _ ho)) hk; simp; omega
  have s3 := SF.ext_append s2 (fun k h1 h2 => by
    have e1 := okey hok h1
    have e2 := akey hok2 h2
    simp only [lkey] at e1
    omega)
  refine ⟨g2, ?_⟩
  refine { s3 with hnd := r1.ext x2, frame := ?_, mem := fun k m hm => s3.mem k m (by simpa [St.sf, initS, SF.ext] using hm), bornV := fun k hk => by simpa [St.sf, initS, SF.ext] using s3.bornV k hk, bornA := fun k hk => by simpa [St.sf, initS, SF.ext] using s3.bornA k hk, bornF := fun k hk => s3.bornF k (by simpa [St.sf, initS, SF.ext] using hk) }
  intro t x hx
  simp only [St.sf, initS] at hx
  obtain ⟨_, v, h4, h5⟩ := look_initF (i := 0) r2 hx
  have e : (List.toArray vs ++ Array.replicate (nt - (List.toArray vs).size) undef).getD t undef = v := by
    rw [Array.getD_eq_getD_getElem?]
    have ht : t < vs.length := by
      have := (List.getElem?_eq_some_iff.1 h4).1
      simpa using this
    have : (List.toArray vs ++ Array.replicate (nt - (List.toArray vs).size) undef)[t]? = some v := by
      rw [Array.getElem?_append_left (by simpa using ht)]
      simpa using h4
    rw [this]; rfl
  rw [e]
  exact h5
inductive RV where
  | t (n : Tmp)
  | c (n : Tmp) (sz : Nat) (agg : Bool)
def cmpR (P : Program) : List ResultVar → Option (List RV)
  | [] => some []
  | .tmp t :: l => (cmpR P l).map (.t t :: ·)
  | .cell a ty :: l => match tySz P ty, isAggT P ty, cmpR P l with
    | some n, some b, some r => some (.c a n b :: r)
    | _, _, _ => none
def resV (F : Nat → Option V) (M : Nat → Option Mem) : RV → Option V
  | .t n => F n
  | .c n sz agg => match F n with
    | some (.vptr d j) => match M d with
      | some (.var cells) => partV cells j sz agg
      | _ => none
    | _ => none
def tvL : TV → List T
  | .agg ts => ts
  | _ => []
def tv1 : TV → T
  | .one t => t
  | _ => .bool false
def tvH : List TV → TV
  | [] => .one (.bool false)
  | t :: _ => t
def tvTl : List TV → List TV
  | [] => []
  | _ :: ts => ts
def obL : List Ob → List T
  | .var ts :: _ => ts
  | _ => []
def obTl : List Ob → List Ob
  | [] => []
  | _ :: ts => ts
def giveV (pt : TV) (M : Nat → Option Mem) : V → Option (TV × List Nat)
  | .agg vs => (toTs (tvL pt) M vs).map fun x => (.agg x.1, x.2)
  | x => (x.toT (tv1 pt) M).map fun x => (.one x.1, x.2)
def collR (pt : List TV) (F : Nat → Option V) (M : Nat → Option Mem) : List RV → Option (List TV × List Nat)
  | [] => some ([], [])
  | r :: rs => match (resV F M r).bind (giveV (tvH pt) M), collR (tvTl pt) F M rs with
    | some (x, a), some (xs, b) => some (x :: xs, a ++ b)
    | _, _ => none
def collO (pt : List Ob) (M : Nat → Option Mem) : Nat → List Ob → Option (List Ob × List Nat)
  | _, [] => some ([], [])
  | i, .var _ :: L => match M (lkey i) with
    | some (.var cells) => match toTs (obL pt) M cells, collO (obTl pt) M (i + 1) L with
      | some (ts, a), some (xs, b) => some (.var ts :: xs, a ++ b)
      | _, _ => none
    | _ => none
  | i, .arr _ _ :: L => match M (lkey i) with
    | some (.arr A) => match collO (obTl pt) M (i + 1) L with
      | some (xs, b) => some (.arr A.sz A.rows :: xs, lkey i :: b)
      | none => none
    | _ => none
def obLen (M : Nat → Option Mem) : Nat → List Ob → Prop
  | _, [] => True
  | i, .var _ :: L => obLen M (i + 1) L
  | i, .arr _ rows :: L => (match M (lkey i) with
    | some (.arr A) => A.rows.length = rows.length
    | _ => False) ∧ obLen M (i + 1) L
theorem nodup_app : ∀ {a b : List Nat}, nodupK (a ++ b) = true → nodupK a = true ∧ nodupK b = true ∧ ∀ k ∈ a, k ∉ b
  | [], b, h => ⟨rfl, h, by simp⟩
  | c :: cs, b, h => by
    simp only [List.cons_append, nodupK, Bool.and_eq_true, Bool.not_eq_true', List.contains_eq_mem, decide_eq_false_iff_not, List.mem_append, not_or] at h ⊢
    obtain ⟨⟨h1, h2⟩, h3⟩ := h
    obtain ⟨i1, i2, i3⟩ := nodup_app h3
    refine ⟨⟨h1, i1⟩, i2, fun k hk => ?_⟩
    rcases List.mem_cons.1 hk with rfl | hk
    · exact h2
    · exact i3 k hk
section
variable {P : Program} {E : Env} {nt : Nat} {s : SF} {g : Gh} {a : Act} {w : World}
def FP (g : Gh) (ks : List Nat) (b : Nat) : Prop := ∃ k ∈ ks, g.fp k b
theorem FP.dis (h : Sim E nt s g a w) {a b : List Nat} (hn : ∀ k ∈ a, k ∉ b) {x : Nat} (h1 : FP g a x) (h2 : FP g b x) : False := by
  obtain ⟨k, hk, hf⟩ := h1
  obtain ⟨k2, hk2, hf2⟩ := h2
  have := h.disj k k2 x (.inr hf) (.inr hf2)
  subst this
  exact hn k hk hk2
theorem give_ok (h : Sim E nt s g a w) {pt : TV} {x : V} {v : Value} {t : TV} {ks : List Nat} (hx : VRep w g x v) (ht : giveV pt s.M x = some (t, ks)) (hn : nodupK ks = true) : RRep w g.fz t (FP g ks) v := by
  unfold giveV at ht
  split at ht
  · rename_i vs
    simp only [Option.map_eq_some_iff, Prod.mk.injEq] at ht
    obtain ⟨⟨ts, k⟩, h1, rfl, rfl⟩ := ht
    simp only [VRep] at hx
    obtain ⟨cs, rfl, hc⟩ := hx
    exact ⟨cs, rfl, (toTs_ok h hc h1 hn).1⟩
  · simp only [Option.map_eq_some_iff, Prod.mk.injEq] at ht
    obtain ⟨⟨ts, k⟩, h1, rfl, rfl⟩ := ht
    exact (toT_ok h hx h1).1
theorem collR_ok (h : Sim E nt s g a w) : ∀ {pt : List TV} {l : List ResultVar} {l' : List RV} {rs : List TV} {ks : List Nat}, cmpR P l = some l' → collR pt s.F s.M l' = some (rs, ks) → nodupK ks = true →
    ∃ vs, (l.mapM fun
      | .tmp t => pure (a.tmps.getD t undef)
      | .cell x t => do loadVar t (← asAddr (a.tmps.getD x undef)) : Go.Sem (List Value)).run P w = .ok vs w ∧ RRepL w g.fz rs (FP g ks) vs
  | _, [], l', rs, ks, hl, hc, hn => by
    simp only [cmpR, Option.some.injEq] at hl
    subst hl
    simp only [collR, Option.some.injEq, Prod.mk.injEq] at hc
    obtain ⟨rfl, rfl⟩ := hc
    exact ⟨[], rfl, by simp only [RRepL]⟩
  | pt, .tmp t :: l, l', rs, ks, hl, hc, hn => by
    simp only [cmpR, Option.map_eq_some_iff] at hl
    obtain ⟨l2, hl2, rfl⟩ := hl
    simp only [collR] at hc
    split at hc
    · rename_i x ka xs kb h1 h2
      cases hc
      obtain ⟨n1, n2, n3⟩ := nodup_app hn
      obtain ⟨vs, hr, hv⟩ := collR_ok h hl2 h2 n2
      simp only [resV, Option.bind_eq_some_iff] at h1
      obtain ⟨y, hy, hg⟩ := h1
      have := give_ok h (h.frame t y hy) hg n1
      refine ⟨a.tmps.getD t undef :: vs, ?_, ?_⟩
      · rw [List.mapM_cons]
        simp only [Sem.run_bind, Sem.run_pure, Result.andThen_ok]
        rw [hr]
        simp only [Result.andThen_ok]
      · simp only [RRepL]
        exact ⟨_, _, _, _, rfl, fun b hb => ⟨by obtain ⟨k, hk, hf⟩ := hb; exact ⟨k, List.mem_append_left _ hk, hf⟩, fun hb2 => FP.dis h n3 hb hb2⟩, fun b hb => by obtain ⟨k, hk, hf⟩ := hb; exact ⟨k, List.mem_append_right _ hk, hf⟩, this, hv⟩
    · cases hc
  | pt, .cell c ty :: l, l', rs, ks, hl, hc, hn => by
    simp only [cmpR] at hl
    split at hl
    · rename_i n b l2 hsz hag hl2
      cases hl
      simp only [collR] at hc
      split at hc
      · rename_i x ka xs kb h1 h2
        cases hc
        obtain ⟨n1, n2, n3⟩ := nodup_app hn
        obtain ⟨vs, hr, hv⟩ := collR_ok h hl2 h2 n2
        simp only [Option.bind_eq_some_iff] at h1
        obtain ⟨y, hy, hg⟩ := h1
        have hq : qO s.F s.M 0 (.load (.t c) n b) = some (True, y) := by
          simp only [resV] at hy
          simp only [qO, ev]
          split at hy
          · rename_i d j hF
            rw [hF]
            simp only
            split at hy
            · rename_i cells hM
              rw [hM]
              simp only [hy, Option.map_some]
            · cases hy
          · cases hy
        obtain ⟨u, hu, hru⟩ := q_load (o := ⟨none, .load ty (.tmp c), ty, "", #[], none⟩) (ad := .tmp c) rfl hsz hag hq trivial g a w h
        have hload : ∃ adr, (asAddr (a.tmps.getD c undef)).run P w = .ok adr w ∧ (loadVar ty adr).run P w = .ok u w := by
          simp only [resV] at hy
          split at hy
          · rename_i d j hF
            have := h.frame c _ hF
            simp only [VRep] at this
            obtain ⟨bb, _, e⟩ := this
            refine ⟨⟨bb, j, none⟩, by rw [e]; rfl, ?_⟩
            simp only [execOp, Act.eval, e] at hu
            cases hlv : (loadVar ty ⟨bb, j, none⟩).run P w with
            | ok v2 w2 => simp [Instr.loadAt, Instr.sureAddr, hlv] at hu; rw [hu.1, hu.2]
            | halt x w2 => simp [Instr.loadAt, Instr.sureAddr, hlv, Result.andThen] at hu
          · cases hy
        obtain ⟨adr, ha1, ha2⟩ := hload
        have := give_ok h hru hg n1
        refine ⟨u :: vs, ?_, ?_⟩
        · rw [List.mapM_cons]
          simp only [Sem.run_bind, Sem.run_pure, Result.andThen_ok, ha1, ha2]
          rw [hr]
          simp only [Result.andThen_ok]
        · simp only [RRepL]
          exact ⟨_, _, _, _, rfl, fun b hb => ⟨by obtain ⟨k, hk, hf⟩ := hb; exact ⟨k, List.mem_append_left _ hk, hf⟩, fun hb2 => FP.dis h n3 hb hb2⟩, fun b hb => by obtain ⟨k, hk, hf⟩ := hb; exact ⟨k, List.mem_append_right _ hk, hf⟩, this, hv⟩
      · cases hc
    · cases hl
def OB (g : Gh) (i : Nat) (L : List Ob) (ks : List Nat) (b : Nat) : Prop := FP g ks b ∨ ∃ j, i ≤ j ∧ j < i + L.length ∧ g.bv (lkey j) = some b
theorem lkey_inj {i j : Nat} (h : lkey i = lkey j) : i = j := by simp only [lkey] at h; omega
theorem collO_ok (h : Sim E nt s g a w) : ∀ {pt : List Ob} {L L' : List Ob} {i : Nat} {hs : List Value} {ks : List Nat}, HRepL g i L hs → collO pt s.M i L = some (L', ks) → obLen s.M i L → nodupK ks = true → ObRepL w g.fz L' (OB g i L ks) hs ∧ ∀ k ∈ ks, ∃ A, s.M k = some (.arr A)
  | _, [], L', i, hs, ks, hh, hc, hln, hn => by
    simp only [collO, Option.some.injEq, Prod.mk.injEq] at hc
    obtain ⟨rfl, rfl⟩ := hc
    exact ⟨hh, by simp⟩
  | pt, .var c0 :: L, L', i, hs, ks, hh, hc, hln, hn => by
    simp only [collO] at hc
    split at hc
    · rename_i cells hM
      split at hc
      · rename_i ts ka xs kb h1 h2
        cases hc
        obtain ⟨n1, n2, n3⟩ := nodup_app hn
        obtain ⟨u, us, rfl, hh1, hh2⟩ := hh
        obtain ⟨o1, o2⟩ := collO_ok h hh2 h2 hln n2
        obtain ⟨b, cur, e, hbv, hb, hr⟩ := h.mem _ _ hM
        obtain ⟨t1, t2⟩ := toTs_ok h hr h1 n1
        obtain ⟨b', hbv', hu⟩ := hh1
        rw [hbv] at hbv'
        cases hbv'
        refine ⟨?_, fun k hk => by rcases List.mem_append.1 hk with hk | hk; exact t2 k hk; exact o2 k hk⟩
        simp only [ObRepL]
        refine ⟨u, us, fun x => FP g ka x ∨ x = b, OB g (i + 1) L kb, rfl, fun x hx => ⟨?_, fun hx2 => ?_⟩, fun x hx => ?_, ?_, o1⟩
        · rcases hx with ⟨k, hk, hf⟩ | rfl
          · exact .inl ⟨k, List.mem_append_left _ hk, hf⟩
          · exact .inr ⟨i, Nat.le_refl _, by simp, hbv⟩
        · rcases hx with hx | rfl <;> rcases hx2 with hx2 | ⟨j, j1, j2, hx2⟩
          · exact FP.dis h n3 hx hx2
          · obtain ⟨k, hk, hf⟩ := hx
            have := h.disj k (lkey j) x (.inr hf) (.inl hx2)
            subst this
            exact (h.kind (lkey j) (by rw [hx2]; simp)).2 x hf
          · obtain ⟨k, hk, hf⟩ := hx2
            have := h.disj k (lkey i) x (.inr hf) (.inl hbv)
            subst this
            exact (h.kind (lkey i) (by rw [hbv]; simp)).2 x hf
          · have := lkey_inj (h.disj (lkey j) (lkey i) x (.inl hx2) (.inl hbv))
            omega
        · rcases hx with ⟨k, hk, hf⟩ | ⟨j, j1, j2, hf⟩
          · exact .inl ⟨k, List.mem_append_right _ hk, hf⟩
          · exact .inr ⟨j, by omega, by simp only [List.length_cons]; omega, hf⟩
        · refine ⟨b, cur, e, hu, .inr rfl, hb, t1.sub fun x hx => ⟨.inl hx, fun ee => ?_⟩⟩
          subst ee
          obtain ⟨k, hk, hf⟩ := hx
          have := h.disj k (lkey i) x (.inr hf) (.inl hbv)
          subst this
          exact (h.kind (lkey i) (by rw [hbv]; simp)).2 x hf
      · cases hc
    · cases hc
  | pt, .arr z0 r0 :: L, L', i, hs, ks, hh, hc, hln, hn => by
    simp only [collO] at hc
    split at hc
    · rename_i A hM
      split at hc
      · rename_i xs kb h2
        cases hc
        obtain ⟨n1, n2, n3⟩ := nodup_app (a := [lkey i]) hn
        obtain ⟨u, us, rfl, hh1, hh2⟩ := hh
        obtain ⟨o1, o2⟩ := collO_ok h hh2 h2 hln.2 n2
        obtain ⟨base, cap, hab, htop, hown, _⟩ := h.mem _ _ hM
        refine ⟨?_, fun k hk => by rcases List.mem_cons.1 hk with rfl | hk; exact ⟨A, hM⟩; exact o2 k hk⟩
        have hl := hln.1
        rw [hM] at hl
        simp only at hl
        obtain ⟨base', cap', hab', _, hu⟩ := hh1
        rw [hab] at hab'
        simp only [Option.some.injEq, Prod.mk.injEq] at hab'
        obtain ⟨rfl, rfl, _⟩ := hab'
        simp only [ObRepL]
        refine ⟨u, us, FP g [lkey i], OB g (i + 1) L kb, rfl, fun x hx => ⟨?_, fun hx2 => ?_⟩, fun x hx => ?_, ?_, o1⟩
        · obtain ⟨k, hk, hf⟩ := hx
          exact .inl ⟨k, List.mem_cons.2 (.inl (by simpa using hk)), hf⟩
        · rcases hx2 with hx2 | ⟨j, j1, j2, hx2⟩
          · exact FP.dis h n3 hx hx2
          · obtain ⟨k, hk, hf⟩ := hx
            have := h.disj k (lkey j) x (.inr hf) (.inl hx2)
            subst this
            exact (h.kind (lkey j) (by rw [hx2]; simp)).2 x hf
        · rcases hx with ⟨k, hk, hf⟩ | ⟨j, j1, j2, hf⟩
          · exact .inl ⟨k, List.mem_cons_of_mem _ hk, hf⟩
          · exact .inr ⟨j, by omega, by simp only [List.length_cons]; omega, hf⟩
        · simp only [ObRep]
          rw [hu, ← hl]
          exact hown.sub fun x hx => ⟨lkey i, by simp, hx⟩
      · cases hc
    · cases hc
end
section
variable {P : Program} {E : Env} {nt : Nat} {o : Oper} {s : SF}
theorem OwRows.splice {w w' : World} {fz : Nat → Prop} {sz : Nat} {rows B : List (List T)} {S : Nat → Prop} {L news : List Value} {p : Nat} (h : OwRows w fz sz rows S L) (hp : p + B.length ≤ rows.length) (hB : OwRows w' fz sz B (fun _ => False) news)
    (hs : w.heap.size ≤ w'.heap.size) (hfz : ∀ c, fz c → w'.heap[c]? = w.heap[c]?) (hS : ∀ c, S c → w'.heap[c]? = w.heap[c]?) :
    OwRows w' fz sz (rows.take p ++ B ++ rows.drop (p + B.length)) S (L.take (p * sz) ++ news ++ L.drop ((p + B.length) * sz)) := by
  obtain ⟨S1, S2, d1, d2, h1, h2⟩ := h.split p
  obtain ⟨S3, S4, d3, d4, h3, h4⟩ := h2.split B.length
  rw [List.drop_drop, List.drop_drop, ← Nat.add_mul] at h4
  have m1 := h1.mono (w' := w') (fz' := fz) (S' := S1) hs (fun b _ hf => ⟨hf, hfz b hf⟩) (fun _ => id) (fun b hb _ => hS b (d1 b hb).1)
  have m4 := h4.mono (w' := w') (fz' := fz) (S' := S4) hs (fun b _ hf => ⟨hf, hfz b hf⟩) (fun _ => id) (fun b hb _ => hS b (d2 b (d4 b hb)))
  have j1 := OwRows.join (fun x _ h => h) m1 hB
  have j2 := OwRows.join (fun x hx h4 => by
    rcases hx with hx | hx
    · exact (d1 x hx).2 (d4 x h4)
    · exact hx) j1 m4
  refine j2.sub fun b hb => ?_
  rcases hb with (hb | hb) | hb
  · exact (d1 b hb).1
  · exact hb.elim
  · exact d2 b (d4 b hb)
def junkR (sz n : Nat) : List (List T) := List.replicate n (List.replicate sz .junk)
theorem junkL_ok {w : World} {fz : Nat → Prop} : ∀ (vs : List Value), OwL w fz (List.replicate vs.length .junk) (fun _ => False) vs
  | [] => by simp only [List.length_nil, List.replicate_zero, OwL]
  | v :: vs => by
    simp only [List.length_cons, List.replicate_succ, OwL]
    exact ⟨v, vs, fun _ => False, fun _ => False, rfl, fun _ h => h.elim, fun _ h => h, by simp only [OwT], junkL_ok vs⟩
theorem junkR_ok {w : World} {fz : Nat → Prop} {sz : Nat} : ∀ (n : Nat) (vs : List Value), vs.length = n * sz → OwRows w fz sz (junkR sz n) (fun _ => False) vs
  | 0, vs, h => by
    have : vs = [] := List.eq_nil_of_length_eq_zero (by simpa using h)
    subst this
    simp only [junkR, List.replicate_zero, OwRows]
  | n + 1, vs, h => by
    rw [Nat.add_mul, Nat.one_mul] at h
    have h1 : (vs.take sz).length = sz := by simp; omega
    have h2 : (vs.drop sz).length = n * sz := by simp; omega
    have e := junkL_ok (w := w) (fz := fz) (vs.take sz)
    rw [h1] at e
    simp only [junkR, List.replicate_succ, OwRows]
    exact ⟨vs.take sz, vs.drop sz, fun _ => False, fun _ => False, by simp, fun _ h => h.elim, fun _ h => h, by simp, e, junkR_ok n _ h2⟩
theorem OwRows.shift {w w' : World} {fz : Nat → Prop} {sz : Nat} {rows : List (List T)} {S : Nat → Prop} {L : List Value} {p j : Nat} (h : OwRows w fz sz rows S L) (hp : p ≤ j) (hj : j ≤ rows.length) (hs : w.heap.size ≤ w'.heap.size) (hfz : ∀ c, fz c → w'.heap[c]? = w.heap[c]?) (hS : ∀ c, S c → w'.heap[c]? = w.heap[c]?) :
    OwRows w' fz sz (rows.take p ++ rows.drop j ++ junkR sz (j - p)) S (L.take (p * sz) ++ L.drop (j * sz) ++ L.drop ((p + (rows.length - j)) * sz)) := by
  have hL := h.length
  obtain ⟨S1, S2, d1, d2, h1, h2⟩ := h.split p
  obtain ⟨S3, S4, d3, d4, h3, h4⟩ := h2.split (j - p)
  rw [List.drop_drop, List.drop_drop, ← Nat.add_mul, Nat.add_sub_cancel' hp] at h4
  have m1 := h1.mono (w' := w') (fz' := fz) (S' := S1) hs (fun b _ hf => ⟨hf, hfz b hf⟩) (fun _ => id) (fun b hb _ => hS b (d1 b hb).1)
  have m4 := h4.mono (w' := w') (fz' := fz) (S' := S4) hs (fun b _ hf => ⟨hf, hfz b hf⟩) (fun _ => id) (fun b hb _ => hS b (d2 b (d4 b hb)))
  have j1 := OwRows.join (fun x hx h => (d1 x hx).2 (d4 x h)) m1 m4
  have j2 := OwRows.join (fun x _ h => h) j1 (junkR_ok (w := w') (fz := fz) (sz := sz) (j - p) (L.drop ((p + (rows.length - j)) * sz)) (by
    rw [List.length_drop, hL, ← Nat.sub_mul]; congr 1; omega))
  refine j2.sub fun b hb => ?_
  rcases hb with (hb | hb) | hb
  · exact (d1 b hb).1
  · exact d2 b (d4 b hb)
  · exact hb.elim
theorem Sim.rewrite {g : Gh} {a : Act} {w : World} (hs : Sim E nt s g a w) {κ : Nat} {A : Arr} (hA : s.M κ = some (.arr A)) {b cap : Nat} {cur cur' : Array Value} {e : TypeId} (hab : g.ab κ = some (some ⟨b, 0, none⟩, cap, A.sz)) (hfp : g.fp κ b) (hh : w.heap[b]? = some (.cells cur e (0, 0)))
    (hfit : cap * A.sz ≤ cur.size) (hlc : A.rows.length ≤ cap) (hmx : cap ≤ maxLen) (hsz : cur'.size = cur.size) {R : List (List T)} (hl : R.length = A.rows.length) (hR : OwRows (w.setRow b cur') g.fz A.sz R (fun x => g.fp κ x ∧ x ≠ b) (cur'.toList.take (A.rows.length * A.sz))) :
    ∃ g', Sim E nt ⟨s.F, fun x => if x = κ then some (.arr ⟨A.sz, R, A.ver + 1, A.cap⟩) else s.M x, fun x => x = κ ∨ s.B x⟩ g' a (w.setRow b cur') ∧ g'.ab κ = g.ab κ := by
  have hcapc : ∀ c, A.cap = some c → c = cap := by
    obtain ⟨_, _, hab3, _, _, h⟩ := hs.mem κ _ hA
    rw [hab] at hab3
    cases hab3
    exact h
  have hws : (w.setRow b cur').heap.size = w.heap.size := by simp [World.setRow]
  have hold : ∀ c, c ≠ b → (w.setRow b cur').heap[c]? = w.heap[c]? := fun c hc => setRow_other w _ c _ hc
  have hnew : OwT (w.setRow b cur') g.fz (.sl true A.sz R) (fun x => g.fp κ x) (.slice (some ⟨b, 0, none⟩) R.length cap) := by
    simp only [OwT]
    refine ⟨_, cap, by simp, by omega, hmx, .inr ⟨b, cur', e, rfl, hfp, setRow_heap w _ cur _ e _ hh, by rw [hsz]; exact hfit, ?_⟩⟩
    rw [hl]; exact hR
  obtain ⟨g', h', _, hab2, _⟩ := hs.setArr (w' := w.setRow b cur') κ [] (A := ⟨A.sz, R, A.ver + 1, A.cap⟩) (S := fun x => g.fp κ x) (base := some ⟨b, 0, none⟩) (cap := cap)
    rfl rfl rfl (by omega) (.inl ⟨A, hA, hab, rfl⟩) (fun x hx => by cases hx) (fun c hc hn1 _ => hold c (fun ee => by subst ee; exact hn1 hfp))
    (fun c hc => ⟨by rw [hws]; exact (hs.ownlt κ c (.inr hc)).1, .inl hc⟩) hnew hcapc
  exact ⟨g', h'.memEq (funext fun y => by by_cases e : y = κ <;> simp [e]) (fun y => Iff.rfl), by rw [hab2, hab]⟩
theorem app_in {κ : Nat} {m : Mem} {v : V} {d : Option Tmp} {s : SF} (hs : s.M κ ≠ none → s.B κ) (h : s.M κ ≠ none) :
    (s.app d ⟨v, [(κ, some m)], []⟩).M = (fun x => if x = κ then some m else s.M x) ∧ ∀ y, (y = κ ∨ s.B y) ↔ (s.app d ⟨v, [(κ, some m)], []⟩).B y := by
  refine ⟨funext fun y => ?_, fun y => ?_⟩
  · simp only [SF.app, look]
    by_cases e : y = κ <;> simp [e]
  · simp only [SF.app, List.not_mem_nil, false_or]
    exact ⟨fun hy => by rcases hy with rfl | hy; exact hs h; exact hy, fun h => .inr h⟩
def SrcN (P : Program) (E : Env) (nt : Nat) (s : SF) (y : Operand) (sz : Nat) (rows : List (List T)) : Prop :=
  ∀ g a w, Sim E nt s g a w → (∀ w' : World, (Builtin.lenOf (a.eval y)).run P w' = .ok rows.length w') ∧ ∀ n, n ≤ rows.length → ∃ news : List Value, (Builtin.firstCells sz n (a.eval y)).run P w = .ok news.toArray w ∧ news.length = n * sz ∧ (∀ u ∈ news, u.oneCell' = true) ∧ OwRows w g.fz sz (rows.take n) (fun _ => False) news
theorem srcN_view {y : Operand} {sz : Nat} {dep : Dep} {rows : List (List T)} (hy : ev s.F (opd y) = some (.sl dep sz rows)) (hl : liveD s.M dep) (hc : cpRows dep rows) : SrcN P E nt s y sz (roRows rows) := by
  intro g a w hs
  have h1 := ev_ok hs hy
  have hlive := liveD_ok hs hl
  simp only [VRep, RoT] at h1
  obtain ⟨base, cap, xs, hv, hcap, hm, hrow, hb⟩ := h1.2 hlive
  have hsolid : ∀ r ∈ rows, ∀ t ∈ r, t.solid = true := by
    cases dep with
    | none => exact hc
    | some _ => exact fun r hr t ht => T.flat_solid (hc r hr t ht)
  have hfl : (∀ b, okd g dep b → g.fz b) ∨ ∀ r ∈ rows, ∀ t ∈ r, t.flat = true := by
    cases dep with
    | none => exact .inl fun b h => h
    | some _ => exact .inr hc
  have hlen : (roRows rows).length = rows.length := by simp [roRows]
  refine ⟨fun w' => by rw [hv, hlen]; rfl, fun n hn => ?_⟩
  rw [hlen] at hn
  have hr1 := (RoRows.take_drop n hrow).1
  have hrl := hr1.length
  have hln : (rows.take n).length = n := by simp; omega
  rw [hln] at hrl
  refine ⟨xs.take (n * sz), ?_, hrl, hr1.one (fun r hr => hsolid r (List.mem_of_mem_take hr)), ?_⟩
  · rw [hv]
    by_cases hne : rows = []
    · subst hne
      have : n = 0 := by simpa using hn
      subst this
      cases base with
      | none => simpa using run_firstCells_none w sz 0 0 cap
      | some b => exact run_firstCells_some (P := P) w sz 0 b _ cap _ (by simp) (by simp)
    · obtain ⟨b, off, hbase, hblt, hok, hcell⟩ := hb hne
      subst hbase
      refine run_firstCells_some (P := P) w sz n ⟨b, off, none⟩ _ cap _ hrl fun j u hj => ?_
      rw [add_mk]
      rw [List.getElem?_take] at hj
      split at hj
      · exact hcell j u hj
      · cases hj
  · have := ro_ownR (fz := g.fz) (S := fun _ => False) hr1 (hfl.imp id fun h r hr => h r (List.mem_of_mem_take hr))
    rwa [roRows, List.map_take] at this
theorem srcN_ref {y : Operand} {sz : Nat} {κ off len : Nat} {A : Arr} (hy : ev s.F (opd y) = some (.ref κ off len)) (hA : s.M κ = some (.arr A)) (hle : off + len ≤ A.rows.length) (hsz : A.sz = sz) (hc : ∀ r ∈ (A.rows.drop off).take len, ∀ t ∈ r, t.flat = true) :
    SrcN P E nt s y sz ((A.rows.drop off).take len) := by
  intro g a w hs
  have h1 := ev_ok hs hy
  simp only [VRep] at h1
  obtain ⟨base, cap, sz0, base', hab, hcap, hv, hb0, hbase⟩ := h1
  have hlen : ((A.rows.drop off).take len).length = len := by simp; omega
  refine ⟨fun w' => by rw [hv, hlen]; rfl, fun n hn => ?_⟩
  rw [hlen] at hn
  by_cases hl0 : len = 0
  · subst hl0
    have : n = 0 := by omega
    subst this
    refine ⟨[], ?_, by simp, by simp, by simp only [List.take_zero, OwRows]⟩
    rw [hv]
    cases base' with
    | none => exact run_firstCells_none w sz 0 0 _
    | some b => exact run_firstCells_some (P := P) w sz 0 b 0 _ [] (by simp) (by simp)
  · subst hsz
    obtain ⟨b, cap2, cur, el, hab2, hfp, hbb, hfit, hlc, hm, hrow⟩ := arr_base (hs.mem κ _ hA) (by omega)
    rw [hab] at hab2
    cases hab2
    have hbase' := hbase hl0
    subst hbase'
    have hro : RoRows w (fun x => g.fz x ∨ g.fp κ x) A.sz A.rows (cur.toList.take (A.rows.length * A.sz)) := hrow.ro (fun b hb => .inl hb) (fun b _ hb => .inr hb.1)
    have hro2 := (RoRows.take_drop n (RoRows.take_drop off hro).2).1
    have hrl := hro2.length
    have e : ((A.rows.drop off).take len).take n = (A.rows.drop off).take n := by rw [List.take_take, Nat.min_eq_left hn]
    have hc2 : ∀ r ∈ (A.rows.drop off).take n, ∀ t ∈ r, t.flat = true := fun r hr => hc r (by rw [← e] at hr; exact List.mem_of_mem_take hr)
    have hown := ro_ownR (fz := g.fz) (S := fun _ => False) hro2 (.inr hc2)
    have hid : roRows ((A.rows.drop off).take n) = (A.rows.drop off).take n := by
      unfold roRows
      conv => rhs; rw [← List.map_id ((A.rows.drop off).take n)]
      refine List.map_congr_left fun r hr => ?_
      conv => rhs; rw [id, ← List.map_id r]
      refine List.map_congr_left fun t ht => ?_
      have := hc2 r hr t ht
      cases t <;> simp_all [T.flat, T.ro]
    rw [hid] at hown
    have hln : ((A.rows.drop off).take n).length = n := by simp; omega
    rw [hln] at hrl
    rw [e]
    refine ⟨_, ?_, hrl, hro2.one (fun r hr t ht => T.flat_solid (hc2 r hr t ht)), hown⟩
    rw [hv]
    simp only [Option.map_some, add_mk, Nat.zero_add]
    refine run_firstCells_some (P := P) w A.sz n ⟨b, off * A.sz, none⟩ _ _ _ hrl fun j u hj => ?_
    rw [add_mk]
    rw [List.getElem?_take] at hj
    split at hj
    · rw [List.getElem?_drop, List.getElem?_take] at hj
      split at hj
      · simp only [World.cell?, hbb]
        simpa using hj
      · cases hj
    · cases hj
theorem put_take {L : List Value} (news : List Value) {p m : Nat} (h : p + news.length ≤ m) : (L.take p ++ news ++ L.drop (p + news.length)).take m = (L.take m).take p ++ news ++ (L.take m).drop (p + news.length) := take_put L news p m h
theorem Sim.splice {g : Gh} {a : Act} {w : World} (hs : Sim E nt s g a w) {κ : Nat} {A : Arr} (hA : s.M κ = some (.arr A)) {p : Nat} {B : List (List T)} (hp : p + B.length ≤ A.rows.length) (h0 : A.rows.length ≠ 0) {news : List Value} (hnl : news.length = B.length * A.sz) (hone : ∀ u ∈ news, u.oneCell' = true) (hB : ∀ w' : World, w.heap.size ≤ w'.heap.size → (∀ c, g.fz c → w'.heap[c]? = w.heap[c]?) → OwRows w' g.fz A.sz B (fun _ => False) news) :
    ∃ b cap w' g', g.ab κ = some (some ⟨b, 0, none⟩, cap, A.sz) ∧ (∀ i, i = p * A.sz → (storeCells ⟨b, i, none⟩ news).run P w = .ok () w') ∧ Sim E nt ⟨s.F, fun x => if x = κ then some (.arr ⟨A.sz, A.rows.take p ++ B ++ A.rows.drop (p + B.length), A.ver + 1, A.cap⟩) else s.M x, fun x => x = κ ∨ s.B x⟩ g' a w' ∧ g'.ab κ = g.ab κ := by
  obtain ⟨b, cap, cur, e, hab, hfp, hh, hfit, hlc, hmx, hrow⟩ := arr_base (hs.mem κ _ hA) h0
  have hsub : A.rows.length * A.sz ≤ cur.size := Nat.le_trans (Nat.mul_le_mul_right _ hlc) hfit
  have hpn : p * A.sz + news.length ≤ A.rows.length * A.sz := by rw [hnl, ← Nat.add_mul]; exact Nat.mul_le_mul_right _ hp
  have hst := run_storeCells_at P b (p * A.sz) e news 0 cur w hh (by omega) hone
  simp only [Nat.add_zero] at hst
  have hold : ∀ c, c ≠ b → (w.setRow b (cur.toList.take (p * A.sz) ++ news ++ cur.toList.drop (p * A.sz + news.length)).toArray).heap[c]? = w.heap[c]? := fun c hc => setRow_other w _ c _ hc
  have hfz : ∀ c, g.fz c → (w.setRow b (cur.toList.take (p * A.sz) ++ news ++ cur.toList.drop (p * A.sz + news.length)).toArray).heap[c]? = w.heap[c]? := fun c hf => hold c (fun ee => by subst ee; exact hs.ownfz κ c (.inr hfp) hf)
  have hsz : w.heap.size ≤ (w.setRow b (cur.toList.take (p * A.sz) ++ news ++ cur.toList.drop (p * A.sz + news.length)).toArray).heap.size := by simp [World.setRow]
  have hsp := hrow.splice hp (hB _ hsz hfz) hsz hfz (fun c hc => hold c hc.2)
  obtain ⟨g', h', ha⟩ := hs.rewrite hA hab hfp hh hfit hlc hmx (cur' := (cur.toList.take (p * A.sz) ++ news ++ cur.toList.drop (p * A.sz + news.length)).toArray) (by simp; omega) (R := A.rows.take p ++ B ++ A.rows.drop (p + B.length)) (by simp; omega) (by
    have e5 : (p + B.length) * A.sz = p * A.sz + news.length := by rw [hnl, Nat.add_mul]
    rw [e5] at hsp
    show OwRows _ _ _ _ _ ((cur.toList.take (p * A.sz) ++ news ++ cur.toList.drop (p * A.sz + news.length)).take _)
    rw [put_take news hpn]
    exact hsp)
  exact ⟨b, cap, _, g', hab, fun i hi => by subst hi; exact hst, h', ha⟩
theorem op_cpy {t tx e : TypeId} {x y : Operand} {args : Array Operand} {tys : Array TypeId} {sz κ off len : Nat} {A : Arr} {rows : List (List T)} (ho : o.op = .call ⟨.builtin .copy, args, tys⟩) (ha : args.toList = [x, y]) (hty : tys.toList = [t, tx])
    (hu : P.underlying t = some (.slice e)) (hn : tySz P e = some sz) (hx : ev s.F (opd x) = some (.ref κ off len)) (hA : s.M κ = some (.arr A)) (hle : off + len ≤ A.rows.length) (hsz : A.sz = sz) (h0 : len ≠ 0) (hsrc : SrcN P E nt s y sz rows) (hd : dstOk nt o.dst) :
    OpS P E nt o s (s.app o.dst ⟨.int .i64 (min len rows.length : Nat), [(κ, some (.arr ⟨A.sz, A.rows.take off ++ rows.take (min len rows.length) ++ A.rows.drop (off + min len rows.length), A.ver + 1, A.cap⟩))], []⟩) := by
  have et : tys = #[t, tx] := by cases tys; simp_all
  have ea : args = #[x, y] := by cases args; simp_all
  subst et; subst ea; subst hsz
  refine OpS.of hd fun g a w hs => ?_
  have h1 := ev_ok hs hx
  simp only [VRep] at h1
  obtain ⟨base, cap, sz0, base', hab, hcap, hv, hb0, hbase⟩ := h1
  obtain ⟨hl1, hl2⟩ := hsrc g a w hs
  obtain ⟨news, hfc, hnl, hone, hown⟩ := hl2 (min len rows.length) (Nat.min_le_right ..)
  have hBl : (rows.take (min len rows.length)).length = min len rows.length := by rw [List.length_take]; omega
  obtain ⟨b, cap2, w', g', hab2, hst, h', hab3⟩ := hs.splice (P := P) hA (p := off) (B := rows.take (min len rows.length)) (by rw [hBl]; omega) (by omega) (news := news) (by rw [hBl]; exact hnl) hone
    (fun w' hs2 hf => hown.mono hs2 (fun c _ hc => ⟨hc, hf c hc⟩) (fun _ h => h) (fun _ h => h.elim))
  rw [hab] at hab2
  cases hab2
  have hb' := hbase h0
  subst hb'
  rw [hBl] at h'
  refine ⟨g', w', .int .i64 (min len rows.length : Nat), .inl ?_, h'.memEq (app_in (fun _ => (hs.arrK hA).2) (by rw [hA]; simp)).1 (app_in (fun _ => (hs.arrK hA).2) (by rw [hA]; simp)).2, fun _ => by simp only [VRep]⟩
  have hs2 := hst (off * A.sz) rfl
  unfold execOp
  rw [ho]; dsimp only
  have hadd : (⟨b, 0, none⟩ : Addr).add (off * A.sz) = ⟨b, off * A.sz, none⟩ := by rw [add_mk, Nat.zero_add]
  have hm : Nat.min rows.length len = min len rows.length := Nat.min_comm _ _
  simp only [resolve, invoke, builtin, Sem.run_bind, Sem.run_pure, Result.andThen_ok, List.map_toArray, List.map_cons, List.map_nil, hv, Option.map_some, hadd]
  simp [Builtin.copy_, run_underlying hu, hl1, run_sizeOf' hn, hm, hfc, hs2, goInt]
theorem op_clr {pt : List T} {t e : TypeId} {x : Operand} {args : Array Operand} {tys : Array TypeId} {zs : List V} {κ off len : Nat} {A : Arr} (ho : o.op = .call ⟨.builtin .clear, args, tys⟩) (ha : args.toList = [x]) (hty : tys.toList = [t])
    (hu : P.underlying t = some (.slice e)) (hz : zeroOf P e = some zs) (hn : tySz P e = some zs.length) (hx : ev s.F (opd x) = some (.ref κ off len)) (hA : s.M κ = some (.arr A)) (hle : off + len ≤ A.rows.length) (hsz : A.sz = zs.length) (hz0 : zs.length ≠ 0) (h0 : len ≠ 0) (hd : o.dst = none) (hzo : zs.all V.scalar = true) (hlz : liveL s.M zs) :
    OpS P E nt o s (s.app o.dst ⟨.undef, [(κ, some (.arr ⟨A.sz, A.rows.take off ++ List.replicate len (zTs pt zs) ++ A.rows.drop (off + len), A.ver + 1, A.cap⟩))], []⟩) := by
  have et : tys = #[t] := by cases tys; simp_all
  have ea : args = #[x] := by cases args; simp_all
  subst et; subst ea
  refine OpS.of (by rw [hd]; trivial) fun g a w hs => ?_
  have h1 := ev_ok hs hx
  simp only [VRep] at h1
  obtain ⟨base, cap, sz0, base', hab, hcap, hv, hb0, hbase⟩ := h1
  obtain ⟨zv, hzv, hrep⟩ := zeroOf_run hz
  have hzl := (hrep w g).length
  simp only [Array.length_toList] at hzl
  have hBl : (List.replicate len (zTs pt zs)).length = len := List.length_replicate
  have hflat : (Builtin.zeroCells zv.cells len).toList = (List.replicate len zv.cells.toList).flatten := by
    unfold Builtin.zeroCells
    exact madeCells_flat zv.cells (by omega) len
  obtain ⟨b, cap2, w', g', hab2, hst, h', hab3⟩ := hs.splice (P := P) hA (p := off) (B := List.replicate len (zTs pt zs)) (by rw [hBl]; omega) (by omega) (news := (Builtin.zeroCells zv.cells len).toList) (by
      have e6 : (List.replicate len zv.cells.toList).flatten.length = len * zv.cells.size := by simp
      rw [hflat, hBl, hsz, e6, hzl])
    (by
      rw [hflat]
      intro u hu2
      obtain ⟨l, hl, hul⟩ := List.mem_flatten.1 hu2
      rw [List.eq_of_mem_replicate hl] at hul
      have hva : VRep w g (.agg zs) (.agg zv.cells) := by simp only [VRep]; exact ⟨zv.cells.toList, by simp, hrep w g⟩
      exact (hva.cells hzo (liveL_ok hs hlz)).2 u hul)
    (fun w2 hs2 hf => by
      rw [hflat, hsz]
      exact zRows_ok (hrep w2 g) len)
  rw [hab] at hab2
  cases hab2
  have hb' := hbase h0
  subst hb'
  rw [hBl] at h'
  refine ⟨g', w', .tuple #[], .inl ?_, h'.memEq (app_in (fun _ => (hs.arrK hA).2) (by rw [hA]; simp)).1 (app_in (fun _ => (hs.arrK hA).2) (by rw [hA]; simp)).2, fun e => absurd hd e⟩
  have hs2 := hst (off * A.sz) rfl
  unfold execOp
  rw [ho]; dsimp only
  have hadd : (⟨b, 0, none⟩ : Addr).add (off * A.sz) = ⟨b, off * A.sz, none⟩ := by rw [add_mk, Nat.zero_add]
  obtain ⟨m, rfl⟩ : ∃ m, len = m + 1 := ⟨len - 1, by omega⟩
  simp only [resolve, invoke, builtin, Sem.run_bind, Sem.run_pure, Result.andThen_ok, List.map_toArray, List.map_cons, List.map_nil, hv, Option.map_some, hadd]
  simp [Builtin.clear_, run_underlying hu, hzv, hs2]
theorem op_aps {t tx e e' : TypeId} {x y : Operand} {args : Array Operand} {tys : Array TypeId} {inf : TypeInfo} {κ i j len : Nat} {A : Arr} (ho : o.op = .call ⟨.builtin .append, args, tys⟩) (ha : args.toList = [x, y]) (hty : tys.toList = [t, tx])
    (hu : P.underlying t = some (.slice e)) (hi : P.info? e = some inf) (hk : P.underlying tx = some (.slice e')) (hx : ev s.F (opd x) = some (.ref κ 0 i)) (hy : ev s.F (opd y) = some (.ref κ j len)) (hA : s.M κ = some (.arr A)) (hij : i ≤ j) (hj : j + len = A.rows.length) (hsz : A.sz = inf.size) (h0 : A.rows.length ≠ 0)
    (hsol : ∀ r ∈ A.rows.drop j, ∀ t ∈ r, t.solid = true) (hd : dstOk nt o.dst) :
    OpS P E nt o s (s.app o.dst ⟨.ref κ 0 (i + len), [(κ, some (.arr ⟨A.sz, A.rows.take i ++ A.rows.drop j ++ junkR A.sz (j - i), A.ver + 1, A.cap⟩))], []⟩) := by
  have et : tys = #[t, tx] := by cases tys; simp_all
  have ea : args = #[x, y] := by cases args; simp_all
  subst et; subst ea
  refine OpS.of hd fun g a w hs => ?_
  have h1 := ev_ok hs hx
  have h2 := ev_ok hs hy
  simp only [VRep] at h1 h2
  obtain ⟨base, cap, sz0, base', hab, hcap, hv, hb0, hbase⟩ := h1
  obtain ⟨base2, cap2, sz2, base2', hab2, hcap2, hv2, hb2, hbase2⟩ := h2
  rw [hab] at hab2
  cases hab2
  obtain ⟨b, cap3, cur, el, hab3, hfp, hh, hfit, hlc, hmx, hrow⟩ := arr_base (hs.mem κ _ hA) h0
  rw [hab] at hab3
  cases hab3
  have hbb := hb0 trivial
  subst hbb
  rw [Nat.sub_zero] at hv
  have hsub : A.rows.length * A.sz ≤ cur.size := Nat.le_trans (Nat.mul_le_mul_right _ hlc) hfit
  have hLl : (cur.toList.take (A.rows.length * A.sz)).length = A.rows.length * A.sz := by simp; omega
  have hro : RoRows w (fun x => g.fz x ∨ g.fp κ x) A.sz A.rows (cur.toList.take (A.rows.length * A.sz)) := hrow.ro (fun b hb => .inl hb) (fun b _ hb => .inr hb.1)
  have hro2 := (RoRows.take_drop j hro).2
  obtain ⟨news, hnews⟩ : ∃ news, news = (cur.toList.take (A.rows.length * A.sz)).drop (j * A.sz) := ⟨_, rfl⟩
  rw [← hnews] at hro2
  have hnl : news.length = len * A.sz := by rw [hnews, List.length_drop, hLl, ← Nat.sub_mul]; congr 1; omega
  have hone := hro2.one hsol
  have hS : Src P inf.size tx (a.eval y) len news w := by
    rw [hv2]
    by_cases hl0 : len = 0
    · subst hl0
      have : news = [] := List.eq_nil_of_length_eq_zero (by omega)
      subst this
      cases base2' with
      | none => exact Src.ofNil w hk _
      | some b2 => exact Src.ofSlice w hk b2 0 _ [] (by simp) (by simp) (by simp)
    · have hb3 := hbase2 hl0
      subst hb3
      simp only [Option.map_some, add_mk, Nat.zero_add]
      refine Src.ofSlice w hk ⟨b, j * A.sz, none⟩ len _ _ (by rw [hnl, hsz]) (fun q u hq => ?_) hone
      rw [add_mk]
      rw [hnews, List.getElem?_drop, List.getElem?_take] at hq
      split at hq
      · simp only [World.cell?, hh]
        simpa using hq
      · cases hq
  have hpn : i * A.sz + news.length ≤ A.rows.length * A.sz := by rw [hnl, ← Nat.add_mul]; exact Nat.mul_le_mul_right _ (by omega)
  have hrun := run_app_room (P := P) (ty := o.type) hu hi hS hh (n := i) (cap := cap) (by omega) (by rw [← hsz]; omega)
  rw [← hsz] at hrun
  have hold : ∀ c, c ≠ b → (w.setRow b (cur.toList.take (i * A.sz) ++ news ++ cur.toList.drop (i * A.sz + news.length)).toArray).heap[c]? = w.heap[c]? := fun c hc => setRow_other w _ c _ hc
  have hfz : ∀ c, g.fz c → (w.setRow b (cur.toList.take (i * A.sz) ++ news ++ cur.toList.drop (i * A.sz + news.length)).toArray).heap[c]? = w.heap[c]? := fun c hf => hold c (fun ee => by subst ee; exact hs.ownfz κ c (.inr hfp) hf)
  have hws : w.heap.size ≤ (w.setRow b (cur.toList.take (i * A.sz) ++ news ++ cur.toList.drop (i * A.sz + news.length)).toArray).heap.size := by simp [World.setRow]
  have hsp := hrow.shift hij (by omega) hws hfz (fun c hc => hold c hc.2)
  obtain ⟨g', h', hab4⟩ := hs.rewrite hA hab hfp hh hfit hlc hmx (cur' := (cur.toList.take (i * A.sz) ++ news ++ cur.toList.drop (i * A.sz + news.length)).toArray) (by simp; omega) (R := A.rows.take i ++ A.rows.drop j ++ junkR A.sz (j - i)) (by simp [junkR]; omega) (by
    have e5 : (i + (A.rows.length - j)) * A.sz = i * A.sz + news.length := by rw [hnl, Nat.add_mul]; congr 2; omega
    rw [e5, ← hnews] at hsp
    show OwRows _ _ _ _ _ ((cur.toList.take (i * A.sz) ++ news ++ cur.toList.drop (i * A.sz + news.length)).take _)
    rw [put_take news hpn]
    exact hsp)
  refine ⟨g', _, .slice (some ⟨b, 0, none⟩) (i + len) cap, .inl ?_, h'.memEq (app_in (fun _ => (hs.arrK hA).2) (by rw [hA]; simp)).1 (app_in (fun _ => (hs.arrK hA).2) (by rw [hA]; simp)).2, fun _ => ?_⟩
  · unfold execOp
    rw [ho]; dsimp only
    simp only [resolve, invoke, builtin, Sem.run_bind, Sem.run_pure, Result.andThen_ok, List.map_toArray, List.map_cons, List.map_nil, hv, hrun]
  · simp only [VRep]
    exact ⟨some ⟨b, 0, none⟩, cap, A.sz, _, by rw [hab4, hab], by omega, rfl, fun _ => rfl, fun _ => by simp [Addr.add]⟩
end
section
variable {P : Program} {E : Env} {nt : Nat} {o : Oper} {s : SF}
theorem app_at {t tx e : TypeId} {x y : Operand} {args : Array Operand} {tys : Array TypeId} {inf : TypeInfo} {zs : List V} {κ k : Nat} {n : Nat} {A : Arr} {rows : List (List T)} {ks : List Nat} {N : Nat → Prop} (ho : o.op = .call ⟨.builtin .append, args, tys⟩) (ha : args.toList = [x, y]) (hty : tys.toList = [t, tx])
    (hu : P.underlying t = some (.slice e)) (hi : P.info? e = some inf) (hz : zeroOf P e = some zs) (h0 : inf.size ≠ 0) (hzl : zs.length = inf.size) {g : Gh} {a : Act} {w : World} (hs : Sim E nt s g a w) (h1 : VRep w g (.ref κ 0 n) (a.eval x)) (hA : s.M κ = some (.arr A)) (hn : n ≤ A.rows.length) (hsz : A.sz = inf.size)
    {news : List Value} (hS : Src P inf.size tx (a.eval y) rows.length news w) (hrowy : OwRows w g.fz inf.size rows (fun b => (∃ k ∈ ks, g.fp k b) ∨ N b) news) (hks : ∀ k ∈ ks, ∃ A, s.M k = some (.arr A)) (hN : ∀ b, N b → (∀ x, ¬ Own g x b) ∧ ¬ g.fz b ∧ (E.wr b ∨ E.w0.heap.size ≤ b) ∧ b < w.heap.size)
    (hκ : κ ∉ ks) (hb : (n + rows.length) * inf.bytes ≤ 140737488355328) (h63 : n + rows.length ≤ 9223372036854775807) (hk : ¬ s.B k) :
    ∃ g' w' u, ((execOp a.eval o).run P w = .ok (.value u) w' ∨ (execOp a.eval o).run P w = .ok .skip w' ∧ u = undef) ∧
      Sim E nt ⟨s.F, (s.app o.dst ⟨.ref k 0 (n + rows.length), (k, some (.arr ⟨A.sz, A.rows.take n ++ rows, 1, none⟩)) :: (κ :: ks).map (fun k => (k, none)), [k]⟩).M, (s.app o.dst ⟨.ref k 0 (n + rows.length), (k, some (.arr ⟨A.sz, A.rows.take n ++ rows, 1, none⟩)) :: (κ :: ks).map (fun k => (k, none)), [k]⟩).B⟩ g' a w' ∧ (o.dst ≠ none → VRep w' g' (.ref k 0 (n + rows.length)) u) := by
  have et : tys = #[t, tx] := by cases tys; simp_all
  have ea : args = #[x, y] := by cases args; simp_all
  subst et; subst ea
  simp only [VRep] at h1
  obtain ⟨base, cap, sz0, base', hab, hcap, hv, hb0, _⟩ := h1
  rw [hb0 trivial, Nat.sub_zero] at hv
  obtain ⟨base2, cap2, hab2, _, hown, _⟩ := hs.mem κ _ hA
  rw [hab] at hab2
  cases hab2
  have hkκ : k ≠ κ := fun ee => by subst ee; exact hk (hs.arrK hA).2
  have hCm : ∀ x, x ∈ κ :: ks → x ≠ k ∧ ∃ A, s.M x = some (.arr A) := by
    intro x hx
    rcases List.mem_cons.1 hx with rfl | hx
    · exact ⟨Ne.symm hkκ, A, hA⟩
    · refine ⟨fun ee => ?_, hks x hx⟩
      subst ee
      obtain ⟨A', hA'⟩ := hks x hx
      exact hk (hs.arrK hA').2
  have fin : ∀ (w' : World) (base' : Option Addr) (cap' : Nat) (S : Nat → Prop), (Builtin.append_ #[t, tx] o.type #[.slice base n cap, a.eval y]).run P w = .ok (.slice base' (n + rows.length) cap') w' →
      w'.os = w.os → w'.tape = w.tape → w'.output = w.output → w.heap.size ≤ w'.heap.size → (∀ b, b < w.heap.size → (∀ x, x ∈ κ :: ks → ¬ g.fp x b) → w'.heap[b]? = w.heap[b]?) →
      (∀ b, S b → b < w'.heap.size ∧ ((∃ x, x ∈ κ :: ks ∧ g.fp x b) ∨ N b ∨ w.heap.size ≤ b)) → OwT w' g.fz (.sl true A.sz (A.rows.take n ++ rows)) S (.slice base' (n + rows.length) cap') → n + rows.length ≤ cap' →
      ∃ g' w' u, ((execOp a.eval o).run P w = .ok (.value u) w' ∨ (execOp a.eval o).run P w = .ok .skip w' ∧ u = undef) ∧
        Sim E nt ⟨s.F, (s.app o.dst ⟨.ref k 0 (n + rows.length), (k, some (.arr ⟨A.sz, A.rows.take n ++ rows, 1, none⟩)) :: (κ :: ks).map (fun k => (k, none)), [k]⟩).M, (s.app o.dst ⟨.ref k 0 (n + rows.length), (k, some (.arr ⟨A.sz, A.rows.take n ++ rows, 1, none⟩)) :: (κ :: ks).map (fun k => (k, none)), [k]⟩).B⟩ g' a w' ∧ (o.dst ≠ none → VRep w' g' (.ref k 0 (n + rows.length)) u) := by
    intro w' base' cap' S hrun e1 e2 e3 e4 hch hSb hnew hle
    have hl : (A.rows.take n ++ rows).length = n + rows.length := by simp; omega
    obtain ⟨g', h', hxx, hab', _⟩ := hs.setArr (w' := w') k (κ :: ks) (A := ⟨A.sz, A.rows.take n ++ rows, 1, none⟩) (S := S) (base := base') (cap := cap') e1 e2 e3 e4 (.inr ⟨hk, rfl⟩) hCm (fun b hb _ hn => hch b hb hn)
      (fun b hb => ⟨(hSb b hb).1, by
        rcases (hSb b hb).2 with h | h | h
        · exact .inr (.inl h)
        · exact .inr (.inr ⟨(hN b h).1, (hN b h).2.1, (hN b h).2.2.1⟩)
        · exact .inr (.inr (hs.fresh h))⟩) (by rw [hl]; exact hnew) (fun c hc => by cases hc)
    refine ⟨g', w', .slice base' (n + rows.length) cap', .inl ?_, h'.memEq app_new.1 app_new.2, fun _ => ?_⟩
    · unfold execOp
      rw [ho]; dsimp only
      simp only [resolve, invoke, builtin, Sem.run_bind, Sem.run_pure, Result.andThen_ok, List.map_toArray, List.map_cons, List.map_nil, hv, hrun]
    · simp only [VRep]
      exact ⟨base', cap', A.sz, base', hab', by omega, rfl, fun _ => rfl, fun _ => by cases base' <;> simp [Addr.add]⟩
  have hone := hS.newsLen
  rw [← hsz] at hS hrowy hone
  obtain ⟨i, zv, hi', hzv, hrep⟩ := zeroOf_info hz
  rw [hi] at hi'
  cases hi'
  have hzl2 := (hrep w g).length
  simp only [Array.length_toList] at hzl2
  have hSz : Src P inf.size tx (a.eval y) rows.length news w := by rw [← hsz]; exact hS
  have grow : ∀ (olds : List Value), olds.length = n * A.sz → (Builtin.firstCells inf.size n (.slice base n cap)).run P w.drew = .ok olds.toArray w.drew → OwRows w g.fz A.sz (A.rows.take n) (fun b => g.fp κ b) olds → cap < n + rows.length →
      ∃ g' w' u, ((execOp a.eval o).run P w = .ok (.value u) w' ∨ (execOp a.eval o).run P w = .ok .skip w' ∧ u = undef) ∧
        Sim E nt ⟨s.F, (s.app o.dst ⟨.ref k 0 (n + rows.length), (k, some (.arr ⟨A.sz, A.rows.take n ++ rows, 1, none⟩)) :: (κ :: ks).map (fun k => (k, none)), [k]⟩).M, (s.app o.dst ⟨.ref k 0 (n + rows.length), (k, some (.arr ⟨A.sz, A.rows.take n ++ rows, 1, none⟩)) :: (κ :: ks).map (fun k => (k, none)), [k]⟩).B⟩ g' a w' ∧ (o.dst ≠ none → VRep w' g' (.ref k 0 (n + rows.length)) u) := by
    intro olds hol hfc hro hlt
    have hr := run_append_grow_src (P := P) w t tx o.type e inf zv hu hi hzv base n cap olds hfc (a.eval y) rows.length news hSz hlt (by omega) (growslice_fits (by omega) hb)
    have hge := grownCap_ge w (n + rows.length) cap e
    have hcm : grownCap w (n + rows.length) cap e ≤ maxLen := grownCap_le_maxLen w (n + rows.length) cap e (by simp only [maxLen]; omega)
    have hsz' : (w.drew.alloc (.cells ((olds ++ news).toArray ++ Builtin.zeroCells zv.cells (grownCap w (n + rows.length) cap e - (n + rows.length))) e)).heap.size = w.heap.size + 1 := by simp
    have hold : ∀ b, b < w.heap.size → (w.drew.alloc (.cells ((olds ++ news).toArray ++ Builtin.zeroCells zv.cells (grownCap w (n + rows.length) cap e - (n + rows.length))) e)).heap[b]? = w.heap[b]? := fun b hb => heap_alloc_old w.drew _ hb
    refine fin _ _ _ (fun b => b = w.heap.size ∨ g.fp κ b ∨ (∃ k ∈ ks, g.fp k b) ∨ N b) hr rfl rfl rfl (by omega) (fun b hb _ => hold b hb) (fun b hb => ?_) ?_ hge
    · rcases hb with rfl | hb | ⟨x, hx, hb⟩ | hb
      · exact ⟨by omega, .inr (.inr (Nat.le_refl _))⟩
      · have := (hs.ownlt κ b (.inr hb)).1
        exact ⟨by omega, .inl ⟨κ, List.mem_cons_self .., hb⟩⟩
      · have := (hs.ownlt x b (.inr hb)).1
        exact ⟨by omega, .inl ⟨x, List.mem_cons_of_mem _ hx, hb⟩⟩
      · have := (hN b hb).2.2.2
        exact ⟨by omega, .inr (.inl hb)⟩
    · have hl : (A.rows.take n ++ rows).length = n + rows.length := by simp; omega
      simp only [OwT]
      refine ⟨_, _, by rw [hl], by rw [hl]; exact hge, hcm, .inr ⟨w.heap.size, _, e, rfl, .inl rfl, heap_alloc_new w.drew _, ?_, ?_⟩⟩
      · have ez : zv.cells.size = A.sz := by omega
        have e6 : grownCap w (n + rows.length) cap e * A.sz = n * A.sz + rows.length * A.sz + (grownCap w (n + rows.length) cap e - (n + rows.length)) * A.sz := by
          rw [← Nat.add_mul, ← Nat.add_mul]; congr 1; omega
        simp only [Array.size_append, List.size_toArray, size_zeroCells, List.length_append, hol, hone, ez]
        omega
      · have e5 : ((olds ++ news).toArray ++ Builtin.zeroCells zv.cells (grownCap w (n + rows.length) cap e - (n + rows.length))).toList.take ((A.rows.take n ++ rows).length * A.sz) = olds ++ news := by
          rw [hl, Array.toList_append]
          simp only [List.append_assoc]
          rw [← List.append_assoc, List.take_append_of_le_length (by simp [hol, hone, Nat.add_mul]), List.take_of_length_le (by simp [hol, hone, Nat.add_mul])]
        rw [e5]
        have j := OwRows.join (fun x h1 h2 => ?_) hro hrowy
        · refine j.mono (by omega) (fun b hb hf => ⟨hf, hold b hb⟩) (fun b hb => ?_) (fun b _ hl => hold b hl)
          refine ⟨.inr hb, fun ee => ?_⟩
          subst ee
          rcases hb with hb | ⟨x, _, hb⟩ | hb
          · have := (hs.ownlt κ _ (.inr hb)).1; omega
          · have := (hs.ownlt x _ (.inr hb)).1; omega
          · have := (hN _ hb).2.2.2; omega
        · rcases h2 with ⟨x', hx', hf⟩ | h2
          · exact hκ (by rw [hs.disj κ x' x (.inr h1) (.inr hf)]; exact hx')
          · exact (hN x h2).1 κ (.inr h1)
  simp only [OwT] at hown
  obtain ⟨base3, cap3, e3, hlc, hmx, hrow⟩ := hown
  cases e3
  by_cases hroom : n + rows.length ≤ cap
  · rcases hrow with ⟨hr0, hc0⟩ | ⟨b, cur, el, hbase, hfp, hh, hfit, hr⟩
    · -- nothing in it, no room: nothing appended
      subst hc0
      have hm0 : rows = [] := List.eq_nil_of_length_eq_zero (by omega)
      have hn0 : n = 0 := by omega
      subst hm0
      subst hn0
      have hr := run_app_nothing (P := P) (ty := o.type) hu hi hSz base (n := 0) (cap := 0) (Nat.le_refl _)
      refine fin w base 0 (fun _ => False) hr rfl rfl rfl (Nat.le_refl _) (fun _ _ _ => rfl) (fun _ h => h.elim) ?_ (Nat.le_refl _)
      simp only [OwT]
      exact ⟨base, 0, by simp, by simp, Nat.zero_le _, .inl ⟨by simp, rfl⟩⟩
    · subst hbase
      have hfit' : n * inf.size + news.length ≤ cur.size := by rw [hone, ← hsz, ← Nat.add_mul]; exact Nat.le_trans (Nat.mul_le_mul_right _ hroom) hfit
      have hrun := run_app_room (P := P) (ty := o.type) hu hi hSz hh hroom hfit'
      have hold : ∀ c, c ≠ b → (w.setRow b (cur.toList.take (n * inf.size) ++ news ++ cur.toList.drop (n * inf.size + news.length)).toArray).heap[c]? = w.heap[c]? := fun c hc => setRow_other w _ c _ hc
      have hsz' : (w.setRow b (cur.toList.take (n * inf.size) ++ news ++ cur.toList.drop (n * inf.size + news.length)).toArray).heap.size = w.heap.size := by simp [World.setRow]
      have hfzb : ∀ c, g.fz c → c ≠ b := fun c hf ee => by subst ee; exact hs.ownfz κ c (.inr hfp) hf
      have hksb : ∀ c x, x ∈ ks → g.fp x c → c ≠ b := fun c x hx hf ee => by subst ee; exact hκ (by rw [hs.disj κ x c (.inr hfp) (.inr hf)]; exact hx)
      refine fin _ _ _ (fun c => g.fp κ c ∨ (∃ x ∈ ks, g.fp x c) ∨ N c) hrun rfl rfl rfl (by omega) (fun c _ hn => hold c (fun ee => by subst ee; exact hn κ (List.mem_cons_self ..) hfp)) (fun c hc => ?_) ?_ hroom
      · rcases hc with hc | ⟨x, hx, hc⟩ | hc
        · exact ⟨by have := (hs.ownlt κ c (.inr hc)).1; omega, .inl ⟨κ, List.mem_cons_self .., hc⟩⟩
        · exact ⟨by have := (hs.ownlt x c (.inr hc)).1; omega, .inl ⟨x, List.mem_cons_of_mem _ hx, hc⟩⟩
        · exact ⟨by have := (hN c hc).2.2.2; omega, .inr (.inl hc)⟩
      · have hl : (A.rows.take n ++ rows).length = n + rows.length := by simp; omega
        simp only [OwT]
        refine ⟨_, _, by rw [hl], by rw [hl]; exact hroom, hmx, .inr ⟨b, _, el, rfl, .inl hfp, setRow_heap w _ cur _ el _ hh, ?_, ?_⟩⟩
        · simp only [List.size_toArray, List.length_append, List.length_take, List.length_drop, Array.length_toList]
          omega
        · have e5 : (cur.toList.take (n * inf.size) ++ news ++ cur.toList.drop (n * inf.size + news.length)).toArray.toList.take ((A.rows.take n ++ rows).length * A.sz) = cur.toList.take (n * A.sz) ++ news := by
            rw [hl]
            simp only [List.append_assoc]
            have hc1 : (cur.toList.take (n * inf.size)).length = n * A.sz := by rw [List.length_take, Array.length_toList, hsz]; omega
            rw [← List.append_assoc, List.take_append_of_le_length (by rw [List.length_append, hc1, hone, Nat.add_mul]; exact Nat.le_refl _), List.take_of_length_le (by rw [List.length_append, hc1, hone, Nat.add_mul]; exact Nat.le_refl _), hsz]
          rw [e5]
          obtain ⟨S1, S2, d1, d2, h3, h4⟩ := hr.split n
          rw [List.take_take, Nat.min_eq_left (Nat.mul_le_mul_right _ hn)] at h3
          have m1 := h3.mono (w' := w.setRow b (cur.toList.take (n * inf.size) ++ news ++ cur.toList.drop (n * inf.size + news.length)).toArray) (fz' := g.fz) (by omega) (fun c _ hf => ⟨hf, hold c (hfzb c hf)⟩) (fun c hc => (d1 c hc).1) (fun c hc _ => hold c (d1 c hc).1.2)
          have m2 := hrowy.mono (w' := w.setRow b (cur.toList.take (n * inf.size) ++ news ++ cur.toList.drop (n * inf.size + news.length)).toArray) (fz' := g.fz) (by omega) (fun c _ hf => ⟨hf, hold c (hfzb c hf)⟩) (fun c hc => hc) (fun c hc _ => by
            rcases hc with ⟨x, hx, hf⟩ | hc
            · exact hold c (hksb c x hx hf)
            · exact hold c (fun ee => by subst ee; exact (hN c hc).1 κ (.inr hfp)))
          refine (OwRows.join (fun x h1 h2 => ?_) m1 m2).sub fun c hc => ?_
          · rcases h2 with ⟨x', hx', hf⟩ | h2
            · exact hκ (by rw [hs.disj κ x' x (.inr h1.1) (.inr hf)]; exact hx')
            · exact (hN x h2).1 κ (.inr h1.1)
          · rcases hc with hc | ⟨x, hx, hc⟩ | hc
            · exact ⟨.inl hc.1, hc.2⟩
            · exact ⟨.inr (.inl ⟨x, hx, hc⟩), hksb c x hx hc⟩
            · exact ⟨.inr (.inr hc), fun ee => by subst ee; exact (hN c hc).1 κ (.inr hfp)⟩
  · rcases hrow with ⟨hr0, hc0⟩ | ⟨b, cur, el, hbase, hfp, hh, hfit, hr⟩
    · have hn0 : n = 0 := by rw [hr0] at hn; simpa using hn
      subst hn0
      refine grow [] (by simp) ?_ (by simp only [List.take_zero, OwRows]) (by omega)
      cases base with
      | none => exact run_firstCells_none w.drew inf.size 0 0 cap
      | some b => exact run_firstCells_some (P := P) w.drew inf.size 0 b 0 cap [] (by simp) (by simp)
    · subst hbase
      obtain ⟨S1, S2, d1, d2, h3, h4⟩ := hr.split n
      rw [List.take_take, Nat.min_eq_left (Nat.mul_le_mul_right _ hn)] at h3
      have hl3 := h3.length
      have hl4 : (A.rows.take n).length = n := by simp; omega
      rw [hl4] at hl3
      refine grow _ hl3 ?_ (h3.sub fun c hc => (d1 c hc).1.1) (by omega)
      refine run_firstCells_some (P := P) w.drew inf.size n ⟨b, 0, none⟩ n cap _ (by rw [hl3, hsz]) (fun j u hj => ?_)
      rw [add_mk, Nat.zero_add]
      rw [List.getElem?_take] at hj
      split at hj
      · have : w.drew.cell? ⟨b, j, none⟩ = w.cell? ⟨b, j, none⟩ := rfl
        rw [this]
        simp only [World.cell?, hh]
        simpa using hj
      · cases hj
theorem Sim.part {g : Gh} {a : Act} {w : World} (hs : Sim E nt s g a w) {κ : Nat} {A : Arr} (hA : s.M κ = some (.arr A)) (h0 : A.rows.length ≠ 0) {off len : Nat} (hle : off + len ≤ A.rows.length) :
    ∃ b cap cur e g1, ∃ N : Nat → Prop, g.ab κ = some (some ⟨b, 0, none⟩, cap, A.sz) ∧ w.heap[b]? = some (.cells cur e (0, 0)) ∧ cap * A.sz ≤ cur.size ∧ A.rows.length ≤ cap ∧
      Sim E nt ⟨s.F, fun x => if x = κ then some (.arr ⟨A.sz, A.rows.take off ++ junkR A.sz len ++ A.rows.drop (off + len), A.ver + 1, A.cap⟩) else s.M x, fun x => x = κ ∨ s.B x⟩ g1 a w ∧
      OwRows w g1.fz A.sz ((A.rows.drop off).take len) N (((cur.toList.take (A.rows.length * A.sz)).drop (off * A.sz)).take (len * A.sz)) ∧ (∀ b, N b → (∀ x, ¬ Own g1 x b) ∧ ¬ g1.fz b ∧ (E.wr b ∨ E.w0.heap.size ≤ b) ∧ b < w.heap.size) := by
  obtain ⟨b, cap, cur, e, hab, hfp, hh, hfit, hlc, hmx, hrow⟩ := arr_base (hs.mem κ _ hA) h0
  have hcapc : ∀ c, A.cap = some c → c = cap := by
    obtain ⟨_, _, hab3, _, _, h⟩ := hs.mem κ _ hA
    rw [hab] at hab3
    cases hab3
    exact h
  have hL := hrow.length
  obtain ⟨S1, S2, d1, d2, h1, h2⟩ := hrow.split off
  obtain ⟨S3, S4, d3, d4, h3, h4⟩ := h2.split len
  have hml := h3.length
  have hm2 : ((A.rows.drop off).take len).length = len := by simp; omega
  rw [hm2] at hml
  rw [List.drop_drop, List.drop_drop, ← Nat.add_mul] at h4
  have hj := junkR_ok (w := w) (fz := g.fz) (sz := A.sz) len (((cur.toList.take (A.rows.length * A.sz)).drop (off * A.sz)).take (len * A.sz)) hml
  have j1 := OwRows.join (fun x _ h => h) h1 hj
  have j2 := OwRows.join (fun x hx h4 => by
    rcases hx with hx | hx
    · exact (d1 x hx).2 (d4 x h4)
    · exact hx) j1 h4
  have e9 : (cur.toList.take (A.rows.length * A.sz)).take (off * A.sz) ++ ((cur.toList.take (A.rows.length * A.sz)).drop (off * A.sz)).take (len * A.sz) ++ (cur.toList.take (A.rows.length * A.sz)).drop ((off + len) * A.sz) = cur.toList.take (A.rows.length * A.sz) := by
    rw [Nat.add_mul, ← List.drop_drop, List.append_assoc, List.take_append_drop, List.take_append_drop]
  rw [e9] at j2
  have hRl : (A.rows.take off ++ junkR A.sz len ++ A.rows.drop (off + len)).length = A.rows.length := by simp [junkR]; omega
  have hnew : OwT w g.fz (.sl true A.sz (A.rows.take off ++ junkR A.sz len ++ A.rows.drop (off + len))) (fun x => x = b ∨ S1 x ∨ S4 x) (.slice (some ⟨b, 0, none⟩) (A.rows.take off ++ junkR A.sz len ++ A.rows.drop (off + len)).length cap) := by
    simp only [OwT]
    refine ⟨_, cap, by simp, by omega, hmx, .inr ⟨b, cur, e, rfl, .inl rfl, hh, hfit, ?_⟩⟩
    rw [hRl]
    refine j2.sub fun x hx => ?_
    rcases hx with (hx | hx) | hx
    · exact ⟨.inr (.inl hx), (d1 x hx).1.2⟩
    · exact hx.elim
    · exact ⟨.inr (.inr hx), (d2 x (d4 x hx)).2⟩
  obtain ⟨g1, h', _, hab2, hfz2, hfp2, _, hbv2, hoth⟩ := hs.setArr (w' := w) κ [] (A := ⟨A.sz, A.rows.take off ++ junkR A.sz len ++ A.rows.drop (off + len), A.ver + 1, A.cap⟩) (S := fun x => x = b ∨ S1 x ∨ S4 x) (base := some ⟨b, 0, none⟩) (cap := cap)
    rfl rfl rfl (Nat.le_refl _) (.inl ⟨A, hA, hab, rfl⟩) (fun x hx => by cases hx) (fun c _ _ _ => rfl)
    (fun c hc => by
      have hf : g.fp κ c := by
        rcases hc with rfl | hc | hc
        · exact hfp
        · exact (d1 c hc).1.1
        · exact (d2 c (d4 c hc)).1
      exact ⟨(hs.ownlt κ c (.inr hf)).1, .inl hf⟩) hnew hcapc
  refine ⟨b, cap, cur, e, g1, S3, hab, hh, hfit, hlc, h'.memEq (funext fun y => by by_cases e : y = κ <;> simp [e]) (fun y => Iff.rfl), by rw [hfz2]; exact h3, fun c hc => ?_⟩
  have hc2 := d2 c (d3 c hc).1
  have ho := hs.ownlt κ c (.inr hc2.1)
  refine ⟨fun x hx => ?_, by rw [hfz2]; exact hs.ownfz κ c (.inr hc2.1), ho.2, ho.1⟩
  rcases hx with hx | hx
  · rw [hbv2] at hx
    have := hs.disj x κ c (.inl hx) (.inr hc2.1)
    subst this
    have := (hs.kind x (by rw [hx]; simp)).2 c
    exact this hc2.1
  · by_cases e1 : x = κ
    · subst e1
      rw [hfp2] at hx
      rcases hx with rfl | hx | hx
      · exact hc2.2 rfl
      · exact (d1 c hx).2 (d3 c hc).1
      · exact (d3 c hc).2 hx
    · rw [(hoth x e1 (by simp)).1] at hx
      exact e1 (hs.disj x κ c (.inr hx) (.inr hc2.1))
theorem Sim.touch {g : Gh} {a : Act} {w : World} (hs : Sim E nt s g a w) {κ : Nat} {A : Arr} (hA : s.M κ = some (.arr A)) :
    ∃ g1, Sim E nt ⟨s.F, fun x => if x = κ then some (.arr ⟨A.sz, A.rows, A.ver + 1, A.cap⟩) else s.M x, fun x => x = κ ∨ s.B x⟩ g1 a w := by
  obtain ⟨base, cap, hab, _, hown, hcap⟩ := hs.mem κ _ hA
  obtain ⟨g1, h', _⟩ := hs.setArr (w' := w) κ [] (A := ⟨A.sz, A.rows, A.ver + 1, A.cap⟩) (S := g.fp κ) (base := base) (cap := cap)
    rfl rfl rfl (Nat.le_refl _) (.inl ⟨A, hA, hab, rfl⟩) (fun x hx => by cases hx) (fun c _ _ _ => rfl)
    (fun c hc => ⟨(hs.ownlt κ c (.inr hc)).1, .inl hc⟩) hown hcap
  exact ⟨g1, h'.memEq (funext fun y => by by_cases e : y = κ <;> simp [e]) (fun y => Iff.rfl)⟩
theorem Sim.partS {tx e' : TypeId} {y : Operand} {κ2 off len n2 : Nat} {A2 : Arr} {g : Gh} {a : Act} {w : World} (hs : Sim E nt s g a w) (hkd : P.underlying tx = some (.slice e')) (hy : ev s.F (opd y) = some (.ref κ2 off len)) (hA2 : s.M κ2 = some (.arr A2)) (hle : off + len ≤ A2.rows.length) (hsz2 : A2.sz = n2) (hsol : ∀ r ∈ (A2.rows.drop off).take len, ∀ t ∈ r, t.solid = true) :
    ∃ g1 news, ∃ N : Nat → Prop, Sim E nt ⟨s.F, fun x => if x = κ2 then some (.arr ⟨A2.sz, A2.rows.take off ++ junkR A2.sz len ++ A2.rows.drop (off + len), A2.ver + 1, A2.cap⟩) else s.M x, fun x => x = κ2 ∨ s.B x⟩ g1 a w ∧
      Src P n2 tx (a.eval y) len news w ∧ OwRows w g1.fz n2 ((A2.rows.drop off).take len) (fun b => (∃ k ∈ ([] : List Nat), g1.fp k b) ∨ N b) news ∧ (∀ b, N b → (∀ x, ¬ Own g1 x b) ∧ ¬ g1.fz b ∧ (E.wr b ∨ E.w0.heap.size ≤ b) ∧ b < w.heap.size) := by
  have h2 := ev_ok hs hy
  simp only [VRep] at h2
  obtain ⟨base2, cap2, sz2, base2', hab2, hcap2, hv2, hb2, hbase2⟩ := h2
  by_cases h02 : A2.rows.length = 0
  · obtain ⟨rfl, rfl⟩ : off = 0 ∧ len = 0 := by omega
    obtain ⟨g1, hs1⟩ := hs.touch hA2
    refine ⟨g1, [], fun _ => False, ?_, ?_, by simp [OwRows], fun b hb => hb.elim⟩
    · have hr : A2.rows.take 0 ++ junkR A2.sz 0 ++ A2.rows.drop (0 + 0) = A2.rows := by simp [junkR]
      rw [hr]
      exact hs1
    · rw [hv2]
      cases base2' with
      | none => exact Src.ofNil w hkd _
      | some b2 => exact Src.ofSlice w hkd b2 0 _ [] (by simp) (by simp) (by simp)
  · obtain ⟨b, cap, cur, el, g1, N, hab, hh, hfit, hlc, hs1, hrows, hN⟩ := hs.part hA2 h02 hle
    rw [hab] at hab2
    cases hab2
    have hml : ((A2.rows.drop off).take len).length = len := by simp; omega
    have hnl := hrows.length
    rw [hml] at hnl
    have hone : ∀ u ∈ (((cur.toList.take (A2.rows.length * A2.sz)).drop (off * A2.sz)).take (len * A2.sz)), u.oneCell' = true :=
      (hrows.ro (ok := fun _ => True) (fun _ _ => trivial) (fun _ _ _ => trivial)).one hsol
    refine ⟨g1, ((cur.toList.take (A2.rows.length * A2.sz)).drop (off * A2.sz)).take (len * A2.sz), N, hs1, ?_, ?_, hN⟩
    · rw [hv2]
      by_cases hl0 : len = 0
      · subst hl0
        rw [Nat.zero_mul, List.take_zero]
        cases base2' with
        | none => exact Src.ofNil w hkd _
        | some b2 => exact Src.ofSlice w hkd b2 0 _ [] (by simp) (by simp) (by simp)
      · have hb3 := hbase2 hl0
        subst hb3
        simp only [Option.map_some, add_mk, Nat.zero_add]
        refine Src.ofSlice w hkd ⟨b, off * A2.sz, none⟩ len _ _ (by rw [hnl, hsz2]) (fun q u hq => ?_) hone
        rw [add_mk]
        rw [List.getElem?_take] at hq
        split at hq
        · rw [List.getElem?_drop, List.getElem?_take] at hq
          split at hq
          · simp only [World.cell?, hh]
            simpa using hq
          · cases hq
        · cases hq
    · rw [← hsz2]
      exact hrows.sub fun _ h => .inr h
theorem op_appP {t tx e e' : TypeId} {x y : Operand} {args : Array Operand} {tys : Array TypeId} {inf : TypeInfo} {zs : List V} {κ κ2 k : Nat} {n off len : Nat} {A A2 : Arr} (ho : o.op = .call ⟨.builtin .append, args, tys⟩) (ha : args.toList = [x, y]) (hty : tys.toList = [t, tx])
    (hu : P.underlying t = some (.slice e)) (hi : P.info? e = some inf) (hz : zeroOf P e = some zs) (h0 : inf.size ≠ 0) (hzl : zs.length = inf.size) (hkd : P.underlying tx = some (.slice e')) (hx : ev s.F (opd x) = some (.ref κ 0 n)) (hA : s.M κ = some (.arr A)) (hn : n ≤ A.rows.length) (hsz : A.sz = inf.size)
    (hy : ev s.F (opd y) = some (.ref κ2 off len)) (hA2 : s.M κ2 = some (.arr A2)) (hne : κ2 ≠ κ) (hle : off + len ≤ A2.rows.length) (hsz2 : A2.sz = inf.size) (h02 : True) (hsol : ∀ r ∈ (A2.rows.drop off).take len, ∀ t ∈ r, t.solid = true)
    (hb : (n + len) * inf.bytes ≤ 140737488355328) (h63 : n + len ≤ 9223372036854775807) (hd : dstOk nt o.dst) (hk : ¬ s.B k) :
    OpS P E nt o s (s.app o.dst ⟨.ref k 0 (n + len), [(k, some (.arr ⟨A.sz, A.rows.take n ++ (A2.rows.drop off).take len, 1, none⟩)), (κ, none), (κ2, some (.arr ⟨A2.sz, A2.rows.take off ++ junkR A2.sz len ++ A2.rows.drop (off + len), A2.ver + 1, A2.cap⟩))], [k]⟩) := by
  refine OpS.of hd fun g a w hs => ?_
  have hk2 : k ≠ κ2 := fun ee => hk (by rw [ee]; exact (hs.arrK hA2).2)
  have hk1 : k ≠ κ := fun ee => hk (by rw [ee]; exact (hs.arrK hA).2)
  obtain ⟨g1, news, N, hs1, hS, hrows2, hN⟩ := hs.partS (P := P) hkd hy hA2 hle hsz2 hsol
  have hml : ((A2.rows.drop off).take len).length = len := by simp; omega
  have h1 := ev_ok hs1 (o := x) (x := .ref κ 0 n) hx
  have hA1 : (fun x => if x = κ2 then some (Mem.arr ⟨A2.sz, A2.rows.take off ++ junkR A2.sz len ++ A2.rows.drop (off + len), A2.ver + 1, A2.cap⟩) else s.M x) κ = some (.arr A) := by simp only [if_neg (Ne.symm hne)]; exact hA
  obtain ⟨g', w', u, q1, q2, q3⟩ := app_at (P := P) (o := o) ho ha hty hu hi hz h0 hzl hs1 (by exact h1) hA1 hn hsz (rows := (A2.rows.drop off).take len) (ks := []) (N := N) (by rw [hml]; exact hS) hrows2 (fun _ h => by cases h) hN (by simp) (by rw [hml]; exact hb) (by rw [hml]; exact h63) (k := k) (fun h => by
    rcases h with h | h
    · exact hk2 h
    · exact hk h)
  rw [hml] at q2 q3
  refine ⟨g', w', u, q1, q2.memEq (funext fun y => ?_) (fun y => ?_), q3⟩
  · simp only [SF.app, look, List.map_cons, List.map_nil]
    by_cases e1 : y = k
    · simp [e1]
    · by_cases e2 : y = κ
      · simp only [e1, e2, if_true, if_false, if_neg (fun h : κ = k => e1 (e2.trans h))]
      · by_cases e3 : y = κ2
        · simp only [e1, e2, e3, if_true, if_false, if_neg (fun h : κ2 = k => e1 (e3.trans h)), if_neg (fun h : κ2 = κ => e2 (e3.trans h))]
        · simp only [e1, e2, e3, if_false]
  · simp only [SF.app, List.mem_singleton]
    constructor
    · rintro (h | h | h)
      · exact .inl h
      · exact .inr (by rw [h]; exact (hs.arrK hA2).2)
      · exact .inr h
    · rintro (h | h)
      · exact .inl h
      · exact .inr (.inr h)
end
section
variable {P : Program} {E : Env} {nt : Nat} {o : Oper} {s : SF}
theorem flat_ro {R : List (List T)} (h : ∀ r ∈ R, ∀ t ∈ r, t.flat = true) : roRows R = R := by
  unfold roRows
  conv => rhs; rw [← List.map_id R]
  refine List.map_congr_left fun r hr => ?_
  conv => rhs; rw [id, ← List.map_id r]
  refine List.map_congr_left fun t ht => ?_
  have := h r hr t ht
  cases t <;> simp_all [T.flat, T.ro]
theorem ref_cells {g : Gh} {a : Act} {w : World} (hs : Sim E nt s g a w) {κ off n : Nat} {A : Arr} {b cap : Nat} (hA : s.M κ = some (.arr A)) (hle : off + n ≤ A.rows.length) (h0 : A.rows.length ≠ 0) (hab : g.ab κ = some (some ⟨b, 0, none⟩, cap, A.sz)) (hc : ∀ r ∈ (A.rows.drop off).take n, ∀ t ∈ r, t.flat = true) :
    ∃ news : List Value, (∀ w' : World, w'.heap = w.heap → (Builtin.firstCells A.sz n (.slice (some ⟨b, off * A.sz, none⟩) n (cap - off))).run P w' = .ok news.toArray w') ∧
      (∀ (l c : Nat) (w' : World), w'.heap = w.heap → (Builtin.firstCells A.sz n (.slice (some ⟨b, off * A.sz, none⟩) l c)).run P w' = .ok news.toArray w') ∧ news.length = n * A.sz ∧ (∀ u ∈ news, u.oneCell' = true) ∧ OwRows w g.fz A.sz ((A.rows.drop off).take n) (fun _ => False) news := by
  obtain ⟨b', cap2, cur, el, hab2, hfp, hbb, hfit, hlc, hm, hrow⟩ := arr_base (hs.mem κ _ hA) h0
  rw [hab] at hab2
  cases hab2
  have hro : RoRows w (fun x => g.fz x ∨ g.fp κ x) A.sz A.rows (cur.toList.take (A.rows.length * A.sz)) := hrow.ro (fun b hb => .inl hb) (fun b _ hb => .inr hb.1)
  have hro2 := (RoRows.take_drop n (RoRows.take_drop off hro).2).1
  have hrl := hro2.length
  have hown := ro_ownR (fz := g.fz) (S := fun _ => False) hro2 (.inr hc)
  rw [flat_ro hc] at hown
  have hln : ((A.rows.drop off).take n).length = n := by simp; omega
  rw [hln] at hrl
  have hcells : ∀ (l c : Nat) (w' : World), w'.heap = w.heap → (Builtin.firstCells A.sz n (.slice (some ⟨b, off * A.sz, none⟩) l c)).run P w' = .ok (((cur.toList.take (A.rows.length * A.sz)).drop (off * A.sz)).take (n * A.sz)).toArray w' := by
    intro l c w' hw
    refine run_firstCells_some (P := P) w' A.sz n ⟨b, off * A.sz, none⟩ _ _ _ hrl fun j u hj => ?_
    rw [add_mk]
    rw [List.getElem?_take] at hj
    split at hj
    · rw [List.getElem?_drop, List.getElem?_take] at hj
      split at hj
      · simp only [World.cell?, hw, hbb]
        simpa using hj
      · cases hj
    · cases hj
  exact ⟨_, fun w' hw => hcells _ _ w' hw, hcells, hrl, hro2.one (fun r hr t ht => T.flat_solid (hc r hr t ht)), hown⟩
theorem op_cpyR {t tx e : TypeId} {x y : Operand} {args : Array Operand} {tys : Array TypeId} {sz κ off len κ2 off2 len2 : Nat} {A A2 : Arr} (ho : o.op = .call ⟨.builtin .copy, args, tys⟩) (ha : args.toList = [x, y]) (hty : tys.toList = [t, tx])
    (hu : P.underlying t = some (.slice e)) (hn : tySz P e = some sz) (hx : ev s.F (opd x) = some (.ref κ off len)) (hy : ev s.F (opd y) = some (.ref κ2 off2 len2)) (hA : s.M κ = some (.arr A)) (hA2 : s.M κ2 = some (.arr A2)) (hle : off + len ≤ A.rows.length) (hle2 : off2 + len2 ≤ A2.rows.length) (hsz : A.sz = sz) (hsz2 : A2.sz = sz) (h0 : len ≠ 0)
    (hc : cpRows (some (0, 0)) ((A2.rows.drop off2).take (min len len2))) (hd : dstOk nt o.dst) :
    OpS P E nt o s (s.app o.dst ⟨.int .i64 (min len len2 : Nat), [(κ, some (.arr ⟨A.sz, A.rows.take off ++ (A2.rows.drop off2).take (min len len2) ++ A.rows.drop (off + min len len2), A.ver + 1, A.cap⟩))], []⟩) := by
  have et : tys = #[t, tx] := by cases tys; simp_all
  have ea : args = #[x, y] := by cases args; simp_all
  subst et; subst ea; subst hsz
  refine OpS.of hd fun g a w hs => ?_
  have h1 := ev_ok hs hx
  simp only [VRep] at h1
  obtain ⟨base, cap, sz0, base', hab, hcap, hv, hb0, hbase⟩ := h1
  have h2 := ev_ok hs hy
  simp only [VRep] at h2
  obtain ⟨base2, cap2, sz2, base2', hab2, hcap2, hv2, hb02, hbase2⟩ := h2
  have hBl : ((A2.rows.drop off2).take (min len len2)).length = min len len2 := by simp; omega
  obtain ⟨news, hfc, hnl, hone, hown⟩ : ∃ news : List Value, (Builtin.firstCells A.sz (min len len2) (a.eval y)).run P w = .ok news.toArray w ∧ news.length = min len len2 * A.sz ∧ (∀ u ∈ news, u.oneCell' = true) ∧ OwRows w g.fz A.sz ((A2.rows.drop off2).take (min len len2)) (fun _ => False) news := by
    by_cases hl0 : min len len2 = 0
    · rw [hl0, List.take_zero]
      refine ⟨[], ?_, by simp, by simp, by simp only [OwRows]⟩
      obtain rfl : len2 = 0 := by omega
      rw [hv2]
      cases base2' with
      | none => exact run_firstCells_none w A.sz 0 0 _
      | some b => exact run_firstCells_some (P := P) w A.sz 0 b 0 _ [] (by simp) (by simp)
    · have hbb := hbase2 (by omega)
      obtain ⟨b, cap3, cur, el, hab3, _⟩ := arr_base (hs.mem κ2 _ hA2) (by omega)
      rw [hab2] at hab3
      cases hab3
      subst hbb
      obtain ⟨news, _, q2, q3, q4, q5⟩ := ref_cells (P := P) hs (off := off2) (n := min len len2) hA2 (by omega) (by omega) hab2 hc
      rw [hsz2] at q2 q3 q5
      refine ⟨news, ?_, q3, q4, q5⟩
      rw [hv2]
      simp only [Option.map_some, add_mk, Nat.zero_add, hsz2]
      exact q2 _ _ w rfl
  obtain ⟨b, cap3, w', g', hab3, hst, h', hab4⟩ := hs.splice (P := P) hA (p := off) (B := (A2.rows.drop off2).take (min len len2)) (by rw [hBl]; omega) (by omega) (news := news) (by rw [hBl]; exact hnl) hone
    (fun w' hs2 hf => hown.mono hs2 (fun c _ hc => ⟨hc, hf c hc⟩) (fun _ h => h) (fun _ h => h.elim))
  rw [hab] at hab3
  cases hab3
  have hb' := hbase h0
  subst hb'
  rw [hBl] at h'
  refine ⟨g', w', .int .i64 (min len len2 : Nat), .inl ?_, h'.memEq (app_in (fun _ => (hs.arrK hA).2) (by rw [hA]; simp)).1 (app_in (fun _ => (hs.arrK hA).2) (by rw [hA]; simp)).2, fun _ => by simp only [VRep]⟩
  have hs2 := hst (off * A.sz) rfl
  have hlo : ∀ w' : World, (Builtin.lenOf (a.eval y)).run P w' = .ok len2 w' := fun w' => by rw [hv2]; rfl
  unfold execOp
  rw [ho]; dsimp only
  have hadd : (⟨b, 0, none⟩ : Addr).add (off * A.sz) = ⟨b, off * A.sz, none⟩ := by rw [add_mk, Nat.zero_add]
  have hm : Nat.min len2 len = min len len2 := Nat.min_comm _ _
  simp only [resolve, invoke, builtin, Sem.run_bind, Sem.run_pure, Result.andThen_ok, List.map_toArray, List.map_cons, List.map_nil, hv, Option.map_some, hadd]
  simp [Builtin.copy_, run_underlying hu, hlo, run_sizeOf' hn, hm, hfc, hs2, goInt]
theorem zeroCells_flat (z : Array Value) (hz : z.size ≠ 0) (n : Nat) : (Builtin.zeroCells z n).toList = (List.replicate n z.toList).flatten := madeCells_flat z hz n
theorem op_apz {pt : List T} {t tx e : TypeId} {x y : Operand} {args : Array Operand} {tys : Array TypeId} {inf : TypeInfo} {zs : List V} {κ i key c : Nat} {kn ky : IntKind} {k : Int} {A : Arr} (ho : o.op = .call ⟨.builtin .append, args, tys⟩) (ha : args.toList = [x, y]) (hty : tys.toList = [t, tx])
    (hu : P.underlying t = some (.slice e)) (hi : P.info? e = some inf) (hz : zeroOf P e = some zs) (h0 : inf.size ≠ 0) (hzl : zs.length = inf.size) (hk : P.underlying tx = some (.int kn)) (hx : ev s.F (opd x) = some (.ref κ 0 i)) (hy : ev s.F (opd y) = some (.int ky k)) (hA : s.M κ = some (.arr A)) (hcc : A.cap = some c) (hle : i ≤ A.rows.length) (hne : A.rows.length ≠ 0) (hsz : A.sz = zs.length)
    (hk0 : 0 < k) (hlt : c < i + k.toNat) (hc : cpRows (some (0, 0)) (A.rows.take i)) (hb : (i + k.toNat) * inf.bytes ≤ 140737488355328) (h63 : i + k.toNat ≤ 9223372036854775807) (hd : dstOk nt o.dst) (hkey : ¬ s.B key) :
    OpS P E nt o s (s.app o.dst ⟨.ref key 0 (i + k.toNat), [(key, some (.arr ⟨zs.length, A.rows.take i ++ List.replicate k.toNat (zTs pt zs), 1, none⟩))], [key]⟩) := by
  obtain ⟨m, rfl⟩ : ∃ m : Nat, k = m := ⟨k.toNat, by omega⟩
  simp only [Int.toNat_natCast] at *
  have et : tys = #[t, tx] := by cases tys; simp_all
  have ea : args = #[x, y] := by cases args; simp_all
  subst et; subst ea
  refine OpS.of hd fun g a w hs => ?_
  have h1 := ev_ok hs hx
  simp only [VRep] at h1
  obtain ⟨base, cap, sz0, base', hab, hcap, hv, hb0, _⟩ := h1
  rw [hb0 trivial, Nat.sub_zero] at hv
  obtain ⟨base2, cap2, hab2, _, hown, hcc2⟩ := hs.mem κ _ hA
  rw [hab] at hab2
  cases hab2
  obtain rfl := hcc2 c hcc
  obtain ⟨b, cap3, cur, el, hab3, hfp, hbb, hfit, hlc, hm, hrow⟩ := arr_base (hs.mem κ _ hA) hne
  rw [hab] at hab3
  cases hab3
  have e2 := ev_ok hs hy
  simp only [VRep] at e2
  obtain ⟨iz, zv, hi', hzv, hrep⟩ := zeroOf_info hz
  rw [hi] at hi'
  cases hi'
  have hzl2 := (hrep w g).length
  simp only [Array.length_toList] at hzl2
  obtain ⟨olds, _, hfc, hol, hone, hro⟩ := ref_cells (P := P) hs (off := 0) (n := i) hA (by omega) hne hab (by rw [List.drop_zero]; exact hc)
  rw [List.drop_zero] at hro
  have hfc2 : (Builtin.firstCells inf.size i (.slice (some ⟨b, 0, none⟩) i c)).run P w.drew = .ok olds.toArray w.drew := by
    have := hfc i c w.drew rfl
    rw [Nat.zero_mul] at this
    rwa [show A.sz = inf.size by omega] at this
  have hm0 : 0 < m := by omega
  have hfits := growslice_fits (need := i + m) (old := c) (bytes := inf.bytes) (by omega) hb
  have hmb : m * inf.bytes ≤ 281474976710656 := by
    have : m * inf.bytes ≤ (i + m) * inf.bytes := Nat.mul_le_mul_right _ (by omega)
    omega
  have hr := Lib.run_append_grow_zeros (P := P) w t tx o.type e inf zv ky kn hu hk hi hzv (some ⟨b, 0, none⟩) i c olds hfc2 m hm0 (by omega) hlt (by omega) hmb hfits
  have hge := grownCap_ge w (i + m) c e
  have hcm : grownCap w (i + m) c e ≤ maxLen := grownCap_le_maxLen w (i + m) c e (by simp only [maxLen]; omega)
  have ez : zv.cells.size = zs.length := by omega
  have hlen : (A.rows.take i ++ List.replicate m (zTs pt zs)).length = i + m := by simp; omega
  obtain ⟨g', h', hxx, hab'⟩ := hs.newArr (w' := w.drew.alloc (.cells (olds.toArray ++ Builtin.zeroCells zv.cells m ++ Builtin.zeroCells zv.cells (grownCap w (i + m) c e - (i + m))) e)) (ks := []) (A := ⟨zs.length, A.rows.take i ++ List.replicate m (zTs pt zs), 1, none⟩) (cap := grownCap w (i + m) c e)
    (cur := olds.toArray ++ Builtin.zeroCells zv.cells m ++ Builtin.zeroCells zv.cells (grownCap w (i + m) c e - (i + m))) (e := e) hkey rfl (fun c hc => by cases hc) rfl rfl rfl (by simp) (fun b hb => heap_alloc_old w.drew _ hb) (heap_alloc_new w.drew _) (by rw [hlen]; exact hge) hcm (by
      have e6 : grownCap w (i + m) c e * zs.length = i * zs.length + m * zs.length + (grownCap w (i + m) c e - (i + m)) * zs.length := by
        rw [← Nat.add_mul, ← Nat.add_mul]; congr 1; omega
      simp only [Array.size_append, List.size_toArray, size_zeroCells, hol, hsz, ez]
      omega) (fun _ h => by cases h) (by
      have e5 : ((olds.toArray ++ Builtin.zeroCells zv.cells m ++ Builtin.zeroCells zv.cells (grownCap w (i + m) c e - (i + m))).toList.take ((A.rows.take i ++ List.replicate m (zTs pt zs)).length * zs.length)) = olds ++ (List.replicate m zv.cells.toList).flatten := by
        rw [hlen, Array.toList_append, Array.toList_append, zeroCells_flat _ (by omega) m]
        have hl2 : (olds ++ (List.replicate m zv.cells.toList).flatten).length = (i + m) * zs.length := by
          simp [hol, hsz, ez, Nat.add_mul]
        rw [List.take_append_of_le_length (by simp [hol, hsz, ez, Nat.add_mul]), List.take_of_length_le (by simp [hol, hsz, ez, Nat.add_mul])]
      show OwRows w g.fz zs.length (A.rows.take i ++ List.replicate m (zTs pt zs)) _ _
      rw [e5]
      rw [hsz] at hro
      have j := OwRows.join (fun x h1 h2 => h1) hro (zRows_ok (pt := pt) (fz := g.fz) (S := fun _ => False) (hrep w g) m)
      exact j.mono (Nat.le_refl _) (fun b hb hf => ⟨hf, rfl⟩) (fun b hb => by rcases hb with h | h <;> exact h.elim) (fun b _ hl => rfl))
  refine ⟨g', _, .slice (some ⟨w.heap.size, 0, none⟩) (i + m) (grownCap w (i + m) c e), .inl ?_, h'.memEq (app_new (ks := [])).1 (app_new (ks := [])).2, fun _ => ?_⟩
  · unfold execOp
    rw [ho]; dsimp only
    simp only [resolve, invoke, builtin, Sem.run_bind, Sem.run_pure, Result.andThen_ok, List.map_toArray, List.map_cons, List.map_nil, hv, e2, hr]
  · simp only [VRep]
    exact ⟨_, _, zs.length, _, hab', by omega, rfl, fun _ => rfl, fun _ => by simp [Addr.add]⟩
end
structure SOp where
  dst : Option Tmp
  op : AOp
  gd : Option (Tmp × Bool)
  lk : List Nat
  h : Nat
  key : Nat
  df : List T
  ug : List Nat
  rk : List Nat
  wk : List Nat
theorem not_memN {k : Nat} {l : List Nat} (h : memN k l = false) : k ∉ l := fun hm => by rw [memN_iff.2 hm] at h; cases h
def distN : List Nat → Bool
  | [] => true
  | k :: ks => !memN k ks && distN ks
theorem distN_nodup : ∀ {l : List Nat}, distN l = true → nodupK l = true
  | [], _ => rfl
  | k :: ks, h => by
    simp only [distN, Bool.and_eq_true, Bool.not_eq_true'] at h
    simp only [nodupK, Bool.and_eq_true, Bool.not_eq_true', List.contains_eq_mem, decide_eq_false_iff_not]
    exact ⟨not_memN h.1, distN_nodup h.2⟩
def delM (k : Nat) : List (Nat × Mem) → List (Nat × Mem)
  | [] => []
  | (a, m) :: l => if k = a then delM k l else (a, m) :: delM k l
theorem look_delM (k x : Nat) : ∀ l, look x (delM k l) = if x = k then none else look x l
  | [] => by simp [delM, look]
  | (a, m) :: l => by
    simp only [delM]
    by_cases h : k = a
    · subst h
      simp only [if_true, look_delM k x l, look]
      by_cases hx : x = k <;> simp [hx]
    · simp only [h, if_false, look, look_delM k x l]
      by_cases hx : x = k
      · subst hx; simp [h]
      · simp [hx]
def updM : List (Nat × Option Mem) → List (Nat × Mem) → List (Nat × Mem)
  | [], ms => ms
  | (k, some m) :: l, ms => (k, m) :: delM k (updM l ms)
  | (k, none) :: l, ms => delM k (updM l ms)
theorem look_updM (x : Nat) : ∀ (wm : List (Nat × Option Mem)) (ms : List (Nat × Mem)), look x (updM wm ms) = match look x wm with | some m => m | none => look x ms
  | [], ms => by simp [updM, look]
  | (k, some m) :: l, ms => by
    simp only [updM, look, look_delM, look_updM x l ms]
    by_cases h : x = k <;> simp [h]
  | (k, none) :: l, ms => by
    simp only [updM, look, look_delM, look_updM x l ms]
    by_cases h : x = k <;> simp [h]
def St.put (st : St) (d : Option Tmp) (x : V) : St :=
  match d with
  | some d => ⟨(d, x) :: st.fr, st.ms, st.bn⟩
  | none => st
def St.app (st : St) (d : Option Tmp) (e : Eff) : St :=
  match d with
  | some d => ⟨(d, e.val) :: st.fr, updM e.wm st.ms, e.nk ++ st.bn⟩
  | none => ⟨st.fr, updM e.wm st.ms, e.nk ++ st.bn⟩
theorem St.app_sf {E : Env} {nt : Nat} {g : Gh} {a : Act} {w : World} {st : St} {d : Option Tmp} {e : Eff} (h : Sim E nt (st.sf.app d e) g a w) : Sim E nt (st.app d e).sf g a w := by
  cases d with
  | none =>
    refine h.less (fun t x hx => by simpa [St.app, St.sf, SF.app, SF.put] using hx) (fun k m hm => ?_) (fun k hk => ?_)
    · simp only [St.app, St.sf, look_updM] at hm
      exact hm
    · simpa [St.app, St.sf, SF.app] using hk
  | some d =>
    refine h.less (fun t x hx => by simpa [St.app, St.sf, SF.app, SF.put, look] using hx) (fun k m hm => ?_) (fun k hk => ?_)
    · simp only [St.app, St.sf, look_updM] at hm
      exact hm
    · simpa [St.app, St.sf, SF.app] using hk
abbrev St.F (st : St) (t : Nat) : Option V := look t st.fr
abbrev St.M (st : St) (k : Nat) : Option Mem := look k st.ms
def V.un : V → V
  | .opt _ x => x
  | x => x
def V.gu (p : Prop) : V → Prop
  | .opt c _ => p → c = true
  | _ => True
def mergeU (t : Bool) : V → V → Option V
  | .bool p, .bool q => some (.bool (bif t then p else q))
  | .int k m, .int k' n => if k = k' then some (.int k (bif t then m else n)) else none
  | .str a, .str b => some (.str (bif t then a else b))
  | _, _ => none
def bytesR : List (List T) → Option (Prop × List UInt8)
  | [] => some (True, [])
  | r :: rs => match r, bytesR rs with
    | [.int .u8 n], some (p, l) => some ((0 ≤ n ∧ n ≤ 255) ∧ p, UInt8.ofNat n.toNat :: l)
    | _, _ => none
def valO (F : Nat → Option V) (M : Nat → Option Mem) (h : Nat) (df : List T) : AOp → Option (Prop × V)
  | .idx x i n => match ev F x, ev F i with
    | some (.sl dep sz rows), some (.int _ m) => some (liveD M dep ∧ sz = n ∧ 0 ≤ m ∧ m < rows.length, .rptr dep (rows.getD m.toNat df) 0)
    | _, _ => qO F M 0 (.idx x i n)
  | .load x n agg => match ev F x with
    | some (.eptr κ i j) => match M κ with
      | some (.arr A) => (partV (T.ownL (some (κ, A.ver)) (A.rows.getD i df)) j n agg).map fun v => (i < A.rows.length, v)
      | _ => none
    | _ => qO F M 0 (.load x n agg)
  | .pick c a b => match ev F c, ev F a, ev F b with
    | some (.bool t), some x, some y => match mergeU t x.un y.un with
      | some v => some (x.gu (t = true) ∧ y.gu (t = false), v)
      | none => qO F M h (.pick c a b)
    | _, _, _ => none
  | .cbs x => match ev F x with
    | some (.ref κ 0 len) => match M κ with
      | some (.arr A) => match bytesR A.rows with
        | some (p, l) => some (A.sz = 1 ∧ len = A.rows.length ∧ A.rows ≠ [] ∧ p, .str ⟨l.toArray⟩)
        | none => none
      | _ => none
    | _ => none
  | op => qO F M h op
def valE (F : Nat → Option V) (M : Nat → Option Mem) (h : Nat) (df : List T) (op : AOp) (K : Eff → Prop) : Prop :=
  match valO F M h df op with
  | some (p, v) => p ∧ K ⟨v, [], []⟩
  | none => False
def takeE (F : Nat → Option V) (M : Nat → Option Mem) (key : Nat) (df : List T) (x : Opd) (agg : Bool) (K : Eff → Prop) : Prop :=
  match ev F x with
  | some (.eptr κ i j) => match M κ with
    | some (.arr A) => agg = false ∧ i < A.rows.length ∧ match (A.rows.getD i df)[j]? with
      | some (.sl true sz rows) => K ⟨.ref key 0 rows.length, [(κ, some (.arr ⟨A.sz, A.rows.set i ((A.rows.getD i df).set j .junk), A.ver + 1, A.cap⟩)), (key, some (.arr ⟨sz, rows, 1, none⟩))], [key]⟩
      | _ => False
    | _ => False
  | _ => False
def takeHE (F : Nat → Option V) (M : Nat → Option Mem) (key : Nat) (df : List T) (x : Opd) (agg : Bool) (K : Eff → Prop) : Prop :=
  match ev F x with
  | some (.eptr κ i j) => match M κ with
    | some (.arr A) => agg = false ∧ i < A.rows.length ∧ match (A.rows.getD i df)[j]? with
      | some (.sl true sz rows) => K ⟨.hm κ (A.ver + 1) i j key rows.length, [(κ, some (.arr ⟨A.sz, A.rows.set i ((A.rows.getD i df).set j .junk), A.ver + 1, A.cap⟩)), (key, some (.arr ⟨sz, rows, 1, none⟩))], [key]⟩
      | _ => False
    | _ => False
  | _ => False
def storeE (F : Nat → Option V) (M : Nat → Option Mem) (df : List T) (ad va : Opd) (n : Nat) (K : Eff → Prop) : Prop :=
  match ev F ad, ev F va with
  | some (.vptr d j), some x => match M d with
    | some (.var cells) => x.cells.length = n ∧ x.cells.all V.scalar = true ∧ liveL M x.cells ∧ j + n ≤ cells.length ∧ K ⟨.undef, [(d, some (.var (cells.take j ++ x.cells ++ cells.drop (j + n))))], []⟩
    | _ => False
  | some (.eptr κ i j), some x => match M κ, toTs ((tm df).drop j) M x.cells with
    | some (.arr A), some (ts, ks) => i < A.rows.length ∧ distN ks = true ∧ memN κ ks = false ∧ x.cells.length = n ∧ x.cells.all V.scalar = true ∧ liveL M x.cells ∧ j + n ≤ A.sz ∧
        K ⟨.undef, (κ, some (.arr ⟨A.sz, A.rows.set i ((A.rows.getD i df).take j ++ ts ++ (A.rows.getD i df).drop (j + n)), A.ver + 1, A.cap⟩)) :: ks.map (fun k => (k, none)), []⟩
    | _, _ => False
  | _, _ => False
def storeBE (F : Nat → Option V) (M : Nat → Option Mem) (key : Nat) (df : List T) (ad va : Opd) (n : Nat) (K : Eff → Prop) : Prop :=
  match ev F ad, ev F va with
  | some (.vptr d j), some .nil => match M d with
    | some (.var cells) => n = 1 ∧ Nat.beq d key = false ∧ j + 1 ≤ cells.length ∧ K ⟨.undef, [(d, some (.var (cells.take j ++ .ref key 0 0 :: cells.drop (j + 1)))), (key, some (.arr ⟨(hdT (tm df)).esz, [], 1, none⟩))], [key]⟩
    | _ => False
  | _, _ => False
def storeAE (F : Nat → Option V) (M : Nat → Option Mem) (df : List T) (ug : List Nat) (ad va : Opd) (n : Nat) (K : Eff → Prop) : Prop :=
  match ev F ad, ev F va, ug with
  | some (.eptr κ i j), some x, [d] => match M κ, M d, toTs ((tm df).drop j) M x.cells with
    | some (.arr A), some (.var cells), some (ts, ks) => i < A.rows.length ∧ distN ks = true ∧ memN κ ks = false ∧ x.cells.length = n ∧ x.cells.all V.scalar = true ∧ liveL M x.cells ∧ j + n ≤ A.sz ∧ rePs M ks cells ∧
        K ⟨.undef, (κ, some (.arr ⟨A.sz, A.rows.set i ((A.rows.getD i df).take j ++ ts ++ (A.rows.getD i df).drop (j + n)), A.ver + 1, A.cap⟩)) :: (d, some (.var (reVs M κ (A.ver + 1) ks cells))) :: ks.map (fun k => (k, none)), []⟩
    | _, _, _ => False
  | _, _, _ => False
def bslE (F : Nat → Option V) (M : Nat → Option Mem) (df : List T) (key : Nat) (zs : List V) (len : Nat) (ps : List (Nat × Opd)) (K : Eff → Prop) : Prop :=
  match fillO F ((List.replicate len zs).flatten) (ps.map fun q => (q.1 * zs.length, zs.length, q.2)) with
  | some cells => match toTs ((List.replicate len (tm df)).flatten) M cells with
    | some (ts, ks) => liveO F M (ps.map (·.2)) ∧ distN ks = true ∧ K ⟨.ref key 0 len, (key, some (.arr ⟨zs.length, chunk zs.length len ts, 1, none⟩)) :: ks.map (fun k => (k, none)), [key]⟩
    | none => False
  | none => False
def srcE (F : Nat → Option V) (M : Nat → Option Mem) (h : Nat) (str : Bool) (y : Opd) (sz : Nat) (K : List (List T) → List Nat → Prop) : Prop :=
  match str, ev F y with
  | true, some (.str s) => sz = 1 ∧ K (s.data.toList.map encB) []
  | false, some .nil => K [] []
  | false, some (.sl dep sz' rows) => liveD M dep ∧ (sz' = sz ∨ rows = []) ∧ cpRows dep rows ∧ K (roRows rows) []
  | false, some (.ref κ off len) => match M κ with
    | some (.arr A) => A.sz = sz ∧ off + len ≤ A.rows.length ∧ match h, off with
      | 2, 0 => cpRows none (A.rows.take len) ∧ K (A.rows.take len) [κ]
      | _, _ => cpRows (some (0, 0)) ((A.rows.drop off).take len) ∧ K ((A.rows.drop off).take len) []
    | _ => False
  | _, _ => False
def appE (F : Nat → Option V) (M : Nat → Option Mem) (h key : Nat) (str : Bool) (x y : Opd) (sz bytes : Nat) (K : Eff → Prop) : Prop :=
  match ev F x with
  | some .nil => srcE F M h str y sz fun rows ks => rows.length * bytes ≤ 140737488355328 ∧ rows.length ≤ 9223372036854775807 ∧
      K ⟨.ref key 0 rows.length, (key, some (.arr ⟨sz, rows, 1, none⟩)) :: ks.map (fun k => (k, none)), [key]⟩
  | some (.ref κ 0 n) => match M κ with
    | some (.arr A) => n ≤ A.rows.length ∧ A.sz = sz ∧ srcE F M h str y sz fun rows ks => memN κ ks = false ∧ (n + rows.length) * bytes ≤ 140737488355328 ∧ n + rows.length ≤ 9223372036854775807 ∧
        K ⟨.ref key 0 (n + rows.length), (key, some (.arr ⟨A.sz, A.rows.take n ++ rows, 1, none⟩)) :: (κ :: ks).map (fun k => (k, none)), [key]⟩
    | _ => False
  | _ => False
def cpsE (F : Nat → Option V) (M : Nat → Option Mem) (y : Opd) (sz : Nat) (K : List (List T) → Prop) : Prop :=
  match ev F y with
  | some (.sl dep sz' rows) => liveD M dep ∧ sz' = sz ∧ cpRows dep rows ∧ K (roRows rows)
  | some (.ref κ off len) => match M κ with
    | some (.arr A) => A.sz = sz ∧ off + len ≤ A.rows.length ∧ cpRows (some (0, 0)) ((A.rows.drop off).take len) ∧ K ((A.rows.drop off).take len)
    | _ => False
  | _ => False
def cpyE (F : Nat → Option V) (M : Nat → Option Mem) (x y : Opd) (sz : Nat) (K : Eff → Prop) : Prop :=
  match ev F x with
  | some (.ref κ off len) => match M κ with
    | some (.arr A) => off + len ≤ A.rows.length ∧ A.sz = sz ∧ len ≠ 0 ∧ cpsE F M y sz fun rows => K ⟨.int .i64 (min len rows.length : Nat), [(κ, some (.arr ⟨A.sz, A.rows.take off ++ rows.take (min len rows.length) ++ A.rows.drop (off + min len rows.length), A.ver + 1, A.cap⟩))], []⟩
    | _ => False
  | _ => False
def cpyRE (F : Nat → Option V) (M : Nat → Option Mem) (x y : Opd) (sz : Nat) (K : Eff → Prop) : Prop :=
  match ev F x, ev F y with
  | some (.ref κ off len), some (.ref κ2 off2 len2) => match M κ, M κ2 with
    | some (.arr A), some (.arr A2) => off + len ≤ A.rows.length ∧ off2 + len2 ≤ A2.rows.length ∧ A.sz = sz ∧ A2.sz = sz ∧ len ≠ 0 ∧ cpRows (some (0, 0)) ((A2.rows.drop off2).take (min len len2)) ∧
        K ⟨.int .i64 (min len len2 : Nat), [(κ, some (.arr ⟨A.sz, A.rows.take off ++ (A2.rows.drop off2).take (min len len2) ++ A.rows.drop (off + min len len2), A.ver + 1, A.cap⟩))], []⟩
    | _, _ => False
  | _, _ => False
def apzE (F : Nat → Option V) (M : Nat → Option Mem) (df : List T) (key : Nat) (x y : Opd) (zs : List V) (bytes : Nat) (K : Eff → Prop) : Prop :=
  match ev F x, ev F y with
  | some (.ref κ 0 i), some (.int _ k) => match M κ with
    | some (.arr A) => match A.cap with
      | some c => i ≤ A.rows.length ∧ A.rows.length ≠ 0 ∧ A.sz = zs.length ∧ 0 < k ∧ c < i + k.toNat ∧ cpRows (some (0, 0)) (A.rows.take i) ∧ (i + k.toNat) * bytes ≤ 140737488355328 ∧ i + k.toNat ≤ 9223372036854775807 ∧
          K ⟨.ref key 0 (i + k.toNat), [(key, some (.arr ⟨zs.length, A.rows.take i ++ List.replicate k.toNat (zTs (tm df) zs), 1, none⟩))], [key]⟩
      | none => False
    | _ => False
  | _, _ => False
def clrE (F : Nat → Option V) (M : Nat → Option Mem) (df : List T) (dst : Option Tmp) (x : Opd) (zs : List V) (K : Eff → Prop) : Prop :=
  match ev F x, dst with
  | some (.ref κ off len), none => match M κ with
    | some (.arr A) => off + len ≤ A.rows.length ∧ A.sz = zs.length ∧ len ≠ 0 ∧ zs.length ≠ 0 ∧ zs.all V.scalar = true ∧ liveL M zs ∧ K ⟨.undef, [(κ, some (.arr ⟨A.sz, A.rows.take off ++ List.replicate len (zTs (tm df) zs) ++ A.rows.drop (off + len), A.ver + 1, A.cap⟩))], []⟩
    | _ => False
  | _, _ => False
def apsE (F : Nat → Option V) (M : Nat → Option Mem) (x y : Opd) (sz : Nat) (K : Eff → Prop) : Prop :=
  match ev F x, ev F y with
  | some (.ref κ 0 i), some (.ref κ' j len) => match M κ with
    | some (.arr A) => κ' = κ ∧ i ≤ j ∧ j + len = A.rows.length ∧ A.sz = sz ∧ A.rows.length ≠ 0 ∧ cpRows none (A.rows.drop j) ∧ K ⟨.ref κ 0 (i + len), [(κ, some (.arr ⟨A.sz, A.rows.take i ++ A.rows.drop j ++ junkR A.sz (j - i), A.ver + 1, A.cap⟩))], []⟩
    | _ => False
  | _, _ => False
def appPE (F : Nat → Option V) (M : Nat → Option Mem) (key : Nat) (x y : Opd) (sz bytes : Nat) (K : Eff → Prop) : Prop :=
  match ev F x, ev F y with
  | some (.ref κ 0 n), some (.ref κ2 off len) => match M κ, M κ2 with
    | some (.arr A), some (.arr A2) => Nat.beq κ2 κ = false ∧ n ≤ A.rows.length ∧ A.sz = sz ∧ A2.sz = sz ∧ off + len ≤ A2.rows.length ∧ True ∧ cpRows none ((A2.rows.drop off).take len) ∧ (n + len) * bytes ≤ 140737488355328 ∧ n + len ≤ 9223372036854775807 ∧
        K ⟨.ref key 0 (n + len), [(key, some (.arr ⟨A.sz, A.rows.take n ++ (A2.rows.drop off).take len, 1, none⟩)), (κ, none), (κ2, some (.arr ⟨A2.sz, A2.rows.take off ++ junkR A2.sz len ++ A2.rows.drop (off + len), A2.ver + 1, A2.cap⟩))], [key]⟩
    | _, _ => False
  | _, _ => False
def mksE (F : Nat → Option V) (df : List T) (key : Nat) (l c : Opd) (zs : List V) (bytes : Nat) (K : Eff → Prop) : Prop :=
  match ev F l, ev F c with
  | some (.int _ l), some (.int _ c) => 0 ≤ l ∧ l ≤ c ∧ c * bytes ≤ 281474976710656 ∧ c ≤ 9223372036854775807 ∧ K ⟨.ref key 0 l.toNat, [(key, some (.arr ⟨zs.length, List.replicate l.toNat (zTs (tm df) zs), 1, none⟩))], [key]⟩
  | _, _ => False
def boxE (F : Nat → Option V) (M : Nat → Option Mem) (key : Nat) (x : Opd) (K : Eff → Prop) : Prop :=
  match ev F x with
  | some x => x.cells.all V.scalar = true ∧ liveL M x.cells ∧ K ⟨.vptr key 0, [(key, some (.var x.cells))], [key]⟩
  | none => False
def flatBut (q : Nat) (r : List T) : Bool := (r.take q).all T.flat && (r.drop (q + 1)).all T.flat
def takeVE (F : Nat → Option V) (M : Nat → Option Mem) (key : Nat) (df : List T) (q : List Nat) (x : Opd) (n : Nat) (agg : Bool) (K : Eff → Prop) : Prop :=
  match ev F x, q with
  | some (.eptr κ i 0), [q] => match M κ with
    | some (.arr A) => agg = true ∧ n = A.sz ∧ i < A.rows.length ∧ flatBut q (A.rows.getD i df) = true ∧ match (A.rows.getD i df)[q]? with
      | some (.sl true sz rows) => ∀ v, K ⟨.agg ((T.toVL none (A.rows.getD i df)).set q (.hv key rows.length v)), [(κ, some (.arr ⟨A.sz, A.rows.set i ((A.rows.getD i df).set q (.val v)), A.ver + 1, A.cap⟩)), (key, some (.arr ⟨sz, rows, 1, none⟩))], [key]⟩
      | _ => False
    | _ => False
  | _, _ => False
def bornL (k : Nat) (pt : List T) : List V → List V × List (Nat × Option Mem) × List Nat
  | [] => ([], [], [])
  | .nil :: xs => (.ref k 0 0 :: (bornL (k + 1) (tlT pt) xs).1, (k, some (.arr ⟨(hdT pt).esz, [], 1, none⟩)) :: (bornL (k + 1) (tlT pt) xs).2.1, k :: (bornL (k + 1) (tlT pt) xs).2.2)
  | x :: xs => (x :: (bornL (k + 1) (tlT pt) xs).1, (bornL (k + 1) (tlT pt) xs).2.1, (bornL (k + 1) (tlT pt) xs).2.2)
def bornE (F : Nat → Option V) (M : Nat → Option Mem) (key : Nat) (df : List T) (op : AOp) (K : Eff → Prop) : Prop :=
  match valO F M 0 df op with
  | some (p, .agg cells) => p ∧ K ⟨.agg (bornL key (tm df) cells).1, (bornL key (tm df) cells).2.1, (bornL key (tm df) cells).2.2⟩
  | some (p, .nil) => p ∧ K ⟨.ref key 0 0, [(key, some (.arr ⟨(hdT (tm df)).esz, [], 1, none⟩))], [key]⟩
  | _ => False
section
variable {P : Program} {op : Op}
set_option maxHeartbeats 1000000 in
theorem cmp_idx {x i : Opd} {n : Nat} (h : cmp P op = .idx x i n) : ∃ t a b e, op = .indexAddr t a b ∧ P.underlying t = some (.slice e) ∧ tySz P e = some n ∧ x = opd a ∧ i = opd b := by
  unfold cmp cmpBuiltin at h
  repeat' split at h
  all_goals first
    | (simp only [AOp.idx.injEq] at h; obtain ⟨rfl, rfl, rfl⟩ := h; exact ⟨_, _, _, _, rfl, by assumption, by assumption, rfl, rfl⟩)
    | (exact absurd h (by simp))
set_option maxHeartbeats 1000000 in
theorem cmp_load {x : Opd} {n : Nat} {b : Bool} (h : cmp P op = .load x n b) : ∃ t a, op = .load t a ∧ tySz P t = some n ∧ isAggT P t = some b ∧ x = opd a := by
  unfold cmp cmpBuiltin at h
  repeat' split at h
  all_goals first
    | (simp only [AOp.load.injEq] at h; obtain ⟨rfl, rfl, rfl⟩ := h; exact ⟨_, _, rfl, by assumption, by assumption, rfl⟩)
    | (exact absurd h (by simp))
set_option maxHeartbeats 1000000 in
theorem cmp_store {x v : Opd} {n : Nat} (h : cmp P op = .store x v n) : ∃ t a b, op = .store t a b ∧ tySz P t = some n ∧ x = opd a ∧ v = opd b := by
  unfold cmp cmpBuiltin at h
  repeat' split at h
  all_goals first
    | (simp only [AOp.store.injEq] at h; obtain ⟨rfl, rfl, rfl⟩ := h; exact ⟨_, _, _, rfl, by assumption, rfl, rfl⟩)
    | (exact absurd h (by simp))
theorem slEl_some {t e : TypeId} (h : slEl P t = some e) : P.underlying t = some (.slice e) := by
  unfold slEl at h
  split at h
  · cases h; assumption
  · cases h
set_option maxHeartbeats 1000000 in
theorem cmp_bsl {zs : List V} {len : Nat} {ps : List (Nat × Opd)} (h : cmp P op = .bsl zs len ps) : ∃ t e parts n, op = .buildSlice t len parts ∧ P.underlying t = some (.slice e) ∧ zeroOf P e = some zs ∧ tySz P e = some n ∧ n ≠ 0 ∧ len * n ≤ 16777216 ∧ zs.length = n ∧ ps = parts.toList.map fun p => (p.1, opd p.2) := by
  unfold cmp cmpBuiltin at h
  repeat' split at h
  all_goals first
    | (rename_i hs _ _ hz hn hc
       simp only [AOp.bsl.injEq] at h; obtain ⟨rfl, rfl, rfl⟩ := h
       simp only [not_or, Decidable.not_not] at hc
       exact ⟨_, _, _, _, rfl, slEl_some (by assumption), by assumption, by assumption, hc.1, by omega, hc.2.2, rfl⟩)
    | (exact absurd h (by simp))
set_option maxHeartbeats 1000000 in
theorem cmp_mks {l c : Opd} {zs : List V} {b : Nat} (h : cmp P op = .mks l c zs b) : ∃ t e lo co inf, op = .makeSlice t lo co ∧ P.underlying t = some (.slice e) ∧ zeroOf P e = some zs ∧ P.info? e = some inf ∧ inf.size ≠ 0 ∧ zs.length = inf.size ∧ b = inf.bytes ∧ l = opd lo ∧ c = opd co := by
  unfold cmp cmpBuiltin at h
  repeat' split at h
  all_goals first
    | (rename_i hc
       simp only [AOp.mks.injEq] at h; obtain ⟨rfl, rfl, rfl, rfl⟩ := h
       simp only [not_or, Decidable.not_not] at hc
       exact ⟨_, _, _, _, _, rfl, slEl_some (by assumption), by assumption, by assumption, hc.1, hc.2, rfl, rfl, rfl⟩)
    | (exact absurd h (by simp))
set_option maxHeartbeats 1000000 in
theorem cmp_box {x : Opd} (h : cmp P op = .box x) : ∃ t a, op = .box t a ∧ x = opd a := by
  unfold cmp cmpBuiltin at h
  repeat' split at h
  all_goals first
    | (simp only [AOp.box.injEq] at h; exact ⟨_, _, rfl, h.symm⟩)
    | (exact absurd h (by simp))
set_option maxHeartbeats 1000000 in
theorem cmp_alloc {zs : List V} (h : cmp P op = .alloc zs) : ∃ t, op = .alloc t ∧ zeroOf P t = some zs := by
  unfold cmp cmpBuiltin at h
  repeat' split at h
  all_goals first
    | (simp only [AOp.alloc.injEq] at h; subst h; exact ⟨_, rfl, by assumption⟩)
    | (exact absurd h (by simp))
set_option maxHeartbeats 2000000 in
theorem cmp_app {str : Bool} {x y : Opd} {sz b : Nat} (h : cmp P op = .app str x y sz b) : ∃ args tys a c t tx e inf zs, op = .call ⟨.builtin .append, args, tys⟩ ∧ args.toList = [a, c] ∧ tys.toList = [t, tx] ∧ P.underlying t = some (.slice e) ∧ P.info? e = some inf ∧ zeroOf P e = some zs ∧ inf.size ≠ 0 ∧ zs.length = inf.size ∧
    ((str = true ∧ P.underlying tx = some .string) ∨ (str = false ∧ ∃ e', P.underlying tx = some (.slice e'))) ∧ x = opd a ∧ y = opd c ∧ sz = inf.size ∧ b = inf.bytes := by
  unfold cmp at h
  repeat' split at h
  all_goals try (exact absurd h (by simp))
  unfold cmpBuiltin at h
  split at h
  case h_7 =>
    rename_i ha ht
    split at h
    · rename_i e he
      split at h
      · rename_i inf zs e' h1 h2 h3
        split at h
        · exact absurd h (by simp)
        · rename_i hc
          simp only [AOp.app.injEq] at h
          obtain ⟨rfl, rfl, rfl, rfl, rfl⟩ := h
          simp only [not_or, Decidable.not_not] at hc
          exact ⟨_, _, _, _, _, _, _, _, _, rfl, ha, ht, slEl_some he, h1, h2, hc.1, hc.2.1, .inr ⟨rfl, _, h3⟩, rfl, rfl, rfl, rfl⟩
      · split at h <;> exact absurd h (by simp)
      · rename_i inf zs h1 h2 h3
        split at h
        · exact absurd h (by simp)
        · rename_i hc
          simp only [AOp.app.injEq] at h
          obtain ⟨rfl, rfl, rfl, rfl, rfl⟩ := h
          simp only [not_or, Decidable.not_not] at hc
          exact ⟨_, _, _, _, _, _, _, _, _, rfl, ha, ht, slEl_some he, h1, h2, by omega, by omega, .inl ⟨rfl, h3⟩, rfl, rfl, rfl, rfl⟩
      · exact absurd h (by simp)
    · exact absurd h (by simp)
  all_goals
    repeat' split at h
    all_goals (exact absurd h (by simp))
set_option maxHeartbeats 2000000 in
theorem cmp_apz {x y : Opd} {zs : List V} {b : Nat} (h : cmp P op = .apz x y zs b) : ∃ args tys a c t tx e inf kn, op = .call ⟨.builtin .append, args, tys⟩ ∧ args.toList = [a, c] ∧ tys.toList = [t, tx] ∧ P.underlying t = some (.slice e) ∧ P.info? e = some inf ∧ zeroOf P e = some zs ∧ inf.size ≠ 0 ∧ zs.length = inf.size ∧ P.underlying tx = some (.int kn) ∧ x = opd a ∧ y = opd c ∧ b = inf.bytes := by
  unfold cmp at h
  repeat' split at h
  all_goals try (exact absurd h (by simp))
  unfold cmpBuiltin at h
  split at h
  case h_7 =>
    rename_i ha ht
    split at h
    · rename_i e he
      split at h
      · split at h <;> exact absurd h (by simp)
      · rename_i inf zs k h1 h2 h3
        split at h
        · exact absurd h (by simp)
        · rename_i hc
          simp only [AOp.apz.injEq] at h
          obtain ⟨rfl, rfl, rfl, rfl⟩ := h
          simp only [not_or, Decidable.not_not] at hc
          exact ⟨_, _, _, _, _, _, _, _, _, rfl, ha, ht, slEl_some he, h1, h2, hc.1, hc.2, h3, rfl, rfl, rfl⟩
      · split at h <;> exact absurd h (by simp)
      · exact absurd h (by simp)
    · exact absurd h (by simp)
  all_goals
    repeat' split at h
    all_goals (exact absurd h (by simp))
set_option maxHeartbeats 2000000 in
theorem cmp_cpy {x y : Opd} {sz : Nat} (h : cmp P op = .cpy false x y sz) : ∃ args tys a c t tx e, op = .call ⟨.builtin .copy, args, tys⟩ ∧ args.toList = [a, c] ∧ tys.toList = [t, tx] ∧ P.underlying t = some (.slice e) ∧ tySz P e = some sz ∧ x = opd a ∧ y = opd c := by
  unfold cmp at h
  repeat' split at h
  all_goals try (exact absurd h (by simp))
  unfold cmpBuiltin at h
  split at h
  case h_8 =>
    rename_i ha ht
    split at h
    · rename_i e he
      split at h
      · rename_i e' n h1 h2
        split at h
        · exact absurd h (by simp)
        · simp only [AOp.cpy.injEq] at h
          obtain ⟨_, rfl, rfl, rfl⟩ := h
          exact ⟨_, _, _, _, _, _, _, rfl, ha, ht, slEl_some he, h2, rfl, rfl⟩
      · split at h <;> exact absurd h (by simp)
      · exact absurd h (by simp)
    · exact absurd h (by simp)
  all_goals
    repeat' split at h
    all_goals (exact absurd h (by simp))
set_option maxHeartbeats 2000000 in
theorem cmp_clr {x : Opd} {zs : List V} (h : cmp P op = .clr x zs) : ∃ args tys a t e, op = .call ⟨.builtin .clear, args, tys⟩ ∧ args.toList = [a] ∧ tys.toList = [t] ∧ P.underlying t = some (.slice e) ∧ zeroOf P e = some zs ∧ tySz P e = some zs.length ∧ x = opd a := by
  unfold cmp at h
  repeat' split at h
  all_goals try (exact absurd h (by simp))
  unfold cmpBuiltin at h
  split at h
  case h_9 =>
    rename_i ha ht
    split at h
    · rename_i e he
      split at h
      · rename_i zs' n h1 h2
        split at h
        · exact absurd h (by simp)
        · rename_i hc
          simp only [AOp.clr.injEq] at h
          obtain ⟨rfl, rfl⟩ := h
          simp only [not_or, Decidable.not_not] at hc
          exact ⟨_, _, _, _, _, rfl, ha, ht, slEl_some he, h1, by rw [h2, hc.2], rfl⟩
      · exact absurd h (by simp)
    · exact absurd h (by simp)
  all_goals
    repeat' split at h
    all_goals (exact absurd h (by simp))
set_option maxHeartbeats 1000000 in
theorem cmp_call {f : Opd} {l : List (Opd × Option Nat)} (h : cmp P op = .call f l) : ∃ fo args tys, op = .call ⟨.value fo, args, tys⟩ ∧ argL P args.toList tys.toList = some l ∧ f = opd fo := by
  unfold cmp cmpBuiltin at h
  repeat' split at h
  all_goals first
    | (simp only [AOp.call.injEq] at h; obtain ⟨rfl, rfl⟩ := h; exact ⟨_, _, _, rfl, by assumption, rfl⟩)
    | (exact absurd h (by simp))
end
def Sub (F : Nat → Option V) (M : Nat → Option Mem) (s : SF) : Prop := (∀ t x, F t = some x → s.F t = some x) ∧ ∀ k m, M k = some m → s.M k = some m
def EffS (P : Program) (E : Env) (nt : Nat) (o : Oper) (F : Nat → Option V) (M : Nat → Option Mem) (e : Eff) : Prop :=
  ∀ s : SF, Sub F M s → (∀ k ∈ e.nk, ¬ s.B k) → OpS P E nt o s (s.app o.dst e)
def EffW (P : Program) (E : Env) (nt : Nat) (o : Oper) (F : Nat → Option V) (M : Nat → Option Mem) (K : Eff → Prop) : Prop := ∃ e, K e ∧ EffS P E nt o F M e
section
variable {F : Nat → Option V} {M : Nat → Option Mem} {s : SF}
theorem Sub.ev (h : Sub F M s) {o : Opd} {x : V} (hx : H.ev F o = some x) : H.ev s.F o = some x := by
  cases o <;> simp only [H.ev] at hx ⊢ <;> first | exact h.1 _ _ hx | exact hx
theorem Sub.fillO (h : Sub F M s) : ∀ {l : List (Nat × Nat × Opd)} {cells out : List V}, H.fillO F cells l = some out → H.fillO s.F cells l = some out
  | [], cells, out, hx => by simpa only [H.fillO] using hx
  | (off, n, o) :: l, cells, out, hx => by
    simp only [H.fillO] at hx ⊢
    split at hx
    · rename_i x h1
      rw [h.ev h1]
      simp only
      split at hx
      · rename_i hc
        rw [if_pos hc]
        exact h.fillO hx
      · cases hx
    · cases hx
theorem Sub.toT0 (h : Sub F M s) {pt : T} {x : V} {r : T × List Nat} (hx : x.toT0 pt M = some r) : x.toT0 pt s.M = some r := by
  unfold V.toT0 at hx
  split at hx
  case h_7 | h_8 =>
    split at hx
    · rename_i A hA
      simp only [V.toT0, h.2 _ _ hA]
      exact hx
    · cases hx
  all_goals first
    | (cases hx; rfl)
    | (exact absurd hx (by simp))
theorem Sub.toT (h : Sub F M s) {pt : T} {x : V} {r : T × List Nat} (hx : x.toT pt M = some r) : x.toT pt s.M = some r := by
  unfold V.toT at hx ⊢
  split at hx
  · exact hx
  · exact hx
  · exact h.toT0 hx
theorem Sub.toTs (h : Sub F M s) : ∀ {pt : List T} {xs : List V} {r : List T × List Nat}, H.toTs pt M xs = some r → H.toTs pt s.M xs = some r
  | _, [], r, hx => by simpa only [H.toTs] using hx
  | pt, x :: xs, r, hx => by
    simp only [H.toTs] at hx ⊢
    split at hx
    · rename_i t a ts b h1 h2
      rw [h.toT h1, h.toTs h2]
      exact hx
    · cases hx
theorem Sub.liveD (h : Sub F M s) {d : Dep} (hx : H.liveD M d) : H.liveD s.M d := by
  cases d with
  | none => trivial
  | some kn =>
    obtain ⟨κ, n⟩ := kn
    simp only [H.liveD] at hx ⊢
    split at hx
    · rename_i A hA
      rw [h.2 _ _ hA]
      exact hx
    · exact hx.elim
theorem Sub.liveV (h : Sub F M s) {x : V} (hx : H.liveV M x) : H.liveV s.M x := by
  cases x <;> simp only [H.liveV] at hx ⊢ <;> exact h.liveD hx
theorem Sub.liveL (h : Sub F M s) : ∀ {xs : List V}, H.liveL M xs → H.liveL s.M xs
  | [], _ => trivial
  | x :: xs, hx => ⟨h.liveV hx.1, h.liveL hx.2⟩
theorem Sub.liveO (h : Sub F M s) {ps : List (Nat × Nat × Opd)} {cells out : List V} (hf : H.fillO F cells ps = some out) : H.liveO F M (ps.map (·.2.2)) → H.liveO s.F s.M (ps.map (·.2.2)) := by
  induction ps generalizing cells with
  | nil => intro _; trivial
  | cons p ps ih =>
    obtain ⟨off, n, o⟩ := p
    intro hx
    simp only [H.fillO] at hf
    split at hf
    · rename_i x h1
      split at hf
      · simp only [List.map_cons, H.liveO, h1, h.ev h1] at hx ⊢
        exact ⟨h.liveL hx.1, ih hf hx.2⟩
      · cases hf
    · cases hf
theorem Sub.quiet {P : Program} {E : Env} {nt : Nat} {o : Oper} {v : V} (h : Sub F M s) (hq : Quiet P E nt o ⟨F, M, s.B⟩ v) : Quiet P E nt o s v :=
  fun g a w hs => hq g a w (hs.less h.1 h.2 fun _ hk => hk)
theorem Sub.loc {P : Program} {E : Env} {nt : Nat} {o : Oper} {v : V} (hd : dstOk nt o.dst) (hq : ∀ B, Quiet P E nt o ⟨F, M, B⟩ v) : EffS P E nt o F M ⟨v, [], []⟩ :=
  fun s h _ => (h.quiet (hq s.B)).op hd
end
theorem un_gu {w : World} {g : Gh} {p : Prop} {x : V} {v : Value} (h : VRep w g x v) (hp : p) (hg : x.gu p) : VRep w g x.un v := by
  cases x with
  | opt c y =>
    simp only [VRep] at h
    exact h.1 (hg hp)
  | _ => exact h
theorem mergeU_ok {w : World} {g : Gh} {t : Bool} {x y v : V} {u z : Value} (hm : mergeU t x y = some v) (hx : t = true → VRep w g x u) (hy : t = false → VRep w g y z) : VRep w g v (if t then u else z) := by
  unfold mergeU at hm
  split at hm
  · cases hm; cases t <;> simp_all [VRep]
  · split at hm
    · rename_i e; subst e; cases hm; cases t <;> simp_all [VRep]
    · cases hm
  · cases hm; cases t <;> simp_all [VRep]
  · cases hm
section
variable {P : Program} {E : Env} {nt : Nat} {o : Oper} {s : SF} {h : Nat} {p : Prop} {v : V}
theorem q_pick2 {c x y : Operand} {t : Bool} {xv yv : V} (ho : o.op = .pick c x y) (hc : ev s.F (opd c) = some (.bool t)) (hx : ev s.F (opd x) = some xv) (hy : ev s.F (opd y) = some yv) (hm : mergeU t xv.un yv.un = some v) (h1 : xv.gu (t = true)) (h2 : yv.gu (t = false)) : Quiet P E nt o s v := by
  intro g a w hs
  have hct := ev_ok hs hc
  simp only [VRep] at hct
  refine ⟨if t then a.eval x else a.eval y, ?_, mergeU_ok hm (fun e => un_gu (ev_ok hs hx) e h1) (fun e => un_gu (ev_ok hs hy) e h2)⟩
  unfold execOp
  rw [ho]
  dsimp only
  simp only [hct]
  cases t <;> rfl
variable {F : Nat → Option V} {M : Nat → Option Mem} {K : Eff → Prop} {df : List T}
theorem cmp_pick {op : Op} {c x y : Opd} (h : cmp P op = .pick c x y) : ∃ a b d, op = .pick a b d ∧ c = opd a ∧ x = opd b ∧ y = opd d := by
  unfold cmp cmpBuiltin at h
  repeat' split at h
  all_goals first
    | (simp only [AOp.pick.injEq] at h; obtain ⟨rfl, rfl, rfl⟩ := h; exact ⟨_, _, _, rfl, rfl, rfl, rfl⟩)
    | (exact absurd h (by simp))
theorem cmp_cbs {op : Op} {x : Opd} (h : cmp P op = .cbs x) : ∃ ts td e a, op = .convert ts td a ∧ P.underlying ts = some (.slice e) ∧ isU8 P e = true ∧ P.underlying td = some .string ∧ x = opd a := by
  unfold cmp cmpBuiltin at h
  repeat' split at h
  all_goals first
    | (simp only [AOp.cbs.injEq] at h; subst h; exact ⟨_, _, _, _, rfl, by assumption, by assumption, by assumption, rfl⟩)
    | (exact absurd h (by simp))
theorem isU8_ok {t : TypeId} (h : isU8 P t = true) : P.underlying t = some (.int .u8) := by
  unfold isU8 at h
  split at h
  · assumption
  · cases h
theorem bytesR_ok {w : World} {ok : Nat → Prop} : ∀ {rows : List (List T)} {xs : List Value} {p : Prop} {l : List UInt8}, RoRows w ok 1 rows xs → bytesR rows = some (p, l) → p → xs = l.map fun b => Value.int .u8 (b.toNat : Int)
  | [], xs, p, l, hr, hb, hp => by
    simp only [bytesR, Option.some.injEq, Prod.mk.injEq] at hb
    obtain ⟨_, rfl⟩ := hb
    simpa only [RoRows, List.map_nil] using hr
  | r :: rs, xs, p, l, hr, hb, hp => by
    simp only [bytesR] at hb
    split at hb
    · rename_i n p2 l2 h2
      simp only [Option.some.injEq, Prod.mk.injEq] at hb
      obtain ⟨rfl, rfl⟩ := hb
      simp only [RoRows, RoL, RoT] at hr
      obtain ⟨c, d, rfl, _, ⟨u, us, rfl, rfl, rfl⟩, h3⟩ := hr
      rw [bytesR_ok h3 h2 hp.2]
      obtain ⟨⟨q1, q2⟩, _⟩ := hp
      have e : ((UInt8.ofNat n.toNat).toNat : Int) = n := by
        rw [UInt8.toNat_ofNat']
        omega
      simp only [List.map_cons, List.cons_append, List.nil_append, e]
    · cases hb
theorem q_cbs {ts td el : TypeId} {x : Operand} {κ len : Nat} {A : Arr} {l : List UInt8} (ho : o.op = .convert ts td x) (h1 : P.underlying ts = some (.slice el)) (h2 : P.underlying el = some (.int .u8)) (h3 : P.underlying td = some .string) (hx : ev s.F (opd x) = some (.ref κ 0 len)) (hA : s.M κ = some (.arr A)) (hs1 : A.sz = 1) (hl : len = A.rows.length) (hne : A.rows ≠ []) (hb : bytesR A.rows = some (p, l)) (hp : p) : Quiet P E nt o s (.str ⟨l.toArray⟩) := by
  intro g a w hs
  have hxe := ev_ok hs hx
  simp only [VRep] at hxe
  obtain ⟨base, cap, sz, base', hab, hcap, hv, hb0, _⟩ := hxe
  obtain ⟨base2, cap2, hab2, _, hown, _⟩ := hs.mem κ _ hA
  rw [hab] at hab2
  cases hab2
  obtain rfl := hb0 trivial
  have hro : RoT w (fun _ => True) (.sl true A.sz A.rows) (.slice base' A.rows.length cap) := hown.ro (fun _ _ => trivial) fun _ _ _ => trivial
  simp only [RoT] at hro
  obtain ⟨base3, cap3, xs, e3, _, _, hrow, hcell⟩ := hro
  simp only [Value.slice.injEq, true_and] at e3
  obtain ⟨rfl, rfl⟩ := e3
  obtain ⟨b, off, rfl, _, _, hc⟩ := hcell hne
  rw [hs1] at hrow
  have hxs := bytesR_ok hrow hb hp
  have hlen : l.length = A.rows.length := by
    have := hrow.length
    rw [hxs] at this
    simpa using this
  refine ⟨.string ⟨l.toArray⟩, ?_, by simp only [VRep]⟩
  unfold execOp
  rw [ho]
  dsimp only
  rw [hv, hl, ← hlen]
  have := run_convert_bytes_back (P := P) w ts td el ⟨b, off, none⟩ (cap - 0) l h1 h2 h3 fun j hj => by
    have := hc j (Value.int .u8 (l[j].toNat : Int)) (by rw [hxs, List.getElem?_map, List.getElem?_eq_getElem hj]; rfl)
    rw [add_mk]
    exact this
  simp only [Sem.run_bind, this, Result.andThen_ok, Sem.run_pure]
theorem valO_ok (hq : valO F M h df (cmp P o.op) = some (p, v)) (hp : p) (B : Nat → Prop) : Quiet P E nt o ⟨F, M, B⟩ v := by
  unfold valO at hq
  split at hq
  · rename_i x i n e
    split at hq
    · rename_i dep sz rows k m hx hi
      cases hq
      obtain ⟨t, a, b, el, h1, h2, h3, rfl, rfl⟩ := cmp_idx e
      obtain ⟨p1, p2, p3, p4⟩ := hp
      have hlt : m.toNat < rows.length := by omega
      have hg : rows[m.toNat]? = some (rows.getD m.toNat df) := by rw [List.getElem?_eq_getElem hlt, List.getD_eq_getElem?_getD, List.getElem?_eq_getElem hlt]; rfl
      exact q_idxS (s := ⟨F, M, B⟩) h1 h2 h3 hx hi p1 p2 p3 p4 hg
    · obtain ⟨t, a, b, el, h1, h2, h3, rfl, rfl⟩ := cmp_idx e
      exact q_idx (s := ⟨F, M, B⟩) h1 h2 h3 hq hp
  · rename_i x n agg e
    obtain ⟨t, a, h1, h2, h3, rfl⟩ := cmp_load e
    split at hq
    · rename_i κ i j hx
      split at hq
      · rename_i A hA
        simp only [Option.map_eq_some_iff, Prod.mk.injEq] at hq
        obtain ⟨v', hv, rfl, rfl⟩ := hq
        have hg : A.rows[i]? = some (A.rows.getD i df) := by rw [List.getElem?_eq_getElem hp, List.getD_eq_getElem?_getD, List.getElem?_eq_getElem hp]; rfl
        exact q_loadE (s := ⟨F, M, B⟩) h1 h2 h3 hx hA hg hv
      · cases hq
    · exact q_load (s := ⟨F, M, B⟩) h1 h2 h3 hq hp
  · rename_i c a b e
    split at hq
    · rename_i t x y h1 h2 h3
      split at hq
      · rename_i v' hm
        cases hq
        obtain ⟨c', a', b', e1, rfl, rfl, rfl⟩ := cmp_pick e
        exact q_pick2 (s := ⟨F, M, B⟩) e1 h1 h2 h3 hm hp.1 hp.2
      · rw [← e] at hq
        exact light_ok (s := ⟨F, M, B⟩) hq hp
    · cases hq
  · rename_i x e
    obtain ⟨ts, td, el, y, h1, h2, h3, h4, rfl⟩ := cmp_cbs e
    split at hq
    · rename_i κ len hx
      split at hq
      · rename_i A hA
        split at hq
        · rename_i p2 l hb
          cases hq
          exact q_cbs (s := ⟨F, M, B⟩) h1 h2 (isU8_ok h3) h4 hx hA hp.1 hp.2.1 hp.2.2.1 hb hp.2.2.2
        · cases hq
      · cases hq
    · cases hq
  · exact light_ok (s := ⟨F, M, B⟩) hq hp
theorem val_w (hd : dstOk nt o.dst) (hw : valE F M h df (cmp P o.op) K) : EffW P E nt o F M K := by
  unfold valE at hw
  split at hw
  · rename_i p v hq
    exact ⟨_, hw.2, Sub.loc hd (valO_ok hq hw.1)⟩
  · exact hw.elim
theorem getD_some {rows : List (List T)} {i : Nat} (h : i < rows.length) : rows[i]? = some (rows.getD i df) := by
  rw [List.getElem?_eq_getElem h, List.getD_eq_getElem?_getD, List.getElem?_eq_getElem h]; rfl
theorem take_w {t : TypeId} {ad : Operand} {agg : Bool} {key : Nat} (ho : o.op = .load t ad) (hb : isAggT P t = some agg) (hd : dstOk nt o.dst) (hw : takeE F M key df (opd ad) agg K) : EffW P E nt o F M K := by
  unfold takeE at hw
  split at hw
  · rename_i κ i j hx
    split at hw
    · rename_i A hA
      obtain ⟨rfl, h1, h3⟩ := hw
      split at h3
      · rename_i sz rows hj
        refine ⟨_, h3, fun s hs hk => ?_⟩
        exact op_take (s := s) ho hb (hs.ev hx) (hs.2 _ _ hA) (getD_some h1) hj hd (hk key (by simp))
      · exact h3.elim
    · exact hw.elim
  · exact hw.elim
theorem takeH_w {t : TypeId} {ad : Operand} {agg : Bool} {key : Nat} (ho : o.op = .load t ad) (hb : isAggT P t = some agg) (hd : dstOk nt o.dst) (hw : takeHE F M key df (opd ad) agg K) : EffW P E nt o F M K := by
  unfold takeHE at hw
  split at hw
  · rename_i κ i j hx
    split at hw
    · rename_i A hA
      obtain ⟨rfl, h1, h3⟩ := hw
      split at h3
      · rename_i sz rows hj
        refine ⟨_, h3, fun s hs hk => ?_⟩
        exact op_takeH (s := s) ho hb (hs.ev hx) (hs.2 _ _ hA) (getD_some h1) hj hd (hk key (by simp))
      · exact h3.elim
    · exact hw.elim
  · exact hw.elim
theorem store_w {t : TypeId} {ad va : Operand} {n : Nat} (ho : o.op = .store t ad va) (hdst : o.dst = none) (hn : tySz P t = some n) (hw : storeE F M df (opd ad) (opd va) n K) : EffW P E nt o F M K := by
  unfold storeE at hw
  split at hw
  · rename_i d j x had hx
    split at hw
    · rename_i cells hm
      obtain ⟨h1, h2, h3, h4, h5⟩ := hw
      exact ⟨_, h5, fun s hs _ => op_storeV (s := s) ho hdst hn (hs.ev had) (hs.2 _ _ hm) (hs.ev hx) h1 h2 (hs.liveL h3) h4⟩
    · exact hw.elim
  · rename_i κ i j x had hx
    split at hw
    · rename_i A ts ks hA hts
      obtain ⟨h1, h2, h3, h4, h5, h6, h7, h8⟩ := hw
      exact ⟨_, h8, fun s hs _ => op_storeE (s := s) ho hdst hn (hs.ev had) (hs.2 _ _ hA) (getD_some h1) (hs.ev hx) (hs.toTs hts) (distN_nodup h2) (not_memN h3) h4 h5 (hs.liveL h6) h7⟩
    · exact hw.elim
  · exact hw.elim
theorem Sub.rePs (hs : Sub F M s) {ks : List Nat} (hk : ∀ k ∈ ks, ∃ A, M k = some (.arr A)) : ∀ {cells : List V}, H.rePs M ks cells → H.rePs s.M ks cells ∧ ∀ κ n, H.reVs s.M κ n ks cells = H.reVs M κ n ks cells
  | [], _ => ⟨trivial, fun _ _ => rfl⟩
  | x :: xs, h => by
    obtain ⟨h1, h2⟩ := h
    obtain ⟨h3, h4⟩ := Sub.rePs hs hk h2
    have key : reP s.M ks x ∧ ∀ κ n, reV s.M κ n ks x = reV M κ n ks x := by
      cases x with
      | ref k off len =>
        cases off with
        | zero =>
          cases hm : memN k ks with
          | false => exact ⟨by simp [reP, hm], fun κ n => by simp [reV, hm]⟩
          | true =>
            obtain ⟨A, hA⟩ := hk k (memN_iff.1 hm)
            have hA2 := hs.2 _ _ hA
            simp only [reP, hm, hA] at h1
            exact ⟨by simpa only [reP, hm, hA2] using h1, fun κ n => by simp only [reV, hm, hA, hA2]⟩
        | succ m => exact ⟨trivial, fun _ _ => rfl⟩
      | _ => exact ⟨trivial, fun _ _ => rfl⟩
    exact ⟨⟨key.1, h3⟩, fun κ n => by simp only [reVs, key.2, h4]⟩
theorem toT_keys {M : Nat → Option Mem} {pt : T} {x : V} {t : T} {ks : List Nat} (h : x.toT pt M = some (t, ks)) : ∀ k ∈ ks, ∃ A, M k = some (.arr A) := by
  unfold V.toT at h
  split at h
  · cases h; simp
  · split at h
    · cases h; simp
    · cases h
  · unfold V.toT0 at h
    split at h
    case h_7 | h_8 =>
      split at h
      · rename_i A hA
        split at h
        · cases h
          intro k hk
          rw [List.mem_singleton] at hk
          subst hk
          exact ⟨A, hA⟩
        · cases h
      · cases h
    all_goals first | (cases h; simp) | cases h
theorem toTs_keys {M : Nat → Option Mem} : ∀ {xs : List V} {pt : List T} {ts : List T} {ks : List Nat}, toTs pt M xs = some (ts, ks) → ∀ k ∈ ks, ∃ A, M k = some (.arr A)
  | [], pt, ts, ks, h => by simp only [toTs, Option.some.injEq, Prod.mk.injEq] at h; obtain ⟨_, rfl⟩ := h; simp
  | x :: xs, pt, ts, ks, h => by
    simp only [toTs] at h
    split at h
    · rename_i t a ts' b h1 h2
      simp only [Option.some.injEq, Prod.mk.injEq] at h
      obtain ⟨_, rfl⟩ := h
      intro k hk
      rcases List.mem_append.1 hk with hk | hk
      · exact toT_keys h1 k hk
      · exact toTs_keys h2 k hk
    · cases h
theorem storeA_w {ug : List Nat} {t : TypeId} {ad va : Operand} {n : Nat} (ho : o.op = .store t ad va) (hdst : o.dst = none) (hn : tySz P t = some n) (hw : storeAE F M df ug (opd ad) (opd va) n K) : EffW P E nt o F M K := by
  unfold storeAE at hw
  split at hw
  · rename_i κ i j x d had hx
    split at hw
    · rename_i A cells ts ks hA hd hts
      obtain ⟨h1, h2, h3, h4, h5, h6, h7, h9, h8⟩ := hw
      refine ⟨_, h8, fun s hs _ => ?_⟩
      obtain ⟨h10, h11⟩ := hs.rePs (toTs_keys hts) h9
      have := op_storeA (s := s) (E := E) (nt := nt) ho hdst hn (hs.ev had) (hs.2 _ _ hA) (getD_some (df := df) h1) (hs.ev hx) (hs.toTs hts) (distN_nodup h2) (not_memN h3) h4 h5 (hs.liveL h6) h7 (hs.2 _ _ hd) h10
      rwa [h11] at this
    · exact hw.elim
  · exact hw.elim
theorem liveO_bsl {s : SF} (hs : Sub F M s) {n : Nat} : ∀ {l : List (Nat × Opd)} {cells out : List V}, fillO F cells (l.map fun q => (q.1 * n, n, q.2)) = some out → liveO F M (l.map (·.2)) → liveO s.F s.M (l.map (·.2)) := fun {l cells out} hf hl => by
  have := hs.liveO hf
  simp only [List.map_map, Function.comp_def] at this
  exact this hl
theorem bsl_w {t e : TypeId} {len n key : Nat} {parts : Array (Nat × Operand)} {zs : List V} (ho : o.op = .buildSlice t len parts) (hu : P.underlying t = some (.slice e)) (hz : zeroOf P e = some zs) (hn : tySz P e = some n) (h0 : n ≠ 0) (hsm : len * n ≤ 16777216) (hzl : zs.length = n) (hd : dstOk nt o.dst)
    (hw : bslE F M df key zs len (parts.toList.map fun p => (p.1, opd p.2)) K) : EffW P E nt o F M K := by
  unfold bslE at hw
  subst hzl
  split at hw
  · rename_i cells hf
    split at hw
    · rename_i ts ks hts
      obtain ⟨h1, h2, h4⟩ := hw
      exact ⟨_, h4, fun s hs hk => op_bsl (s := s) ho hu hz hn h0 hsm rfl (hs.fillO hf) (liveO_bsl hs hf h1) (hs.toTs hts) (distN_nodup h2) hd (hk key (by simp))⟩
    · exact hw.elim
  · exact hw.elim
theorem mks_w {t e : TypeId} {lo co : Operand} {zs : List V} {inf : TypeInfo} {key : Nat} (ho : o.op = .makeSlice t lo co) (hu : P.underlying t = some (.slice e)) (hz : zeroOf P e = some zs) (hi : P.info? e = some inf) (h0 : inf.size ≠ 0) (hzl : zs.length = inf.size) (hd : dstOk nt o.dst)
    (hw : mksE F df key (opd lo) (opd co) zs inf.bytes K) : EffW P E nt o F M K := by
  unfold mksE at hw
  split at hw
  · rename_i kl l kc c hl hc
    obtain ⟨h2, h3, h4, h5, h6⟩ := hw
    exact ⟨_, h6, fun s hs hk => op_mks (s := s) ho hu hz hi h0 hzl (hs.ev hl) (hs.ev hc) h2 h3 h4 h5 hd (hk key (by simp))⟩
  · exact hw.elim
theorem box_w {t : TypeId} {y : Operand} {key : Nat} (ho : o.op = .box t y) (hd : dstOk nt o.dst) (hw : boxE F M key (opd y) K) : EffW P E nt o F M K := by
  unfold boxE at hw
  split at hw
  · rename_i x hx
    obtain ⟨h1, h2, h4⟩ := hw
    exact ⟨_, h4, fun s hs hk => op_box (s := s) ho (hs.ev hx) h1 (hs.liveL h2) hd (hk key (by simp))⟩
  · exact hw.elim
theorem src_w {h : Nat} {str : Bool} {y : Operand} {tx e' : TypeId} {sz : Nat} {K : List (List T) → List Nat → Prop} (hk : (str = true ∧ P.underlying tx = some .string) ∨ (str = false ∧ ∃ e', P.underlying tx = some (.slice e'))) (hw : srcE F M h str (opd y) sz K) :
    ∃ rows ks, (∀ s, Sub F M s → SrcOk P E nt s y tx sz rows ks) ∧ K rows ks := by
  unfold srcE at hw
  split at hw
  · rename_i s hy
    obtain ⟨rfl, hw⟩ := hw
    rcases hk with ⟨_, hk⟩ | ⟨e, _⟩
    · exact ⟨_, _, fun s hs => src_str hk (hs.ev hy), hw⟩
    · cases e
  · rename_i hy
    rcases hk with ⟨e, _⟩ | ⟨_, e', hk⟩
    · cases e
    · exact ⟨_, _, fun s hs => src_nil hk (hs.ev hy), hw⟩
  · rename_i dep sz' rows hy
    obtain ⟨h1, h2, h3, hw⟩ := hw
    rcases hk with ⟨e, _⟩ | ⟨_, e', hk⟩
    · cases e
    · exact ⟨_, _, fun s hs => src_view hk (hs.ev hy) (hs.liveD h1) h2 h3, hw⟩
  · rename_i κ off len hy
    split at hw
    · rename_i A hA
      obtain ⟨h1, h2, hw⟩ := hw
      rcases hk with ⟨e, _⟩ | ⟨_, e', hk⟩
      · cases e
      · split at hw
        · exact ⟨_, _, fun s hs => src_move hk (hs.ev hy) (hs.2 _ _ hA) (by omega) h1 hw.1, hw.2⟩
        · exact ⟨_, _, fun s hs => src_ref hk (hs.ev hy) (hs.2 _ _ hA) h2 h1 hw.1, hw.2⟩
    · exact hw.elim
  · exact hw.elim
theorem app_w {str : Bool} {t tx e : TypeId} {x y : Operand} {args : Array Operand} {tys : Array TypeId} {inf : TypeInfo} {zs : List V} {h key : Nat} (ho : o.op = .call ⟨.builtin .append, args, tys⟩) (ha : args.toList = [x, y]) (hty : tys.toList = [t, tx])
    (hu : P.underlying t = some (.slice e)) (hi : P.info? e = some inf) (hz : zeroOf P e = some zs) (h0 : inf.size ≠ 0) (hzl : zs.length = inf.size) (hk : (str = true ∧ P.underlying tx = some .string) ∨ (str = false ∧ ∃ e', P.underlying tx = some (.slice e'))) (hd : dstOk nt o.dst)
    (hw : appE F M h key str (opd x) (opd y) inf.size inf.bytes K) : EffW P E nt o F M K := by
  unfold appE at hw
  split at hw
  · rename_i hx
    obtain ⟨rows, ks, hs, h2, h3, h4⟩ := src_w (P := P) (E := E) (nt := nt) (tx := tx) (e' := e) hk hw
    exact ⟨_, h4, fun s hsub hky => op_appN (s := s) ho ha hty hu hi hz h0 hzl (hsub.ev hx) (hs s hsub) h2 h3 hd (hky key (by simp))⟩
  · rename_i κ n hx
    split at hw
    · rename_i A hA
      obtain ⟨h5, h6, hw⟩ := hw
      obtain ⟨rows, ks, hs, h7, h2, h3, h4⟩ := src_w (P := P) (E := E) (nt := nt) (tx := tx) (e' := e) hk hw
      exact ⟨_, h4, fun s hsub hky => op_app (s := s) ho ha hty hu hi hz h0 hzl (hsub.ev hx) (hsub.2 _ _ hA) h5 h6 (hs s hsub) (not_memN h7) h2 h3 hd (hky key (by simp))⟩
    · exact hw.elim
  · exact hw.elim
theorem cps_w {y : Operand} {sz : Nat} {K : List (List T) → Prop} (hw : cpsE F M (opd y) sz K) : ∃ rows, (∀ s, Sub F M s → SrcN P E nt s y sz rows) ∧ K rows := by
  unfold cpsE at hw
  split at hw
  · rename_i dep sz' rows hy
    obtain ⟨h1, rfl, h3, hw⟩ := hw
    exact ⟨_, fun s hs => srcN_view (hs.ev hy) (hs.liveD h1) h3, hw⟩
  · rename_i κ off len hy
    split at hw
    · rename_i A hA
      obtain ⟨h1, h2, h3, hw⟩ := hw
      exact ⟨_, fun s hs => srcN_ref (hs.ev hy) (hs.2 _ _ hA) h2 h1 h3, hw⟩
    · exact hw.elim
  · exact hw.elim
theorem cpy_w {t tx e : TypeId} {x y : Operand} {args : Array Operand} {tys : Array TypeId} {sz : Nat} (ho : o.op = .call ⟨.builtin .copy, args, tys⟩) (ha : args.toList = [x, y]) (hty : tys.toList = [t, tx]) (hu : P.underlying t = some (.slice e)) (hn : tySz P e = some sz) (hd : dstOk nt o.dst)
    (hw : cpyE F M (opd x) (opd y) sz K) : EffW P E nt o F M K := by
  unfold cpyE at hw
  split at hw
  · rename_i κ off len hx
    split at hw
    · rename_i A hA
      obtain ⟨h1, h2, h3, hw⟩ := hw
      obtain ⟨rows, hs, h4⟩ := cps_w (P := P) (E := E) (nt := nt) hw
      exact ⟨_, h4, fun s hsub _ => op_cpy (s := s) ho ha hty hu hn (hsub.ev hx) (hsub.2 _ _ hA) h1 h2 h3 (hs s hsub) hd⟩
    · exact hw.elim
  · exact hw.elim
theorem cpyR_w {t tx e : TypeId} {x y : Operand} {args : Array Operand} {tys : Array TypeId} {sz : Nat} (ho : o.op = .call ⟨.builtin .copy, args, tys⟩) (ha : args.toList = [x, y]) (hty : tys.toList = [t, tx]) (hu : P.underlying t = some (.slice e)) (hn : tySz P e = some sz) (hd : dstOk nt o.dst)
    (hw : cpyRE F M (opd x) (opd y) sz K) : EffW P E nt o F M K := by
  unfold cpyRE at hw
  split at hw
  · rename_i κ off len κ2 off2 len2 hx hy
    split at hw
    · rename_i A A2 hA hA2
      obtain ⟨h1, h2, h3, h4, h5, h6, hw⟩ := hw
      exact ⟨_, hw, fun s hsub _ => op_cpyR (s := s) ho ha hty hu hn (hsub.ev hx) (hsub.ev hy) (hsub.2 _ _ hA) (hsub.2 _ _ hA2) h1 h2 h3 h4 h5 h6 hd⟩
    · exact hw.elim
  · exact hw.elim
theorem apz_w {df : List T} {key : Nat} {t tx e : TypeId} {x y : Operand} {args : Array Operand} {tys : Array TypeId} {inf : TypeInfo} {zs : List V} {kn : IntKind} (ho : o.op = .call ⟨.builtin .append, args, tys⟩) (ha : args.toList = [x, y]) (hty : tys.toList = [t, tx]) (hu : P.underlying t = some (.slice e)) (hi : P.info? e = some inf) (hz : zeroOf P e = some zs) (h0 : inf.size ≠ 0) (hzl : zs.length = inf.size)
    (hk : P.underlying tx = some (.int kn)) (hd : dstOk nt o.dst) (hw : apzE F M df key (opd x) (opd y) zs inf.bytes K) : EffW P E nt o F M K := by
  unfold apzE at hw
  split at hw
  · rename_i κ i k' k hx hy
    split at hw
    · rename_i A hA
      split at hw
      · rename_i c hc
        obtain ⟨h1, h2, h3, h4, h5, h6, h7, h8, hw⟩ := hw
        exact ⟨_, hw, fun s hsub hk' => op_apz (s := s) ho ha hty hu hi hz h0 hzl hk (hsub.ev hx) (hsub.ev hy) (hsub.2 _ _ hA) hc h1 h2 h3 h4 h5 h6 h7 h8 hd (hk' _ (by simp))⟩
      · exact hw.elim
    · exact hw.elim
  · exact hw.elim
theorem clr_w {df : List T} {t e : TypeId} {x : Operand} {args : Array Operand} {tys : Array TypeId} {zs : List V} (ho : o.op = .call ⟨.builtin .clear, args, tys⟩) (ha : args.toList = [x]) (hty : tys.toList = [t]) (hu : P.underlying t = some (.slice e)) (hz : zeroOf P e = some zs) (hn : tySz P e = some zs.length)
    (hw : clrE F M df o.dst (opd x) zs K) : EffW P E nt o F M K := by
  unfold clrE at hw
  split at hw
  · rename_i κ off len hx hd
    split at hw
    · rename_i A hA
      obtain ⟨h1, h2, h3, h4, h5, h6, hw⟩ := hw
      exact ⟨_, hw, fun s hsub _ => op_clr (s := s) ho ha hty hu hz hn (hsub.ev hx) (hsub.2 _ _ hA) h1 h2 h4 h3 hd h5 (hsub.liveL h6)⟩
    · exact hw.elim
  · exact hw.elim
theorem aps_w {t tx e e' : TypeId} {x y : Operand} {args : Array Operand} {tys : Array TypeId} {inf : TypeInfo} (ho : o.op = .call ⟨.builtin .append, args, tys⟩) (ha : args.toList = [x, y]) (hty : tys.toList = [t, tx])
    (hu : P.underlying t = some (.slice e)) (hi : P.info? e = some inf) (hk : P.underlying tx = some (.slice e')) (hd : dstOk nt o.dst) (hw : apsE F M (opd x) (opd y) inf.size K) : EffW P E nt o F M K := by
  unfold apsE at hw
  split at hw
  · rename_i κ i κ' j len hx hy
    split at hw
    · rename_i A hA
      obtain ⟨rfl, h1, h2, h3, h4, h5, hw⟩ := hw
      exact ⟨_, hw, fun s hsub _ => op_aps (s := s) ho ha hty hu hi hk (hsub.ev hx) (hsub.ev hy) (hsub.2 _ _ hA) h1 h2 h3 h4 h5 hd⟩
    · exact hw.elim
  · exact hw.elim
theorem appP_w {key : Nat} {t tx e e' : TypeId} {x y : Operand} {args : Array Operand} {tys : Array TypeId} {inf : TypeInfo} {zs : List V} (ho : o.op = .call ⟨.builtin .append, args, tys⟩) (ha : args.toList = [x, y]) (hty : tys.toList = [t, tx])
    (hu : P.underlying t = some (.slice e)) (hi : P.info? e = some inf) (hz : zeroOf P e = some zs) (h0 : inf.size ≠ 0) (hzl : zs.length = inf.size) (hk : P.underlying tx = some (.slice e')) (hd : dstOk nt o.dst) (hw : appPE F M key (opd x) (opd y) inf.size inf.bytes K) : EffW P E nt o F M K := by
  unfold appPE at hw
  split at hw
  · rename_i κ n κ2 off len hx hy
    split at hw
    · rename_i A A2 hA hA2
      obtain ⟨h1, h2, h3, h4, h5, h6, h7, h8, h9, hw⟩ := hw
      have hne : κ2 ≠ κ := fun ee => by subst ee; simp at h1
      exact ⟨_, hw, fun s hsub hky => op_appP (s := s) ho ha hty hu hi hz h0 hzl hk (hsub.ev hx) (hsub.2 _ _ hA) h2 h3 (hsub.ev hy) (hsub.2 _ _ hA2) hne h5 h4 h6 h7 h8 h9 hd (hky key (by simp))⟩
    · exact hw.elim
  · exact hw.elim
theorem Sim.born1 {s : SF} {g : Gh} {a : Act} {w : World} (hs : Sim E nt s g a w) {k sz : Nat} {v : Value} (hk : ¬ s.B k) (hv : VRep w g .nil v) :
    ∃ g', Sim E nt ⟨s.F, fun x => if x = k then some (.arr ⟨sz, [], 1, none⟩) else s.M x, fun x => x = k ∨ s.B x⟩ g' a w ∧ Ext g w g' w ∧ VRep w g' (.ref k 0 0) v := by
  simp only [VRep] at hv
  obtain ⟨base, rfl⟩ := hv
  obtain ⟨g', h', hx, hab, _⟩ := hs.setArr (w' := w) k [] (A := ⟨sz, [], 1, none⟩) (S := fun _ => False) (base := base) (cap := 0) rfl rfl rfl (Nat.le_refl _) (.inr ⟨hk, rfl⟩) (fun x hx => by cases hx) (fun _ _ _ _ => rfl) (fun b hb => hb.elim)
    (by simp only [OwT]; exact ⟨base, 0, rfl, Nat.le_refl _, Nat.zero_le _, .inl ⟨trivial, rfl⟩⟩) (fun c hc => by cases hc)
  refine ⟨g', h'.memEq (funext fun y => by simp) (fun y => Iff.rfl), hx, ?_⟩
  simp only [VRep]
  exact ⟨base, 0, sz, base, hab, Nat.le_refl _, rfl, fun _ => rfl, fun h => absurd rfl h⟩
theorem bornL_key : ∀ {xs : List V} {k k' : Nat} {pt : List T}, k' ∈ (bornL k pt xs).2.2 → k ≤ k'
  | [], k, k', pt, h => by simp [bornL] at h
  | x :: xs, k, k', pt, h => by
    cases x <;> simp only [bornL, List.mem_cons] at h
    case nil =>
      rcases h with rfl | h
      · exact Nat.le_refl _
      · have := bornL_key h; omega
    all_goals (have := bornL_key h; omega)
theorem bornL_look : ∀ {xs : List V} {k x : Nat} {pt : List T} {m : Option Mem}, look x (bornL k pt xs).2.1 = some m → x ∈ (bornL k pt xs).2.2
  | [], k, x, pt, m, h => by simp [bornL, look] at h
  | y :: xs, k, x, pt, m, h => by
    cases y <;> simp only [bornL, look, List.mem_cons] at h ⊢
    case nil =>
      split at h
      · rename_i e; exact .inl e
      · exact .inr (bornL_look h)
    all_goals exact bornL_look h
theorem Sim.bornL {a : Act} {w : World} : ∀ {xs : List V} {vs : List Value} {s : SF} {g : Gh} {k : Nat} {pt : List T}, Sim E nt s g a w → VRepL w g xs vs → (∀ x ∈ (H.bornL k pt xs).2.2, ¬ s.B x) →
    ∃ g', Sim E nt ⟨s.F, fun x => match look x (H.bornL k pt xs).2.1 with
      | some m => m
      | none => s.M x, fun x => x ∈ (H.bornL k pt xs).2.2 ∨ s.B x⟩ g' a w ∧ Ext g w g' w ∧ VRepL w g' (H.bornL k pt xs).1 vs
  | [], vs, s, g, k, pt, hs, hv, hk => ⟨g, hs.memEq (by simp [H.bornL, look]) (by simp [H.bornL]), Ext.refl _ _, by simpa [H.bornL] using hv⟩
  | x :: xs, vs, s, g, k, pt, hs, hv, hk => by
    simp only [VRepL] at hv
    obtain ⟨u, us, rfl, h1, h2⟩ := hv
    by_cases hx : x = .nil
    · subst hx
      simp only [H.bornL] at hk ⊢
      obtain ⟨g1, s1, x1, r1⟩ := hs.born1 (k := k) (sz := (hdT pt).esz) (hk k (by simp)) h1
      obtain ⟨g2, s2, x2, r2⟩ := Sim.bornL (k := k + 1) (pt := tlT pt) s1 (h2.ext x1) (fun y hy hb => by
        rcases hb with rfl | hb
        · have := bornL_key hy; omega
        · exact hk y (by simp [hy]) hb)
      refine ⟨g2, s2.memEq (funext fun y => ?_) (fun y => ?_), ⟨Nat.le_refl _, fun d b hd => x2.bv d b (x1.bv d b hd), fun κ x hx => x2.ab κ x (x1.ab κ x hx), fun b hb => ⟨(x2.fz b (x1.fz b hb).1).1, fun _ => rfl⟩, fun κ => Nat.le_trans (x1.top κ) (x2.top κ), fun κ hκ => by
        have e1 : g1.top κ = g.top κ := Nat.le_antisymm (by rw [← hκ]; exact x2.top κ) (x1.top κ)
        have e2 : g2.top κ = g1.top κ := by rw [hκ, e1]
        exact ⟨(x2.fp κ e2).1.trans (x1.fp κ e1).1, fun _ _ _ => rfl⟩⟩, ?_⟩
      · simp only [look]
        by_cases e : y = k
        · subst e
          simp only [if_true]
          cases hl : look y (H.bornL (y + 1) (tlT pt) xs).2.1 with
          | none => simp
          | some m => have := bornL_key (bornL_look hl); omega
        · simp [e]
      · simp only [List.mem_cons]
        constructor
        · rintro (h | h | h)
          · exact .inl (.inr h)
          · exact .inl (.inl h)
          · exact .inr h
        · rintro ((h | h) | h)
          · exact .inr (.inl h)
          · exact .inl h
          · exact .inr (.inr h)
      · simp only [VRepL]
        exact ⟨u, us, rfl, r1.ext x2, r2⟩
    · have e : H.bornL k pt (x :: xs) = (x :: (H.bornL (k + 1) (tlT pt) xs).1, (H.bornL (k + 1) (tlT pt) xs).2.1, (H.bornL (k + 1) (tlT pt) xs).2.2) := by
        cases x <;> first | rfl | exact absurd rfl hx
      rw [e] at hk ⊢
      obtain ⟨g2, s2, x2, r2⟩ := Sim.bornL (k := k + 1) (pt := tlT pt) hs h2 hk
      exact ⟨g2, s2, x2, by simp only [VRepL]; exact ⟨u, us, rfl, h1.ext x2, r2⟩⟩
theorem EffS.born {v v' : V} {wm : List (Nat × Option Mem)} {nk : List Nat} (he : EffS P E nt o F M ⟨v, [], []⟩) (hb : ∀ (s : SF) (g : Gh) (a : Act) (w : World) (u : Value), Sim E nt s g a w → VRep w g v u → (∀ x ∈ nk, ¬ s.B x) →
    ∃ g', Sim E nt ⟨s.F, fun x => match look x wm with
      | some m => m
      | none => s.M x, fun x => x ∈ nk ∨ s.B x⟩ g' a w ∧ Ext g w g' w ∧ VRep w g' v' u) (hd : o.dst ≠ none) : EffS P E nt o F M ⟨v', wm, nk⟩ := by
  intro s hsub hnk g a w hs K Q hK
  refine he s hsub (by simp) g a w hs K Q fun g' a' w' h' => ?_
  cases hdd : o.dst with
  | none => exact absurd hdd hd
  | some d =>
    rw [hdd] at h' hK
    have hF : (s.app (some d) ⟨v, [], []⟩).F d = some v := by simp [SF.app, SF.put]
    obtain ⟨g2, h2, x2, r2⟩ := hb _ g' a' w' _ h' (h'.frame d v hF) (fun x hx hb => hnk x hx (by simpa [SF.app] using hb))
    refine hK g2 a' w' ?_
    have h3 : Sim E nt ⟨(s.app (some d) ⟨v', wm, nk⟩).F, fun x => match look x wm with
      | some m => m
      | none => (s.app (some d) ⟨v, [], []⟩).M x, fun x => x ∈ nk ∨ (s.app (some d) ⟨v, [], []⟩).B x⟩ g2 a' w' := by
      refine { h2 with frame := fun t x hx => ?_, nt := h2.nt, defers := h2.defers }
      simp only [SF.app, SF.put] at hx
      split at hx
      · rename_i e
        subst e
        cases hx
        exact r2
      · rename_i e
        exact h2.frame t x (by simp only [SF.app, SF.put, if_neg e]; exact hx)
    refine h3.memEq (funext fun y => ?_) (fun y => by simp [SF.app])
    simp only [SF.app, look]
    cases look y wm <;> rfl
theorem born_w {key : Nat} {df : List T} (hd : dstOk nt o.dst) (hdn : o.dst ≠ none) (hw : bornE F M key df (cmp P o.op) K) : EffW P E nt o F M K := by
  unfold bornE at hw
  split at hw
  · rename_i p cells hq
    refine ⟨_, hw.2, EffS.born (Sub.loc hd (valO_ok hq hw.1)) (fun s g a w u hs hv hk => ?_) hdn⟩
    simp only [VRep] at hv
    obtain ⟨cs, rfl, hc⟩ := hv
    obtain ⟨g', h1, h2, h3⟩ := Sim.bornL hs hc hk
    exact ⟨g', h1, h2, by simp only [VRep]; exact ⟨cs, rfl, h3⟩⟩
  · rename_i p hq
    refine ⟨_, hw.2, EffS.born (Sub.loc hd (valO_ok hq hw.1)) (fun s g a w u hs hv hk => ?_) hdn⟩
    obtain ⟨g', h1, h2, h3⟩ := hs.born1 (k := key) (sz := (hdT (tm df)).esz) (hk key (by simp)) hv
    refine ⟨g', h1.memEq (funext fun y => ?_) (fun y => by simp), h2, h3⟩
    simp only [look]
    by_cases e : y = key <;> simp [e]
  · exact hw.elim
theorem own_flat (dep : Dep) : ∀ {ts : List T}, ts.all T.flat = true → T.ownL dep ts = T.toVL none ts
  | [], _ => rfl
  | t :: ts, h => by
    simp only [List.all_cons, Bool.and_eq_true] at h
    simp only [T.ownL, T.toVL, own_flat dep h.2]
    cases t <;> simp only [T.flat, Bool.false_eq_true] at h <;> first | rfl | (exact absurd h.1 (by simp))
theorem ownL_append (dep : Dep) : ∀ {a b : List T}, T.ownL dep (a ++ b) = T.ownL dep a ++ T.ownL dep b
  | [], b => rfl
  | t :: ts, b => by simp only [List.cons_append, T.ownL, ownL_append dep (a := ts)]
theorem toVL_append (dep : Dep) : ∀ {a b : List T}, T.toVL dep (a ++ b) = T.toVL dep a ++ T.toVL dep b
  | [], b => rfl
  | t :: ts, b => by simp only [List.cons_append, T.toVL, toVL_append dep (a := ts)]
theorem toVL_length (dep : Dep) : ∀ {a : List T}, (T.toVL dep a).length = a.length
  | [] => rfl
  | t :: ts => by simp only [T.toVL, List.length_cons, toVL_length dep (a := ts)]
theorem VRepL.swap {w : World} {g : Gh} {x y : V} {L2 : List V} : ∀ {L1 : List V} {cs : List Value}, VRepL w g (L1 ++ x :: L2) cs → (∀ u, VRep w g x u → VRep w g y u) → VRepL w g (L1 ++ y :: L2) cs
  | [], cs, h, hxy => by
    simp only [List.nil_append, VRepL] at h ⊢
    obtain ⟨u, us, e, h1, h2⟩ := h
    exact ⟨u, us, e, hxy u h1, h2⟩
  | z :: L1, cs, h, hxy => by
    simp only [List.cons_append, VRepL] at h ⊢
    obtain ⟨u, us, e, h1, h2⟩ := h
    exact ⟨u, us, e, h1, VRepL.swap h2 hxy⟩
theorem VRepL.cut {w : World} {g : Gh} {x : V} {L2 : List V} : ∀ {L1 : List V} {cs : List Value}, VRepL w g (L1 ++ x :: L2) cs → ∃ c1 u c2, cs = c1 ++ u :: c2 ∧ VRepL w g L1 c1 ∧ VRep w g x u ∧ VRepL w g L2 c2
  | [], cs, h => by
    simp only [List.nil_append, VRepL] at h
    obtain ⟨u, us, e, h1, h2⟩ := h
    exact ⟨[], u, us, e, by simp only [VRepL], h1, h2⟩
  | z :: L1, cs, h => by
    simp only [List.cons_append, VRepL] at h
    obtain ⟨u, us, e, h1, h2⟩ := h
    obtain ⟨c1, v, c2, e2, h3, h4, h5⟩ := VRepL.cut h2
    exact ⟨u :: c1, v, c2, by rw [e, e2]; rfl, by simp only [VRepL]; exact ⟨u, c1, rfl, h1, h3⟩, h4, h5⟩
theorem Sim.bornV1 {s : SF} {g : Gh} {a : Act} {w : World} (hs : Sim E nt s g a w) {d k sz : Nat} {L1 L2 : List V} (hm : s.M d = some (.var (L1 ++ .nil :: L2))) (hk : ¬ s.B k) (hd : d ≠ k) :
    ∃ g', Sim E nt ⟨s.F, fun x => if x = d then some (.var (L1 ++ .ref k 0 0 :: L2)) else if x = k then some (.arr ⟨sz, [], 1, none⟩) else s.M x, fun x => x = k ∨ s.B x⟩ g' a w := by
  obtain ⟨b, cur, e, h1, h2, h3⟩ := hs.mem d _ hm
  obtain ⟨c1, u, c2, e1, r1, r2, r3⟩ := h3.cut
  obtain ⟨g', h', hxx, hv⟩ := hs.born1 (k := k) (sz := sz) hk r2
  have hm' : (fun x => if x = k then some (Mem.arr ⟨sz, [], 1, none⟩) else s.M x) d = some (.var (L1 ++ .nil :: L2)) := by simp only [if_neg hd]; exact hm
  obtain ⟨b', cur', e', q1, q2, q3⟩ := h'.mem d _ hm'
  have hb : g'.bv d = some b := hxx.bv d b h1
  rw [hb] at q1
  cases q1
  rw [h2] at q2
  cases q2
  have r4 : VRepL w g' (L1 ++ .ref k 0 0 :: L2) cur.toList := by
    rw [e1] at q3 ⊢
    obtain ⟨d1, v, d2, f1, t1, t2, t3⟩ := q3.cut
    have hl : c1.length = d1.length := by rw [r1.length, t1.length]
    obtain ⟨rfl, f2⟩ := List.append_inj f1 hl
    cases f2
    exact t1.append (by simp only [VRepL]; exact ⟨_, _, rfl, hv, t3⟩)
  exact ⟨g', h'.knowM ⟨b, cur, e, hb, h2, r4⟩⟩
theorem storeB_w {key : Nat} {t : TypeId} {ad va : Operand} {n : Nat} (ho : o.op = .store t ad va) (hdst : o.dst = none) (hn : tySz P t = some n) (hw : storeBE F M key df (opd ad) (opd va) n K) : EffW P E nt o F M K := by
  unfold storeBE at hw
  split at hw
  · rename_i d j had hx
    split at hw
    · rename_i cells hm
      obtain ⟨h1, h2, h3, h5⟩ := hw
      have hdk : d ≠ key := Nat.ne_of_beq_eq_false h2
      refine ⟨_, h5, fun s hs hnk g a w hsim K' Q hK => ?_⟩
      refine op_storeV (s := s) ho hdst hn (hs.ev had) (hs.2 _ _ hm) (hs.ev hx) (by rw [h1]; rfl) rfl (by trivial) (by omega) g a w hsim K' Q fun g1 a1 w1 h' => ?_
      rw [hdst] at h' hK
      have hM : (s.app none ⟨.undef, [(d, some (.var (cells.take j ++ V.nil.cells ++ cells.drop (j + n))))], []⟩).M d = some (.var (cells.take j ++ .nil :: cells.drop (j + 1))) := by
        simp [SF.app, look, V.cells, h1]
      obtain ⟨g2, h2'⟩ := h'.bornV1 (k := key) (sz := (hdT (tm df)).esz) hM (fun hb => hnk key (by simp) (by simpa [SF.app] using hb)) hdk
      refine hK g2 a1 w1 (h2'.memEq (funext fun y => ?_) (fun y => by simp [SF.app]))
      simp only [SF.app, look]
      by_cases e1 : y = d
      · subst e1; simp
      · by_cases e2 : y = key
        · subst e2; simp [e1]
        · simp [e1, e2]
    · exact hw.elim
  · exact hw.elim
theorem takeV_ok {g : Gh} {a : Act} {w : World} (hs : Sim E nt s g a w) {t : TypeId} {ad : Operand} {n key : Nat} {q : List Nat} {agg : Bool} {K : Eff → Prop} (ho : o.op = .load t ad) (hn : tySz P t = some n) (hb : isAggT P t = some agg) (hd : dstOk nt o.dst)
    (hw : takeVE s.F s.M key df q (opd ad) n agg K) (hkey : ∀ e, K e → ∀ k ∈ e.nk, ¬ s.B k) : ∃ e u g', K e ∧ (execOp a.eval o).run P w = .ok (.value u) w ∧ Sim E nt (s.app o.dst e) g' (a.put o.dst u) w := by
  unfold takeVE at hw
  split at hw
  · rename_i κ i q hx
    split at hw
    · rename_i A hA
      obtain ⟨rfl, rfl, hi, hfl, hw⟩ := hw
      split at hw
      · rename_i sz rows hj
        have hr := getD_some (df := df) hi
        generalize hrr : A.rows.getD i df = r at *
        have hk : ¬ s.B key := hkey _ (hw undef) key (by simp)
        obtain ⟨v, g2, s2, hv⟩ := hs.takeV hA hr hj hk
        have hkκ : key ≠ κ := fun ee => by subst ee; exact hk (hs.arrK hA).2
        obtain ⟨hq, hqe⟩ := List.getElem?_eq_some_iff.1 hj
        have hsplit : r.set q (.val v) = r.take q ++ [.val v] ++ r.drop (q + 1) := by
          rw [List.set_eq_take_append_cons_drop, if_pos hq]; simp
        have hrl : r.length = A.sz := by
          obtain ⟨_, _, _, _, _, _, _, _, _, _, _, h, _⟩ := row_cells (hs.mem κ _ hA) hr
          exact h
        have hlen : (r.set q (.val v)).length = A.sz := by simp [hrl]
        have hr2 : (A.rows.set i (r.set q (.val v)))[i]? = some (r.set q (.val v)) := List.getElem?_set_self hi
        have hA2 : (⟨s.F, fun x => if x = key then some (.arr ⟨sz, rows, 1, none⟩) else if x = κ then some (.arr ⟨A.sz, A.rows.set i (r.set q (.val v)), A.ver + 1, A.cap⟩) else s.M x, fun x => x = key ∨ s.B x⟩ : SF).M κ = some (.arr ⟨A.sz, A.rows.set i (r.set q (.val v)), A.ver + 1, A.cap⟩) := by
          simp [Ne.symm hkκ]
        have hp : partV (T.ownL (some (κ, A.ver + 1)) (r.set q (.val v))) 0 A.sz true = some (.agg (T.ownL (some (κ, A.ver + 1)) (r.set q (.val v)))) := by
          have ownL_len : ∀ {l : List T}, (T.ownL (some (κ, A.ver + 1)) l).length = l.length := by
            intro l
            induction l with
            | nil => rfl
            | cons a l ih => simp [T.ownL, ih]
          simp only [partV, Nat.zero_add, ownL_len, hlen, Nat.le_refl, if_true, List.drop_zero]
          rw [List.take_of_length_le (by rw [ownL_len, hlen]; exact Nat.le_refl _)]
        obtain ⟨u, hu, hur⟩ := q_loadE (P := P) (o := o) (s := ⟨s.F, fun x => if x = key then some (.arr ⟨sz, rows, 1, none⟩) else if x = κ then some (.arr ⟨A.sz, A.rows.set i (r.set q (.val v)), A.ver + 1, A.cap⟩) else s.M x, fun x => x = key ∨ s.B x⟩) ho hn hb hx hA2 hr2 hp g2 a w s2
        simp only [flatBut, Bool.and_eq_true] at hfl
        have hur2 : VRep w g2 (.agg ((T.toVL none r).set q (.hv key rows.length v))) u := by
          rw [hsplit, List.append_assoc, ownL_append, List.singleton_append] at hur
          simp only [T.ownL, own_flat _ hfl.1, own_flat _ hfl.2] at hur
          simp only [VRep] at hur ⊢
          obtain ⟨cs, e, hc⟩ := hur
          refine ⟨cs, e, ?_⟩
          have e2 : (T.toVL none r).set q (.hv key rows.length v) = T.toVL none (r.take q) ++ .hv key rows.length v :: T.toVL none (r.drop (q + 1)) := by
            have e3 : T.toVL none r = T.toVL none (r.take q) ++ T.toVL none (r.drop q) := by rw [← toVL_append, List.take_append_drop]
            rw [e3, List.drop_eq_getElem_cons hq, T.toVL, List.set_append_right _ _ (by rw [toVL_length, List.length_take]; exact Nat.min_le_left _ _), toVL_length]
            simp [Nat.min_eq_left (Nat.le_of_lt hq)]
          rw [e2]
          refine hc.swap fun z hz => ?_
          simp only [T.own, T.toV, VRep] at hz
          rw [hz]
          exact hv
        refine ⟨_, u, g2, hw v, hu, ?_⟩
        have h3 := s2.put hd hur2
        have h4 : ∀ (d : Option Tmp) (X : V) (M2 : Nat → Option Mem) (B2 : Nat → Prop) (e : Eff) (a' : Act), e.val = X → (∀ y, M2 y = (s.app d e).M y) → (∀ y, B2 y ↔ (s.app d e).B y) → Sim E nt (SF.put ⟨s.F, M2, B2⟩ d X) g2 a' w → Sim E nt (s.app d e) g2 a' w := by
          intro d X M2 B2 e a' e1 e2 e3 h
          subst e1
          refine h.less (fun t x hx => ?_) (fun k m hm => ?_) (fun k hk => ?_)
          · cases d with
            | none => exact hx
            | some d => exact hx
          · have : (SF.put ⟨s.F, M2, B2⟩ d e.val).M k = M2 k := by cases d <;> rfl
            rw [this, e2]
            exact hm
          · have : (SF.put ⟨s.F, M2, B2⟩ d e.val).B k = B2 k := by cases d <;> rfl
            rw [this] at hk
            exact (e3 k).1 hk
        refine h4 o.dst _ _ _ _ _ rfl (fun y => ?_) (fun y => ?_) h3
        · simp only [SF.app, look]
          by_cases e1 : y = κ
          · simp only [e1, if_neg (Ne.symm hkκ), if_true]
          · by_cases e2 : y = key <;> simp [e1, e2, hkκ]
        · simp [SF.app]
      · exact hw.elim
    · exact hw.elim
  · exact hw.elim
end
def EnvOk (P : Program) [Inv P] (E : Env) : Prop := Inv.I P E.w0 ∧ ∀ b, E.wr b → Inv.n P ≤ b
theorem EnvOk.now {P : Program} [Inv P] {E : Env} (h : EnvOk P E) {nt : Nat} {s : SF} {g : Gh} {a : Act} {w : World} (hs : Sim E nt s g a w) : Inv.I P w :=
  Inv.stable _ _ hs.size (fun b hb => hs.same b (Nat.lt_of_lt_of_le hb (Inv.size _ h.1)) (fun hw => by have := h.2 b hw; omega)) h.1
inductive Kp {α : Type} (K : α → Prop) : Type where
  | mk
def callE (P : Program) [Inv P] (F : Nat → Option V) (M : Nat → Option Mem) (dst : Option Tmp) (key : Nat) (f : Opd) (args : List (Opd × Option Nat)) (K : Eff → Prop) (_ : Kp K) : Prop :=
  ∃ e, K e ∧ ∀ (E : Env) (nt : Nat) (o : Oper), EnvOk P E → cmp P o.op = .call f args → o.dst = dst → dstOk nt o.dst → EffS P E nt o F M e
def stepE (P : Program) [Inv P] (s : SOp) (F : Nat → Option V) (M : Nat → Option Mem) (K : Eff → Prop) : Prop :=
  match s.op with
  | .load x n agg => match s.h with
    | 2 => takeE F M s.key s.df x agg K
    | 3 => takeHE F M s.key s.df x agg K
    | _ => valE F M s.h s.df (.load x n agg) K
  | .store x v n => match s.h with
    | 6 => storeAE F M s.df s.ug x v n K
    | 13 => storeBE F M s.key s.df x v n K
    | _ => storeE F M s.df x v n K
  | .bsl zs len ps => bslE F M s.df s.key zs len ps K
  | .mks l c zs b => mksE F s.df s.key l c zs b K
  | .box x => boxE F M s.key x K
  | .alloc zs => K ⟨.vptr s.key 0, [(s.key, some (.var zs))], [s.key]⟩
  | .app str x y sz b => match s.h, str with
    | 7, false => apsE F M x y sz K
    | 8, false => appPE F M s.key x y sz b K
    | _, _ => appE F M s.h s.key str x y sz b K
  | .cpy str x y sz => match str, s.h with
    | false, 10 => cpyRE F M x y sz K
    | false, _ => cpyE F M x y sz K
    | true, _ => False
  | .apz x y zs b => apzE F M s.df s.key x y zs b K
  | .clr x zs => clrE F M s.df s.dst x zs K
  | .call f args => callE P F M s.dst s.key f args K .mk
  | .bld zs ps => match s.h, s.dst with
    | 4, some _ => bornE F M s.key s.df (.bld zs ps) K
    | _, _ => valE F M s.h s.df (.bld zs ps) K
  | .mv x => match s.h, s.dst with
    | 4, some _ => bornE F M s.key s.df (.mv x) K
    | _, _ => valE F M s.h s.df (.mv x) K
  | op => valE F M s.h s.df op K
theorem stepE_ok {P : Program} [Inv P] {E : Env} {nt : Nat} {o : Oper} {s : SOp} {F : Nat → Option V} {M : Nat → Option Mem} {K : Eff → Prop} (hE : EnvOk P E) (hop : s.op = cmp P o.op) (hdst : s.dst = o.dst) (hd : dstOk nt o.dst)
    (hst : (∃ x v n, s.op = .store x v n) → o.dst = none) (h : stepE P s F M K) : EffW P E nt o F M K := by
  unfold stepE at h
  rw [hdst] at h
  split at h
  · rename_i e
    split at h
    · rw [hop] at e
      obtain ⟨t, a, h1, h2, h3, rfl⟩ := cmp_load e
      exact take_w h1 h3 hd h
    · rw [hop] at e
      obtain ⟨t, a, h1, h2, h3, rfl⟩ := cmp_load e
      exact takeH_w h1 h3 hd h
    · rw [← e, hop] at h
      exact val_w hd h
  · rename_i x v n e
    have hdn := hst ⟨x, v, n, e⟩
    rw [hop] at e
    obtain ⟨t, a, b, h1, h2, rfl, rfl⟩ := cmp_store e
    split at h
    · exact storeA_w h1 hdn h2 h
    · exact storeB_w h1 hdn h2 h
    · exact store_w h1 hdn h2 h
  · rename_i e
    rw [hop] at e
    obtain ⟨t, el, parts, n, h1, h2, h3, h4, h5, h6, h7, rfl⟩ := cmp_bsl e
    exact bsl_w h1 h2 h3 h4 h5 h6 h7 hd h
  · rename_i e
    rw [hop] at e
    obtain ⟨t, el, lo, co, inf, h1, h2, h3, h4, h5, h6, rfl, rfl, rfl⟩ := cmp_mks e
    exact mks_w h1 h2 h3 h4 h5 h6 hd h
  · rename_i e
    rw [hop] at e
    obtain ⟨t, a, h1, rfl⟩ := cmp_box e
    exact box_w h1 hd h
  · rename_i e
    rw [hop] at e
    obtain ⟨t, h1, h2⟩ := cmp_alloc e
    exact ⟨_, h, fun s _ hk => op_alloc (s := s) h1 h2 hd (hk _ (by simp))⟩
  · rename_i e
    rw [hop] at e
    obtain ⟨args, tys, a, c, t, tx, el, inf, zs, h1, h2, h3, h4, h5, h6, h7, h8, h9, rfl, rfl, rfl, rfl⟩ := cmp_app e
    split at h
    · rcases h9 with ⟨e, _⟩ | ⟨_, e', hk⟩
      · cases e
      · exact aps_w h1 h2 h3 h4 h5 hk hd h
    · rcases h9 with ⟨e, _⟩ | ⟨_, e', hk⟩
      · cases e
      · exact appP_w h1 h2 h3 h4 h5 h6 h7 h8 hk hd h
    · exact app_w h1 h2 h3 h4 h5 h6 h7 h8 h9 hd h
  · rename_i e
    split at h
    · rw [hop] at e
      obtain ⟨args, tys, a, c, t, tx, el, h1, h2, h3, h4, h5, rfl, rfl⟩ := cmp_cpy e
      exact cpyR_w h1 h2 h3 h4 h5 hd h
    · rw [hop] at e
      obtain ⟨args, tys, a, c, t, tx, el, h1, h2, h3, h4, h5, rfl, rfl⟩ := cmp_cpy e
      exact cpy_w h1 h2 h3 h4 h5 hd h
    · exact h.elim
  · rename_i e
    rw [hop] at e
    obtain ⟨args, tys, a, c, t, tx, el, inf, kn, h1, h2, h3, h4, h5, h6, h7, h8, h9, rfl, rfl, rfl⟩ := cmp_apz e
    exact apz_w h1 h2 h3 h4 h5 h6 h7 h8 h9 hd h
  · rename_i e
    rw [hop] at e
    obtain ⟨args, tys, a, t, el, h1, h2, h3, h4, h5, h6, rfl⟩ := cmp_clr e
    rw [← hdst] at h
    exact clr_w h1 h2 h3 h4 h5 h6 (hdst ▸ h)
  · rename_i e
    rw [hop] at e
    obtain ⟨ef, h1, h2⟩ := h
    exact ⟨ef, h1, h2 E nt o hE e rfl hd⟩
  · rename_i e
    split at h
    · rename_i hd4
      rw [← e, hop] at h
      exact born_w hd (by rw [hd4]; simp) h
    · rw [← e, hop] at h
      exact val_w hd h
  · rename_i e
    split at h
    · rename_i hd4
      rw [← e, hop] at h
      exact born_w hd (by rw [hd4]; simp) h
    · rw [← e, hop] at h
      exact val_w hd h
  · rw [hop] at h
    exact val_w hd h
def wantS (F : Nat → Option V) : Option (Tmp × Bool) → Option Bool
  | none => some true
  | some (t, want) => match F t with
    | some (.bool b) => some (b == want)
    | some (.opt c (.bool b)) => some (c && (b == want))
    | some (.tup []) => some false
    | _ => none
def unF (ug : List Nat) (F : Nat → Option V) (t : Nat) : Option V := if memN t ug then (F t).map V.un else F t
def gus (F : Nat → Option V) (c : Bool) : List Nat → Prop
  | [] => True
  | t :: l => (match F t with
    | some x => x.gu (c = true)
    | none => True) ∧ gus F c l
def freshN (bn : List Nat) : List Nat → Bool
  | [] => true
  | k :: l => !memN k bn && freshN bn l
theorem freshN_ok {bn : List Nat} : ∀ {l : List Nat}, freshN bn l = true → ∀ k ∈ l, k ∉ bn
  | [], _ => by simp
  | a :: l, h => by
    simp only [freshN, Bool.and_eq_true, Bool.not_eq_true'] at h
    intro k hk
    rcases List.mem_cons.1 hk with rfl | hk
    · exact not_memN h.1
    · exact freshN_ok h.2 k hk
def guardE (P : Program) [Inv P] (s : SOp) (c : Bool) (F : Nat → Option V) (M : Nat → Option Mem) (K : V → Prop) : Prop :=
  match s.op with
  | .call f args => ∃ v, (c = true → gus F c s.ug ∧ callE P (unF s.ug F) M s.dst s.key f args (· = ⟨v, [], []⟩) .mk) ∧ K v
  | op => match valO (unF s.ug F) M s.h s.df op with
    | some (p, v) => (c = true → gus F c s.ug ∧ p) ∧ K v
    | none => c = false ∧ K .undef
def isnW (F : Nat → Option V) (M : Nat → Option Mem) (ng : Bool) (x : Opd) (K : Bool → Prop) : Prop :=
  match ev F x with
  | some .nil => ∀ b, K b
  | some (.sl dep _ rows) => liveD M dep ∧ ∀ b, (rows ≠ [] → b = ng) → K b
  | some (.ref κ _ len) => (match M κ with
    | some (.arr _) => True
    | _ => False) ∧ ∀ b, (len ≠ 0 → b = ng) → K b
  | _ => False
def RW (P : Program) [Inv P] : List SOp → St → (St → Prop) → Prop
  | [], st, K => K st
  | s :: l, st, K =>
    match s.gd with
    | none => match s.op with
      | .isn ng x => isnW st.F st.M ng x fun b => RW P l (st.app s.dst ⟨.bool b, [], []⟩) K
      | .load x n agg => match s.h with
        | 5 => takeVE st.F st.M s.key s.df s.ug x n agg fun e => freshN st.bn e.nk = true ∧ RW P l (st.app s.dst e) K
        | _ => stepE P s st.F st.M fun e => freshN st.bn e.nk = true ∧ RW P l (st.app s.dst e) K
      | _ => stepE P s st.F st.M fun e => freshN st.bn e.nk = true ∧ RW P l (st.app s.dst e) K
    | some g => match wantS st.F (some g) with
      | some c => match s.h with
        | 14 => match s.op with
          | .call f args => (c = true → gus st.F c s.ug ∧ callE P (unF s.ug st.F) st.M s.dst s.key f args (fun e => freshN st.bn e.nk = true ∧ RW P l (st.app s.dst ⟨.opt true e.val, e.wm, e.nk⟩) K) .mk) ∧
            (c = false → RW P l (st.app s.dst ⟨.opt false .undef, [], []⟩) K)
          | _ => False
        | _ => guardE P s c st.F st.M fun v => RW P l (st.app s.dst ⟨.opt c v, [], []⟩) K
      | none => False
theorem opd_nl {o : Operand} (h : opd o = .nl) : o = .const (.slice none 0 0) := by
  unfold opd at h
  split at h <;> first | rfl | (exact absurd h (by simp))
set_option maxHeartbeats 1000000 in
theorem cmp_isn {P : Program} {op : Op} {ng : Bool} {x : Opd} (h : cmp P op = .isn ng x) : ∃ t a ty e, op = .binOp (match ng with | false => .eql | true => .neq) t a (.const (.slice none 0 0)) ty ∧ P.underlying t = some (.slice e) ∧ x = opd a := by
  unfold cmp cmpBuiltin at h
  repeat' split at h
  all_goals first
    | (simp only [AOp.isn.injEq] at h; obtain ⟨rfl, rfl⟩ := h; exact ⟨_, _, _, _, by (rename_i hy; rw [opd_nl hy]), by assumption, rfl⟩)
    | (exact absurd h (by simp))
theorem run_isn {P : Program} {t e : TypeId} (ht : P.underlying t = some (.slice e)) (base : Option Addr) (n c : Nat) (w : World) :
    (binOp .eql t (.slice base n c) (.slice none 0 0)).run P w = .ok (.bool base.isNone) w ∧ (binOp .neq t (.slice base n c) (.slice none 0 0)).run P w = .ok (.bool (!base.isNone)) w := by
  have e : (Op.equal t (.slice base n c) (.slice none 0 0)).run P w = .ok base.isNone w := by
    unfold Op.equal Op.maxDepth Op.equalIn
    cases base <;> simp only [Sem.run_bind, run_underlying ht, Result.andThen_ok, Sem.run_pure] <;> rfl
  constructor
  · simp only [binOp, Sem.run_bind, e, Result.andThen_ok, Sem.run_pure]
  · simp only [binOp, Sem.run_bind, e, Result.andThen_ok, Sem.run_pure]
theorem isn_ok {P : Program} {E : Env} {nt : Nat} {s : SF} {g : Gh} {a : Act} {w : World} (h : Sim E nt s g a w) {o : Oper} {ng : Bool} {x : Opd} {K : Bool → Prop} (ho : cmp P o.op = .isn ng x) (hw : isnW s.F s.M ng x K) : ∃ b, K b ∧ (execOp a.eval o).run P w = .ok (.value (.bool b)) w := by
  obtain ⟨t, y, ty, e, e1, e2, rfl⟩ := cmp_isn ho
  have key : ∃ base n c b, a.eval y = .slice base n c ∧ K b ∧ (b = (base.isNone != ng)) := by
    unfold isnW at hw
    split at hw
    · rename_i hx
      have := ev_ok h hx
      simp only [VRep] at this
      obtain ⟨base, e⟩ := this
      exact ⟨base, 0, 0, _, e, hw _, rfl⟩
    · rename_i dep sz rows hx
      have := ev_ok h hx
      simp only [VRep] at this
      have hr := this.2 (liveD_ok h hw.1)
      simp only [RoT] at hr
      obtain ⟨base, cap, xs, e, _, _, _, hb⟩ := hr
      refine ⟨base, _, _, _, e, hw.2 _ fun hne => ?_, rfl⟩
      obtain ⟨b, o, e, _⟩ := hb hne
      rw [e]
      cases ng <;> rfl
    · rename_i κ off len hx
      have := ev_ok h hx
      simp only [VRep] at this
      obtain ⟨base, cap, sz, base', hab, hcap, hv, _, hb1⟩ := this
      refine ⟨base', _, _, _, hv, hw.2 _ fun hne => ?_, rfl⟩
      have hM := hw.1
      split at hM
      · rename_i A hA
        obtain ⟨base2, cap2, hab2, _, hown, _⟩ := h.mem κ _ hA
        rw [hab] at hab2
        simp only [Option.some.injEq, Prod.mk.injEq] at hab2
        obtain ⟨rfl, rfl, rfl⟩ := hab2
        simp only [OwT] at hown
        obtain ⟨base3, cap3, e3, _, _, hr⟩ := hown
        cases e3
        rcases hr with ⟨_, e0⟩ | ⟨b, cur, el, e4, _⟩
        · omega
        · rw [hb1 hne, e4]
          cases ng <;> rfl
      · exact hM.elim
    · exact hw.elim
  obtain ⟨base, n, c, b, hy, hK, hb⟩ := key
  refine ⟨b, hK, ?_⟩
  unfold execOp
  rw [e1]; dsimp only
  have hg : ∀ op, (eqGuard op t y (.const (.slice none 0 0)) (.slice base n c) (.slice none 0 0)).run P w = .ok () w := by
    intro op
    unfold eqGuard
    cases op <;> simp
  obtain ⟨r1, r2⟩ := run_isn e2 base n c w
  have hc : a.eval (.const (.slice none 0 0)) = .slice none 0 0 := rfl
  cases ng
  · simp only [Sem.run_bind, hg, hy, hc, Result.andThen_ok, r1, Sem.run_pure, hb, Bool.bne_false]
  · simp only [Sem.run_bind, hg, hy, hc, Result.andThen_ok, r2, Sem.run_pure, hb, Bool.bne_true]
theorem gus_mem {F : Nat → Option V} {c : Bool} : ∀ {ug : List Nat} {t : Nat} {y : V}, gus F c ug → t ∈ ug → F t = some y → y.gu (c = true)
  | u :: l, t, y, hg, hm, hy => by
    simp only [gus] at hg
    rcases List.mem_cons.1 hm with rfl | hm
    · have := hg.1
      rw [hy] at this
      exact this
    · exact gus_mem hg.2 hm hy
theorem Sim.refr {E : Env} {nt : Nat} {s : SF} {g : Gh} {a : Act} {w : World} (h : Sim E nt s g a w) {F' : Nat → Option V} (hF : ∀ t x, F' t = some x → ∃ y, s.F t = some y ∧ ∀ v, VRep w g y v → VRep w g x v) : Sim E nt ⟨F', s.M, s.B⟩ g a w :=
  { h with nt := h.nt, defers := h.defers, frame := fun t x hx => (match hF t x hx with | ⟨y, hy, hv⟩ => hv _ (h.frame t y hy)) }
theorem un_back {w : World} {g : Gh} {x : V} {v : Value} (hg : x.gu True) (h : VRep w g x.un v) : VRep w g x v := by
  cases x with
  | opt c y =>
    have hc : c = true := hg trivial
    subst hc
    simp only [VRep]
    exact ⟨fun _ => h, fun e => by cases e⟩
  | _ => exact h
theorem EffS.opt {P : Program} {E : Env} {nt : Nat} {o : Oper} {F : Nat → Option V} {M : Nat → Option Mem} {ug : List Nat} {e : Eff} (hg : gus F true ug) (he : EffS P E nt o (unF ug F) M e) : EffS P E nt o F M ⟨.opt true e.val, e.wm, e.nk⟩ := by
  intro sf hsub hfr g a w hs K' Q hK'
  let F2 : Nat → Option V := fun t => if memN t ug = true ∧ (F t).isSome then (sf.F t).map V.un else sf.F t
  have hgt : ∀ t y, memN t ug = true ∧ (F t).isSome → sf.F t = some y → y.gu True := fun t y hm hy => by
    cases hF : F t with
    | none => rw [hF] at hm; cases hm.2
    | some x =>
      have := hsub.1 _ _ hF
      rw [hy] at this
      cases this
      have := gus_mem hg (memN_iff.1 hm.1) hF
      cases y <;> first | exact fun _ => this rfl | trivial
  have hs2 : Sim E nt ⟨F2, sf.M, sf.B⟩ g a w := by
    refine hs.refr fun t x hx => ?_
    simp only [F2] at hx
    split at hx
    · rename_i hm
      simp only [Option.map_eq_some_iff] at hx
      obtain ⟨y, hy, rfl⟩ := hx
      exact ⟨y, hy, fun v hv => un_gu hv trivial (hgt t y hm hy)⟩
    · exact ⟨x, hx, fun v hv => hv⟩
  have hsub2 : Sub (unF ug F) M ⟨F2, sf.M, sf.B⟩ := by
    refine ⟨fun t x hx => ?_, hsub.2⟩
    simp only [unF] at hx
    show F2 t = some x
    simp only [F2]
    split at hx
    · rename_i hm
      simp only [Option.map_eq_some_iff] at hx
      obtain ⟨y, hy, e9⟩ := hx
      rw [if_pos ⟨hm, by rw [hy]; rfl⟩, hsub.1 _ _ hy]
      simp [e9]
    · rename_i hm
      rw [if_neg (fun hm2 => hm hm2.1)]
      exact hsub.1 _ _ hx
  refine he ⟨F2, sf.M, sf.B⟩ hsub2 hfr g a w hs2 K' Q fun g' a' w' h' => hK' g' a' w' ?_
  have h2 := h'.refr (F' := (sf.app o.dst ⟨.opt true e.val, e.wm, e.nk⟩).F) (by
    intro t x hx
    have key : ∀ t x, sf.F t = some x → ∃ y, F2 t = some y ∧ ∀ v, VRep w' g' y v → VRep w' g' x v := by
      intro t x hx
      simp only [F2]
      split
      · rename_i hm
        exact ⟨x.un, by rw [hx]; rfl, fun v hv => un_back (hgt t x hm hx) hv⟩
      · exact ⟨x, hx, fun v hv => hv⟩
    cases hd : o.dst with
    | none =>
      rw [hd] at hx
      exact key t x hx
    | some d =>
      rw [hd] at hx
      simp only [SF.app, SF.put] at hx ⊢
      split at hx
      · rename_i e
        cases hx
        rw [if_pos e]
        refine ⟨_, rfl, fun u hu => ?_⟩
        simp only [VRep]
        exact ⟨fun _ => hu, fun e => by cases e⟩
      · rename_i e
        rw [if_neg e]
        exact key t x hx)
  exact h2.less (fun _ _ hx => hx) (fun k m hm => hm) (fun k hk => hk)
theorem guardE_ok {P : Program} [Inv P] {E : Env} {nt : Nat} {o : Oper} {s : SOp} {F : Nat → Option V} {M : Nat → Option Mem} {c : Bool} {K : V → Prop} (hE : EnvOk P E) (hop : s.op = cmp P o.op) (hdst : s.dst = o.dst) (hd : dstOk nt o.dst) (h : guardE P s c F M K) :
    ∃ v, K v ∧ (c = true → EffS P E nt o F M ⟨.opt c v, [], []⟩) := by
  unfold guardE at h
  split at h
  · rename_i f args e
    obtain ⟨v, h1, h2⟩ := h
    refine ⟨v, h2, fun hc => ?_⟩
    subst hc
    obtain ⟨hg, ef, rfl, h3⟩ := h1 rfl
    rw [hop] at e
    exact EffS.opt hg (h3 E nt o hE e hdst.symm hd)
  · split at h
    · rename_i p v hq
      refine ⟨v, h.2, fun hc => ?_⟩
      subst hc
      obtain ⟨hg, hp⟩ := h.1 rfl
      rw [hop] at hq
      exact EffS.opt hg (Sub.loc hd (valO_ok hq hp))
    · obtain ⟨h1, h2⟩ := h
      exact ⟨_, h2, fun hc => by rw [h1] at hc; cases hc⟩
inductive SC where
  | skip
  | reg (draw : Bool) (ops : List SOp) (lv : Option (List Nat × List Nat))
  | seq (a b : SC)
  | cond (c : Opd) (a b : SC)
  | block (id : Nat) (c : SC)
  | loop (c : SC)
  | exit (id : Nat)
  | ret
def ss (d : Nat) (op : AOp) : SOp := ⟨some d, op, none, [], 0, 0, [], [], [], []⟩
def sx (op : AOp) : SOp := ⟨none, op, none, [], 0, 0, [], [], [], []⟩
def sh (d h : Nat) (op : AOp) : SOp := ⟨some d, op, none, [], h, 0, [], [], [], []⟩
def sk (d key : Nat) (op : AOp) : SOp := ⟨some d, op, none, [], 0, key, [], [], [], []⟩
def sxk (key : Nat) (op : AOp) : SOp := ⟨none, op, none, [], 0, key, [], [], [], []⟩
def sg (d : Nat) (op : AOp) (t : Nat) (w : Bool) (ug : List Nat) : SOp := ⟨some d, op, some (t, w), [], 0, 0, [], ug, [], []⟩
def rg (ops : List SOp) (ts : List Nat) : SC := .reg false ops (some (ts, []))
def SOp.er (s : SOp) : SOp := ⟨s.dst, s.op, s.gd, s.lk, 0, 0, [], [], [], []⟩
def tabs (l : List SOp) : List (List Nat × List Nat) := l.map fun s => (s.rk, s.wk)
def dstB (nt : Nat) : Option Tmp → Bool
  | some d => decide (d < nt)
  | none => true
def storeB : AOp → Option Tmp → Bool
  | .store .., d => d.isNone
  | _, _ => true
def gdO (ops : Array Oper) : Option (Nat × Bool) → Option (Option (Tmp × Bool))
  | none => some none
  | some (j, want) => match (ops[j]?).bind (·.dst) with
    | some t => some (some (t, want))
    | none => none
def compO (P : Program) (nt : Nat) (ops : Array Oper) (draw : Bool) (o : Oper) : Option SOp :=
  match gdO ops o.guard with
  | some gd => if dstB nt o.dst && storeB (cmp P o.op) o.dst then some ⟨o.dst, cmp P o.op, gd, if draw then o.looksAt ops else [], 0, 0, [], [], [], []⟩ else none
  | none => none
def compOs (P : Program) (nt : Nat) (ops : Array Oper) (draw : Bool) : List Oper → Option (List SOp)
  | [] => some []
  | o :: l => match compO P nt ops draw o, compOs P nt ops draw l with
    | some s, some ss => some (s :: ss)
    | _, _ => none
theorem dstB_ok {nt : Nat} {d : Option Tmp} (h : dstB nt d = true) : dstOk nt d := by
  cases d with
  | none => trivial
  | some d => simpa [dstB, dstOk] using h
structure Fit (P : Program) (nt : Nat) (ops : Array Oper) (draw : Bool) (o : Oper) (s : SOp) : Prop where
  op : s.op = cmp P o.op
  dst : s.dst = o.dst
  dok : dstOk nt o.dst
  st : (∃ x v n, s.op = .store x v n) → o.dst = none
  gd : gdO ops o.guard = some s.gd
  lk : draw = true → s.lk = (o.looksAt ops).map id
theorem compO_fit {P : Program} {nt : Nat} {ops : Array Oper} {draw : Bool} {o : Oper} {s : SOp} (h : compO P nt ops draw o = some s.er) : Fit P nt ops draw o s := by
  unfold compO at h
  split at h
  · rename_i gd hg
    split at h
    · rename_i hc
      simp only [Bool.and_eq_true] at hc
      simp only [Option.some.injEq, SOp.er, SOp.mk.injEq] at h
      obtain ⟨h1, h2, h3, h4, _⟩ := h
      refine ⟨h2.symm, h1.symm, dstB_ok hc.1, fun ⟨x, v, n, e⟩ => ?_, by rw [hg, h3], fun hd => ?_⟩
      · have := hc.2
        rw [h2, e] at this
        simpa [storeB] using this
      · rw [← h4, hd]
        simp
    · cases h
  · cases h
theorem compOs_cons {P : Program} {nt : Nat} {ops : Array Oper} {draw : Bool} {o : Oper} {l : List Oper} {ss : List SOp} (h : compOs P nt ops draw (o :: l) = some (ss.map SOp.er)) : ∃ s ss', ss = s :: ss' ∧ Fit P nt ops draw o s ∧ compOs P nt ops draw l = some (ss'.map SOp.er) := by
  simp only [compOs] at h
  split at h
  · rename_i s1 ss1 h1 h2
    cases ss with
    | nil => simp at h
    | cons s ss' =>
      simp only [List.map_cons, Option.some.injEq, List.cons.injEq] at h
      obtain ⟨e1, e2⟩ := h
      exact ⟨s, ss', rfl, compO_fit (by rw [h1, e1]), by rw [h2, e2]⟩
  · cases h
theorem compOs_nil {P : Program} {nt : Nat} {ops : Array Oper} {draw : Bool} {ss : List SOp} (h : compOs P nt ops draw [] = some (ss.map SOp.er)) : ss = [] := by
  simp only [compOs, Option.some.injEq] at h
  exact List.map_eq_nil_iff.1 h.symm
theorem wanted_of {E : Env} {nt : Nat} {s : SF} {g : Gh} {a : Act} {w : World} (h : Sim E nt s g a w) {ops : Array Oper} {o : Oper} {gd : Option (Tmp × Bool)} {b : Bool} (hg : gdO ops o.guard = some gd) (hw : wantS s.F gd = some b) : Region.wanted o (yielded ops a.tmps) = b := by
  unfold Region.wanted
  cases ho : o.guard with
  | none =>
    rw [ho] at hg
    simp only [gdO, Option.some.injEq] at hg
    subst hg
    simp only [wantS, Option.some.injEq] at hw
    rw [← hw]
  | some jw =>
    obtain ⟨j, want⟩ := jw
    rw [ho] at hg
    simp only [gdO] at hg
    split at hg
    · rename_i t ht
      cases hg
      dsimp only
      have hin : ∀ v, a.tmps.getD t undef = v → v ≠ undef → a.tmps[t]? = some v := fun v hv hne => by
        rw [Array.getD_eq_getD_getElem?] at hv
        cases hc : a.tmps[t]? with
        | none => rw [hc] at hv; exact absurd hv.symm hne
        | some u => rw [hc] at hv; simp at hv; rw [hv]
      have hno : a.tmps.getD t undef = .tuple #[] → (match yielded ops a.tmps j with | x => (x == some want)) = false := fun e1 => by
        unfold yielded
        rw [ht]
        simp only [Option.bind_some]
        cases hc : a.tmps[t]? with
        | none => rfl
        | some u =>
          rw [Array.getD_eq_getD_getElem?, hc] at e1
          simp at e1
          rw [e1]
          rfl
      simp only [wantS] at hw
      split at hw
      · rename_i c hF
        cases hw
        have := h.frame t _ hF
        simp only [VRep] at this
        have := hin _ this (by simp [undef])
        unfold yielded
        rw [ht]
        simp only [Option.bind_some, this]
        cases c <;> cases want <;> rfl
      · rename_i c' c hF
        cases hw
        have := h.frame t _ hF
        simp only [VRep] at this
        cases c' with
        | true =>
          have := hin _ (this.1 rfl) (by simp [undef])
          unfold yielded
          rw [ht]
          simp only [Option.bind_some, this]
          cases c <;> cases want <;> rfl
        | false => exact hno (this.2 rfl)
      · rename_i hF
        cases hw
        have := h.frame t _ hF
        simp only [VRep, VRepL] at this
        obtain ⟨cs, e1, rfl⟩ := this
        exact hno e1
      · cases hw
    · cases hg
theorem opt_undef {w : World} {g : Gh} {x : V} : VRep w g (.opt false x) undef := by
  simp only [VRep]
  exact ⟨fun e => (by cases e), fun _ => rfl⟩
theorem St.app_sf' {E : Env} {nt : Nat} {g : Gh} {a : Act} {w : World} {st : St} {s : SOp} {o : Oper} {e : Eff} (hd : s.dst = o.dst) (h : Sim E nt (st.sf.app o.dst e) g a w) : Simm E nt (st.app s.dst e) a w := ⟨g, St.app_sf (by rw [hd]; exact h)⟩
theorem Sub.self (s : SF) : Sub s.F s.M s := ⟨fun _ _ h => h, fun _ _ h => h⟩
theorem skip_sf {E : Env} {nt : Nat} {s : SF} {g : Gh} {a : Act} {w : World} (h : Sim E nt s g a w) {d : Option Tmp} (hd : dstOk nt d) (v : V) : Sim E nt (s.app d ⟨.opt false v, [], []⟩) g (a.put d undef) w := by
  have e : s.app d ⟨.opt false v, [], []⟩ = s.put d (.opt false v) := by cases d <;> simp [SF.app, SF.put, look]
  rw [e]
  exact h.put hd opt_undef
theorem RW_ok {P : Program} [Inv P] {E : Env} {nt : Nat} (hE : EnvOk P E) {ops : Array Oper} {Q : Exit → Act → World → Prop} {K : St → Prop} (hK : ∀ st a w, K st → Simm E nt st a w → Q .normal a w) : ∀ (l : List Oper) (ss : List SOp) (st : St) (a : Act) (w : World), compOs P nt ops false l = some (ss.map SOp.er) →
    RW P ss st K → Simm E nt st a w → wpList P ops Q l a w
  | [], ss, st, a, w, hl, h, hs => by
    have := compOs_nil hl
    subst this
    exact hK st a w h hs
  | o :: l, ss, st, a, w, hl, h, hs => by
    obtain ⟨s, ss', rfl, hf, hl'⟩ := compOs_cons hl
    obtain ⟨g, hs⟩ := hs
    simp only [RW] at h
    split at h
    · rename_i hg
      refine wpList_step fun K' hK' => ?_
      have hw : Region.wanted o (yielded ops a.tmps) = true := wanted_of hs hf.gd (by rw [hg]; rfl)
      rw [if_pos hw]
      split at h
      · rename_i ng x he
        have hop := hf.op
        rw [he] at hop
        obtain ⟨b, hb, hrun⟩ := isn_ok (s := st.sf) hs hop.symm h
        unfold Oper.wp
        rw [hrun, Oper.upon_value]
        refine hK' _ _ (RW_ok hE hK l ss' _ _ w hl' hb (St.app_sf' (g := g) hf.dst ?_))
        have e : st.sf.app o.dst ⟨.bool b, [], []⟩ = st.sf.put o.dst (.bool b) := by cases o.dst <;> simp [SF.app, SF.put, look]
        rw [e]
        exact hs.put hf.dok (by simp only [VRep])
      · rename_i x n agg he
        split at h
        · have hop := hf.op
          rw [he] at hop
          obtain ⟨t, ad, h1, h2, h3, rfl⟩ := cmp_load hop.symm
          obtain ⟨e, u, g', ⟨hfr, hk⟩, hrun, hs'⟩ := takeV_ok (s := st.sf) hs h1 h2 h3 hf.dok h (fun e he k hk => freshN_ok he.1 k hk)
          unfold Oper.wp
          rw [hrun, Oper.upon_value]
          exact hK' _ _ (RW_ok hE hK l ss' _ _ w hl' hk (St.app_sf' (g := g') hf.dst hs'))
        · obtain ⟨e, ⟨h1, h2⟩, h3⟩ := stepE_ok hE hf.op hf.dst hf.dok hf.st h
          refine h3 st.sf (show Sub st.F st.M st.sf from ⟨fun _ _ h => h, fun _ _ h => h⟩) (freshN_ok h1) g a w hs _ _ fun g' a' w' h' => ?_
          exact hK' _ _ (RW_ok hE hK l ss' _ a' w' hl' h2 (St.app_sf' hf.dst h'))
      obtain ⟨e, ⟨h1, h2⟩, h3⟩ := stepE_ok hE hf.op hf.dst hf.dok hf.st h
      refine h3 st.sf (show Sub st.F st.M st.sf from ⟨fun _ _ h => h, fun _ _ h => h⟩) (freshN_ok h1) g a w hs _ _ fun g' a' w' h' => ?_
      exact hK' _ _ (RW_ok hE hK l ss' _ a' w' hl' h2 (St.app_sf' hf.dst h'))
    · rename_i gd hg
      rw [← hg] at h
      split at h
      · rename_i c hc
        have hw : Region.wanted o (yielded ops a.tmps) = c := wanted_of hs hf.gd hc
        split at h
        · split at h
          · rename_i f args he
            obtain ⟨ht, hf0⟩ := h
            refine wpList_step fun K' hK' => ?_
            rw [hw]
            cases c with
            | true =>
              simp only [if_true]
              obtain ⟨hg2, e, ⟨hfr, hk⟩, h3⟩ := ht rfl
              have hop := hf.op
              rw [he] at hop
              have h4 := EffS.opt hg2 (h3 E nt o hE hop.symm hf.dst.symm hf.dok)
              refine h4 st.sf (show Sub st.F st.M st.sf from ⟨fun _ _ h => h, fun _ _ h => h⟩) (freshN_ok hfr) g a w hs _ _ fun g' a' w' h' => ?_
              exact hK' _ _ (RW_ok hE hK l ss' _ a' w' hl' hk (St.app_sf' hf.dst h'))
            | false =>
              simp only [Bool.false_eq_true, if_false]
              exact hK' _ _ (RW_ok hE hK l ss' _ _ w hl' (hf0 rfl) (St.app_sf' hf.dst (skip_sf hs hf.dok _)))
          · exact h.elim
        · obtain ⟨v, h1, h2⟩ := guardE_ok hE hf.op hf.dst hf.dok h
          refine wpList_step fun K' hK' => ?_
          rw [hw]
          cases c with
          | true =>
            simp only [if_true]
            refine h2 rfl st.sf (show Sub st.F st.M st.sf from ⟨fun _ _ h => h, fun _ _ h => h⟩) (by simp) g a w hs _ _ fun g' a' w' h' => ?_
            exact hK' _ _ (RW_ok hE hK l ss' _ a' w' hl' h1 (St.app_sf' hf.dst h'))
          | false =>
            simp only [Bool.false_eq_true, if_false]
            exact hK' _ _ (RW_ok hE hK l ss' _ _ w hl' h1 (St.app_sf' hf.dst (skip_sf hs hf.dok v)))
      · exact h.elim
def onlyN {β : Type} (ks : List Nat) (F : Nat → Option β) (t : Nat) : Option β := if memN t ks then F t else none
def subN : List Nat → List Nat → Bool
  | [], _ => true
  | k :: l, ks => memN k ks && subN l ks
def disjN : List Nat → List Nat → Bool
  | [], _ => true
  | k :: l, ks => !memN k ks && disjN l ks
theorem subN_ok {ks : List Nat} : ∀ {l : List Nat}, subN l ks = true → ∀ k ∈ l, k ∈ ks
  | [], _ => by simp
  | a :: l, h => by
    simp only [subN, Bool.and_eq_true] at h
    intro k hk
    rcases List.mem_cons.1 hk with rfl | hk
    · exact memN_iff.1 h.1
    · exact subN_ok h.2 k hk
theorem disjN_ok {ks : List Nat} : ∀ {l : List Nat}, disjN l ks = true → ∀ k ∈ l, k ∉ ks
  | [], _ => by simp
  | a :: l, h => by
    simp only [disjN, Bool.and_eq_true, Bool.not_eq_true'] at h
    intro k hk
    rcases List.mem_cons.1 hk with rfl | hk
    · exact not_memN h.1
    · exact disjN_ok h.2 k hk
theorem look_mem {β : Type} {k : Nat} {x : β} : ∀ {l : List (Nat × β)}, look k l = some x → k ∈ l.map (·.1)
  | [], h => by simp [look] at h
  | (a, b) :: l, h => by
    simp only [look] at h
    split at h
    · rename_i e; simp [e]
    · simp only [List.map_cons, List.mem_cons]; exact .inr (look_mem h)
def okJ (J : Option (Nat × Nat)) (M : Nat → Option Mem) : Prop := match J with
  | none => True
  | some (κ, i) => match M κ with
    | some (.var cells) => i < 1000000 ∧ cells[i]? = some .nil
    | some (.arr A) => i = A.sz + 1000000
    | _ => False
def arrJ (J : Option (Nat × Nat)) : Bool := match J with
  | none => false
  | some (_, i) => !decide (i < 1000000)
def keepJ (J : Option (Nat × Nat)) (wm : List (Nat × Option Mem)) : Prop := match J with
  | none => True
  | some (κ, i) => match look κ wm with
    | none => True
    | some (some (.var cells)) => i < 1000000 ∧ cells[i]? = some .nil
    | some (some (.arr A)) => i = A.sz + 1000000
    | _ => False
theorem keepJ_none (wm : List (Nat × Option Mem)) : keepJ none wm = True := rfl
theorem keepJ_nil (J : Option (Nat × Nat)) : keepJ J [] := by
  unfold keepJ
  split
  · trivial
  · simp only [look]
theorem okJ_app {J : Option (Nat × Nat)} {s : SF} {d : Option Tmp} {e : Eff} (h : okJ J s.M) (hk : keepJ J e.wm) : okJ J (s.app d e).M := by
  unfold okJ keepJ at *
  cases J with
  | none => trivial
  | some x =>
    obtain ⟨κ, i⟩ := x
    simp only at h hk ⊢
    simp only [SF.app]
    cases hl : look κ e.wm with
    | none => exact h
    | some m =>
      rw [hl] at hk
      cases m with
      | none => exact hk.elim
      | some m2 => cases m2 with
        | var cells => exact hk
        | arr A => exact hk
def EffJ (P : Program) (J : Option (Nat × Nat)) (E : Env) (nt : Nat) (o : Oper) (F : Nat → Option V) (M : Nat → Option Mem) (e : Eff) : Prop :=
  ∀ s : SF, okJ J s.M → Sub F M s → (∀ k ∈ e.nk, ¬ s.B k) → OpS P E nt o s (s.app o.dst e)
def ldJ (κ i : Nat) (s : SOp) (F : Nat → Option V) (K : Eff → Prop) : Prop := match s.op with
  | .load x n agg => n = 1 ∧ agg = false ∧ memN κ s.rk = true ∧ ev F x = some (.vptr κ i) ∧ i < 1000000 ∧ K ⟨.nil, [], []⟩
  | .sll x lo hi none n => match ev F x with
    | some (.ref κ2 off len) => match bnd F 0 lo, bnd F len hi with
      | some l, some h => κ2 = κ ∧ i = n + 1000000 ∧ memN κ s.rk = true ∧ 0 ≤ l ∧ l ≤ h ∧ h ≤ len ∧ K ⟨.ref κ (off + l.toNat) (h - l).toNat, [], []⟩
      | _, _ => False
    | _ => False
  | _ => False
def stepJ (P : Program) [Inv P] (J : Option (Nat × Nat)) (s : SOp) (F : Nat → Option V) (M : Nat → Option Mem) (K : Eff → Prop) : Prop := match J with
  | none => stepE P s F M K
  | some (κ, i) => match s.h with
    | 11 => ldJ κ i s F K
    | _ => stepE P s F M K
theorem stepJ_none (P : Program) [Inv P] (s : SOp) (F : Nat → Option V) (M : Nat → Option Mem) (K : Eff → Prop) : stepJ P none s F M K = stepE P s F M K := rfl
def h11 (hs : List Nat) (i : Nat) : Bool := Nat.beq (hs.getD i 0) 11
def hdN : List Nat → Nat
  | [] => 0
  | x :: _ => x
def jOf : List SOp → Option (Nat × Nat)
  | [] => none
  | s :: l => match s.h with
    | 11 => some (s.key, hdN s.ug)
    | _ => jOf l
def hsOf (ss : List SOp) : List Nat := match jOf ss with
  | none => []
  | some _ => ss.map fun s => match s.gd with
    | none => s.h
    | some _ => 0
def keepS (J : Option (Nat × Nat)) (s : SOp) (wm : List (Nat × Option Mem)) : Prop := match J with
  | none => True
  | some x => match s.h with
    | 12 => match arrJ (some x) with
      | true => keepJ (some x) wm
      | false => True
    | _ => keepJ (some x) wm
theorem keepS_none (s : SOp) (wm : List (Nat × Option Mem)) : keepS none s wm = True := rfl
set_option maxHeartbeats 1000000 in
theorem cmp_sll {P : Program} {op : Op} {x : Opd} {lo hi mx : Option Opd} {n : Nat} (h : cmp P op = .sll x lo hi mx n) : ∃ t e a l h' m, op = .slice t a l h' m ∧ P.underlying t = some (.slice e) ∧ tySz P e = some n ∧ x = opd a ∧ lo = l.map opd ∧ hi = h'.map opd ∧ mx = m.map opd := by
  unfold cmp cmpBuiltin at h
  repeat' split at h
  all_goals first
    | (simp only [AOp.sll.injEq] at h; obtain ⟨rfl, rfl, rfl, rfl, rfl⟩ := h; exact ⟨_, _, _, _, _, _, rfl, by assumption, by assumption, rfl, rfl, rfl, rfl⟩)
    | (exact absurd h (by simp))
theorem q_sllR {P : Program} {E : Env} {nt : Nat} {o : Oper} {s : SF} {t e : TypeId} {x : Operand} {lo hi : Option Operand} {n κ off len : Nat} {A : Arr} {l hh : Int} (ho : o.op = .slice t x lo hi none) (hu : P.underlying t = some (.slice e)) (hn : tySz P e = some n) (hx : ev s.F (opd x) = some (.ref κ off len)) (hA : s.M κ = some (.arr A)) (hsz : A.sz = n)
    (hl : bnd s.F 0 (lo.map opd) = some l) (hhi : bnd s.F len (hi.map opd) = some hh) (h0 : 0 ≤ l) (h1' : l ≤ hh) (h2 : hh ≤ len) : Quiet P E nt o s (.ref κ (off + l.toNat) (hh - l).toNat) := by
  intro g a w hs
  have h1 := ev_ok hs hx
  simp only [VRep] at h1
  obtain ⟨base, cap, sz, base', hab, hcap, hv, hb0, hbase⟩ := h1
  obtain ⟨base2, cap2, hab2, _⟩ := hs.mem κ _ hA
  rw [hab] at hab2
  cases hab2
  subst hsz
  have hbn := run_bounds (P := P) hs (isS := true) (cap := cap - off) (mx := none) hl hhi rfl h0 h1' (by omega) (Int.le_refl _) (fun e => by cases e)
  simp only [Option.map_none] at hbn
  have ec : ((cap - off : Nat) : Int).toNat = cap - off := by omega
  rw [ec] at hbn
  refine ⟨.slice (if cap - off = l.toNat then base' else base'.map (·.add (l.toNat * A.sz))) (hh.toNat - l.toNat) (cap - off - l.toNat), ?_, ?_⟩
  · unfold execOp
    rw [ho]; dsimp only
    rw [hv]
    simp [Instr.sliceAt, Instr.slice, run_underlying hu, hbn, run_sizeOf' hn]
  · simp only [VRep]
    refine ⟨base, cap, A.sz, _, hab, by omega, by congr 1 <;> omega, fun h0' => ?_, fun hn' => ?_⟩
    · have h3 : off = 0 := by omega
      have h4 : l.toNat = 0 := by omega
      rw [h4, hb0 h3]
      split
      · rfl
      · cases base <;> simp [Addr.add]
    · have hne2 : ¬ cap - off = l.toNat := by omega
      rw [if_neg hne2, hbase (by omega)]
      cases base with
      | none => rfl
      | some ba =>
        simp only [Option.map_some, Addr.add, Nat.add_mul]
        generalize off * A.sz = p
        generalize l.toNat * A.sz = q
        by_cases hp : p = 0 <;> by_cases hq : q = 0 <;> simp [hp, hq, Nat.add_assoc]
theorem ldJ_ok {P : Program} [Inv P] {κ i : Nat} {E : Env} {nt : Nat} {o : Oper} {s : SOp} {F : Nat → Option V} {M : Nat → Option Mem} {K : Eff → Prop} (hop : s.op = cmp P o.op) (hd : dstOk nt o.dst) (h : ldJ κ i s F K) : ∃ e, K e ∧ memN κ s.rk = true ∧ EffJ P (some (κ, i)) E nt o F M e := by
  unfold ldJ at h
  split at h
  · rename_i x n agg e
    obtain ⟨rfl, rfl, hr, hx, hi, hK⟩ := h
    refine ⟨_, hK, hr, fun sf hj hsub _ => ?_⟩
    simp only [okJ] at hj
    split at hj
    · rename_i cells hM
      have hv : valE sf.F sf.M 0 [] (cmp P o.op) (fun e => e = ⟨.nil, [], []⟩) := by
        rw [← hop, e]
        have hx2 := hsub.ev hx
        simp only [valE, valO, qO, hx2, hM, partV, hj.2, Option.map_some]
        trivial
      obtain ⟨e2, rfl, h2⟩ := val_w (E := E) hd hv
      exact h2 sf ⟨fun _ _ h => h, fun _ _ h => h⟩ (by simp)
    · omega
    · exact hj.elim
  · rename_i x lo hi n e
    split at h
    · rename_i κ2 off len hx
      split at h
      · rename_i l hh hl hhi
        obtain ⟨rfl, hi, hr, h0, h1, h2, hK⟩ := h
        refine ⟨_, hK, hr, fun sf hj hsub _ => ?_⟩
        obtain ⟨t, el, a, l', h', m, ho, hu, hn, rfl, rfl, rfl, hm⟩ := cmp_sll (hop.symm.trans e)
        have hm2 : m = none := by cases m with | none => rfl | some _ => cases hm
        subst hm2
        simp only [okJ] at hj
        split at hj
        · omega
        · rename_i A hM
          have hl2 : bnd sf.F 0 (l'.map opd) = some l := by
            cases l' with
            | none => exact hl
            | some y => simp only [Option.map_some, bnd] at hl ⊢; split at hl <;> first | (rename_i he; rw [hsub.ev he]; exact hl) | cases hl
          have hh2 : bnd sf.F len (h'.map opd) = some hh := by
            cases h' with
            | none => exact hhi
            | some y => simp only [Option.map_some, bnd] at hhi ⊢; split at hhi <;> first | (rename_i he; rw [hsub.ev he]; exact hhi) | cases hhi
          have hq := q_sllR (P := P) (E := E) (nt := nt) (s := sf) ho hu hn (hsub.ev hx) hM (by omega) hl2 hh2 h0 h1 h2
          exact hq.op hd
        · exact hj.elim
      · exact h.elim
    · exact h.elim
  · exact h.elim
structure YieldsS (P : Program) (J : Option (Nat × Nat)) (hs : List Nat) (md : Region.Mode) (E : Env) (nt : Nat) (ops : Array Oper) (o : Oper) (j1 : Bool) (R W : List Nat) (e : Eff) (s : SF) : Prop where
  dok : dstOk nt o.dst
  wm : ∀ k ∈ e.wm.map (·.1), k ∈ W
  nk : ∀ k ∈ e.nk, k ∈ W
  fresh : ∀ k ∈ e.nk, ¬ s.B k
  kp : ∀ i, h11 hs i = true → (∀ x ∈ o.after, Region.binds md x = true → x.on ≠ i) → keepJ J e.wm
  ka : arrJ J = true → keepJ J e.wm
  js : j1 = true → arrJ J = false → okJ J s.M
  jr : j1 = true → ∀ κ i, J = some (κ, i) → κ ∈ R
  go : ∃ gd c, gdO ops o.guard = some gd ∧ wantS (onlyN (o.looksAt ops) s.F) gd = some c ∧ (c = true → EffJ P (if j1 = true then J else none) E nt o (onlyN (o.looksAt ops) s.F) (onlyN (if j1 = true then [] else R) s.M) e) ∧ (c = false → ∃ v, e = ⟨.opt false v, [], []⟩)
section
variable {P : Program} {J : Option (Nat × Nat)} {hs : List Nat} {E : Env} {nt : Nat} {ops : Array Oper} {md : Region.Mode} {tab : Nat → List Nat × List Nat}
theorem app_only_F {s : SF} {d : Option Tmp} {e : Eff} {ts : List Nat} (h : ∀ x, d = some x → x ∉ ts) : onlyN ts (s.app d e).F = onlyN ts s.F := by
  funext t
  simp only [onlyN]
  split
  · rename_i hm
    have hm := memN_iff.1 hm
    cases d with
    | none => rfl
    | some d =>
      have : t ≠ d := fun e => h d rfl (by rw [← e]; exact hm)
      simp [SF.app, SF.put, this]
  · rfl
theorem app_only_M {s : SF} {d : Option Tmp} {e : Eff} {R W : List Nat} (hw : ∀ k ∈ e.wm.map (·.1), k ∈ W) (h : ∀ k ∈ W, k ∉ R) : onlyN R (s.app d e).M = onlyN R s.M := by
  funext t
  simp only [onlyN]
  split
  · rename_i hm
    have hm := memN_iff.1 hm
    simp only [SF.app]
    cases hl : look t e.wm with
    | none => rfl
    | some x => exact absurd hm (h t (hw t (look_mem hl)))
  · rfl
theorem okJ_back {s : SF} {d : Option Tmp} {e2 : Eff} {R W2 : List Nat} (hw : ∀ k ∈ e2.wm.map (·.1), k ∈ W2) (h1 : ∀ k ∈ W2, k ∉ R) (hr : ∀ κ i, J = some (κ, i) → κ ∈ R) (h : okJ J (s.app d e2).M) : okJ J s.M := by
  cases J with
  | none => trivial
  | some x =>
    obtain ⟨κ, i⟩ := x
    have hn : look κ e2.wm = none := by
      cases hl : look κ e2.wm with
      | none => rfl
      | some m => exact absurd (hr κ i rfl) (h1 κ (hw κ (look_mem hl)))
    simp only [okJ, SF.app, hn] at h ⊢
    exact h
theorem onlyN_nil {β : Type} (F G : Nat → Option β) : onlyN [] F = onlyN [] G := by
  funext t
  simp only [onlyN, memN]
  rfl
theorem YieldsS.put {o : Oper} {j1 : Bool} {R W W2 : List Nat} {e e2 : Eff} {s : SF} {d : Option Tmp} (hy : YieldsS P J hs md E nt ops o j1 R W e s) (hd : ∀ x, d = some x → x ∉ o.looksAt ops) (hw : ∀ k ∈ e2.wm.map (·.1), k ∈ W2) (hn : ∀ k ∈ e2.nk, k ∈ W2) (h1 : j1 = false → ∀ k ∈ W2, k ∉ R) (hk : j1 = true → keepJ J e2.wm) (h2 : ∀ k ∈ W2, k ∉ W) :
    YieldsS P J hs md E nt ops o j1 R W e (s.app d e2) := by
  obtain ⟨a1, a2, a3, a4, a6, a9, a7, a8, a5⟩ := hy
  refine ⟨a1, a2, a3, fun k hk hb => ?_, a6, a9, fun hj ha => okJ_app (a7 hj ha) (hk hj), a8, ?_⟩
  · rcases hb with hb | hb
    · exact h2 k (hn k hb) (a3 k hk)
    · exact a4 k hk hb
  · rw [app_only_F hd]
    cases j1 with
    | true =>
      simp only [if_true] at a5 ⊢
      rw [onlyN_nil (s.app d e2).M s.M]
      exact a5
    | false =>
      simp only [Bool.false_eq_true, if_false] at a5 ⊢
      rw [app_only_M hw (h1 rfl)]
      exact a5
theorem YieldsS.unput {o : Oper} {j1 : Bool} {R W W2 : List Nat} {e e2 : Eff} {s : SF} {d : Option Tmp} (hy : YieldsS P J hs md E nt ops o j1 R W e (s.app d e2)) (hd : ∀ x, d = some x → x ∉ o.looksAt ops) (hw : ∀ k ∈ e2.wm.map (·.1), k ∈ W2) (h1 : (j1 && arrJ J) = false → ∀ k ∈ W2, k ∉ R) :
    YieldsS P J hs md E nt ops o j1 R W e s := by
  obtain ⟨a1, a2, a3, a4, a6, a9, a7, a8, a5⟩ := hy
  refine ⟨a1, a2, a3, fun k hk hb => a4 k hk (.inr hb), a6, a9, fun hj ha => okJ_back hw (h1 (by rw [ha, Bool.and_false])) (a8 hj) (a7 hj ha), a8, ?_⟩
  rw [app_only_F hd] at a5
  cases j1 with
  | true =>
    simp only [if_true] at a5 ⊢
    rw [onlyN_nil (s.app d e2).M s.M] at a5
    exact a5
  | false =>
    simp only [Bool.false_eq_true, if_false] at a5 ⊢
    rw [app_only_M hw (h1 rfl)] at a5
    exact a5
theorem app_comm {s : SF} {d1 d2 : Option Tmp} {e1 e2 : Eff} {W1 W2 : List Nat} (hd : ∀ x, d1 = some x → d2 ≠ some x) (h1 : ∀ k ∈ e1.wm.map (·.1), k ∈ W1) (h2 : ∀ k ∈ e2.wm.map (·.1), k ∈ W2) (h : ∀ k ∈ W1, k ∉ W2) : (s.app d1 e1).app d2 e2 = (s.app d2 e2).app d1 e1 := by
  have hF : ((s.app d1 e1).app d2 e2).F = ((s.app d2 e2).app d1 e1).F := by
    funext t
    cases d1 with
    | none => cases d2 <;> rfl
    | some x =>
      cases d2 with
      | none => rfl
      | some y =>
        have : x ≠ y := fun e => hd x rfl (by rw [e])
        simp only [SF.app, SF.put]
        by_cases e1 : t = y
        · subst e1; simp; intro e; exact absurd e.symm this
        · simp [e1]
  have hM : ((s.app d1 e1).app d2 e2).M = ((s.app d2 e2).app d1 e1).M := by
    funext k
    simp only [SF.app]
    cases a1 : look k e1.wm with
    | none => cases look k e2.wm <;> rfl
    | some m1 =>
      cases a2 : look k e2.wm with
      | none => rfl
      | some m2 => exact absurd (h2 k (look_mem a2)) (h k (h1 k (look_mem a1)))
  have hB : ((s.app d1 e1).app d2 e2).B = ((s.app d2 e2).app d1 e1).B := by
    funext k
    apply propext
    simp only [SF.app]
    constructor <;> (rintro (h | h | h) <;> simp [h])
  cases hx : (s.app d1 e1).app d2 e2 with
  | mk F M B =>
    cases hy : (s.app d2 e2).app d1 e1 with
    | mk F' M' B' =>
      rw [hx, hy] at hF hM hB
      simp only at hF hM hB
      rw [hF, hM, hB]
def aOp (P : Program) (J : Option (Nat × Nat)) (hs : List Nat) (md : Region.Mode) (E : Env) (nt : Nat) (ops : Array Oper) (tab : Nat → List Nat × List Nat) (i : Nat) (K : SF → Prop) (s : SF) : Prop :=
  match ops[i]? with
  | none => K s
  | some o => ∃ e, YieldsS P J hs md E nt ops o (h11 hs i) (tab i).1 (tab i).2 e s ∧ K (s.app o.dst e)
def aAny (P : Program) (J : Option (Nat × Nat)) (hs : List Nat) (E : Env) (nt : Nat) (md : Region.Mode) (ops : Array Oper) (tab : Nat → List Nat × List Nat) (Q : SF → Prop) : Nat → Array Bool → SF → Prop
  | 0, listed, s => Region.ready md ops listed = [] ∧ Q s
  | fuel + 1, listed, s =>
    (Region.ready md ops listed = [] → Q s) ∧
    ∀ i ∈ Region.ready md ops listed, aOp P J hs md E nt ops tab i (aAny P J hs E nt md ops tab Q fuel (listed.setIfInBounds i true)) s
def Apart (j jb : Bool) (x y : List Nat × List Nat) : Prop := (jb = false → ∀ k ∈ x.2, k ∉ y.1) ∧ (j = false → ∀ k ∈ y.2, k ∉ x.1) ∧ (∀ k ∈ x.2, k ∉ y.2)
theorem aOp_mono {i : Nat} {s : SF} {K K' : SF → Prop} (h : ∀ a, K a → K' a) (hh : aOp P J hs md E nt ops tab i K s) : aOp P J hs md E nt ops tab i K' s := by
  unfold aOp at *
  split
  · rename_i e; simp only [e] at hh; exact h _ hh
  · rename_i o e
    simp only [e] at hh
    obtain ⟨x, h1, h2⟩ := hh
    exact ⟨x, h1, h _ h2⟩
theorem aOp_put {i j : Nat} {oi oj : Oper} {e : Eff} (hj : ops[j]? = some oj) (hap : oi.apart ops oj = true) (hno : ∀ x ∈ oj.after, Region.binds md x = true → x.on ≠ i) (hk : Apart (h11 hs i) (h11 hs j && arrJ J) (tab i) (tab j)) {K : SF → Prop} {s : SF}
    (hy : YieldsS P J hs md E nt ops oi (h11 hs i) (tab i).1 (tab i).2 e s) (h : aOp P J hs md E nt ops tab j K (s.app oi.dst e)) :
    aOp P J hs md E nt ops tab j (fun s' => YieldsS P J hs md E nt ops oi (h11 hs i) (tab i).1 (tab i).2 e s' ∧ K (s'.app oi.dst e)) s := by
  obtain ⟨h1, h2, h3⟩ := Oper.apart_spec hap
  obtain ⟨k1, k2, k3⟩ := hk
  unfold aOp at *
  simp only [hj] at *
  obtain ⟨y, hyy, hK⟩ := h
  exact ⟨y, hyy.unput h1 hy.wm k1, hy.put h3 hyy.wm hyy.nk k2 (fun hj => hyy.kp i hj hno) (fun k hk hk2 => k3 k hk2 hk), by rw [← app_comm h2 hy.wm hyy.wm k3]; exact hK⟩
def closed (md : Region.Mode) (ops : Array Oper) (listed : Array Bool) : Prop := ∀ k ok, ops[k]? = some ok → listed.getD k false = true → ∀ e ∈ ok.after, Region.binds md e = true → listed.getD e.on false = true
def ordR (md : Region.Mode) (ops : Array Oper) (i : Nat) : Nat → Nat → Bool
  | 0, _ => false
  | n + 1, j => match ops[j]? with
    | some oj => oj.after.any fun e => Region.binds md e && (e.on == i || ordR md ops i n e.on)
    | none => false
theorem ordR_listed {listed : Array Bool} (hc : closed md ops listed) {i : Nat} : ∀ {n k : Nat}, listed.getD k false = true → ordR md ops i n k = true → listed.getD i false = true
  | 0, k, _, h => by cases h
  | n + 1, k, hk, h => by
    simp only [ordR] at h
    split at h
    · rename_i ok ho
      obtain ⟨e, he, hb⟩ := Array.any_eq_true'.1 h
      simp only [Bool.and_eq_true, Bool.or_eq_true, beq_iff_eq] at hb
      have h1 := hc k ok ho hk e he hb.1
      rcases hb.2 with h2 | h2
      · rw [← h2]; exact h1
      · exact ordR_listed hc h1 h2
    · cases h
theorem unlisted_false {listed : Array Bool} {i : Nat} (h : listed.getD i true = false) : listed.getD i false = false := by
  rcases Nat.lt_or_ge i listed.size with h' | h'
  · simp [h'] at h ⊢; exact h
  · simp [Array.getElem?_eq_none h'] at h
theorem ordR_ready {listed : Array Bool} (hc : closed md ops listed) {i j : Nat} (hi : listed.getD i true = false) (hj : j ∈ Region.ready md ops listed) (n : Nat) : ordR md ops i n j = false := by
  cases h : ordR md ops i n j with
  | false => rfl
  | true =>
    exfalso
    obtain ⟨_, oj, hoj, hall⟩ := mem_ready.1 hj
    have hl : listed.getD i false = true := by
      cases n with
      | zero => cases h
      | succ n =>
        simp only [ordR, hoj] at h
        obtain ⟨e, he, hb⟩ := Array.any_eq_true'.1 h
        simp only [Bool.and_eq_true, Bool.or_eq_true, beq_iff_eq] at hb
        have h1 := hall e he hb.1
        rcases hb.2 with h2 | h2
        · rw [← h2]; exact h1
        · exact ordR_listed hc h1 h2
    rw [unlisted_false hi] at hl
    cases hl
theorem closed_set {listed : Array Bool} (hc : closed md ops listed) {j : Nat} (hj : j ∈ Region.ready md ops listed) : closed md ops (listed.setIfInBounds j true) := by
  intro k ok hk hl e he hb
  obtain ⟨_, oj, hoj, hall⟩ := mem_ready.1 hj
  by_cases ejk : j = k
  · subst ejk
    rw [hk] at hoj
    cases hoj
    exact getD_set_true (hall e he hb)
  · rw [getD_set_ne false ejk] at hl
    exact getD_set_true (hc k ok hk hl e he hb)
theorem aAny_first {Q : SF → Prop} {i : Nat} {oi : Oper} {e : Eff} (hi : ops[i]? = some oi) :
    ∀ (fuel : Nat) (listed : Array Bool) (s : SF),
      (∀ j oj, ops[j]? = some oj → j ≠ i → listed.getD j true = false → (∀ e ∈ oj.after, Region.binds md e = true → e.on ≠ i) → (∀ n, ordR md ops i n j = false) → oi.apart ops oj = true ∧ Apart (h11 hs i) (h11 hs j && arrJ J) (tab i) (tab j)) →
      closed md ops listed → i ∈ Region.ready md ops listed → YieldsS P J hs md E nt ops oi (h11 hs i) (tab i).1 (tab i).2 e s →
      aAny P J hs E nt md ops tab Q fuel (listed.setIfInBounds i true) (s.app oi.dst e) → aAny P J hs E nt md ops tab Q (fuel + 1) listed s := by
  have self : ∀ {K : SF → Prop} {s : SF}, YieldsS P J hs md E nt ops oi (h11 hs i) (tab i).1 (tab i).2 e s → K (s.app oi.dst e) → aOp P J hs md E nt ops tab i K s := fun hy hK => by
    unfold aOp; simp only [hi]; exact ⟨e, hy, hK⟩
  intro fuel
  induction fuel with
  | zero =>
    intro listed s _ hcl hr hy H
    refine ⟨fun h => (by rw [h] at hr; cases hr), fun j hj => ?_⟩
    by_cases hji : j = i
    · subst hji; exact self hy H
    · have := ready_mono hj hji
      rw [H.1] at this
      cases this
  | succ fuel ih =>
    intro listed s hfree hcl hr hy H
    refine ⟨fun h => (by rw [h] at hr; cases hr), fun j hj => ?_⟩
    by_cases hji : j = i
    · subst hji; exact self hy H
    · have h1 := H.2 j (ready_mono hj hji)
      obtain ⟨hjun, oj, hoj, hall⟩ := mem_ready.1 hj
      have hnot : ∀ e ∈ oj.after, Region.binds md e = true → e.on ≠ i := fun e he hb heq => by
        have h1 := hall e he hb
        have h0 := (mem_ready.1 hr).1
        rw [heq] at h1
        rcases Nat.lt_or_ge i listed.size with h' | h'
        · simp [h'] at h0 h1; rw [h0] at h1; cases h1
        · simp [Array.getElem?_eq_none h'] at h1
      obtain ⟨hf1, hf2⟩ := hfree j oj hoj hji hjun hnot (ordR_ready hcl (mem_ready.1 hr).1 hj)
      have h2 := aOp_put hoj hf1 hnot hf2 hy h1
      have hfree' : ∀ k ok, ops[k]? = some ok → k ≠ i → (listed.setIfInBounds j true).getD k true = false →
          (∀ e ∈ ok.after, Region.binds md e = true → e.on ≠ i) → (∀ n, ordR md ops i n k = false) → oi.apart ops ok = true ∧ Apart (h11 hs i) (h11 hs k && arrJ J) (tab i) (tab k) := fun k ok hk hki hun hno hnr => by
        refine hfree k ok hk hki ?_ hno hnr
        by_cases hjk : j = k
        · subst hjk; exact hjun
        · rw [getD_set_ne true hjk] at hun; exact hun
      refine aOp_mono (fun a' h3 => ih (listed.setIfInBounds j true) a' hfree' (closed_set hcl hj) (ready_mono hr (Ne.symm hji)) h3.1 ?_) h2
      rw [Array.setIfInBounds_comm _ _ hji]
      exact h3.2
def aLex (P : Program) (J : Option (Nat × Nat)) (hs : List Nat) (md : Region.Mode) (E : Env) (nt : Nat) (ops : Array Oper) (tab : Nat → List Nat × List Nat) (Q : SF → Prop) : Nat → List Oper → SF → Prop
  | _, [], s => Q s
  | k, o :: l, s => ∃ e, YieldsS P J hs md E nt ops o (h11 hs k) (tab k).1 (tab k).2 e s ∧ aLex P J hs md E nt ops tab Q (k + 1) l (s.app o.dst e)
def apartB (j jb : Bool) (x y : List Nat × List Nat) : Bool := (jb || disjN x.2 y.1) && (j || disjN y.2 x.1) && disjN x.2 y.2
theorem apartB_ok {j jb : Bool} {x y : List Nat × List Nat} (h : apartB j jb x y = true) : Apart j jb x y := by
  simp only [apartB, Bool.and_eq_true, Bool.or_eq_true] at h
  refine ⟨fun hj => ?_, fun hj => ?_, disjN_ok h.2⟩
  · rcases h.1.1 with h | h
    · rw [hj] at h; cases h
    · exact disjN_ok h
  · rcases h.1.2 with h | h
    · rw [hj] at h; cases h
    · exact disjN_ok h
def keysB (md : Region.Mode) (ops : Array Oper) (tabs : List (List Nat × List Nat)) (hs : List Nat) (ja : Bool) : Bool :=
  (List.range ops.size).all fun i => (List.range ops.size).all fun j => decide (j ≤ i) || match ops[j]? with
    | some oj => oj.after.any (fun e => Region.binds md e && e.on == i) || apartB (h11 hs i) (h11 hs j && ja) (tabs.getD i ([], [])) (tabs.getD j ([], [])) || ordR md ops i 8 j
    | none => true
theorem keysB_ok {tabs : List (List Nat × List Nat)} {ja : Bool} (h : keysB md ops tabs hs ja = true) {i j : Nat} {oj : Oper} (hij : i < j) (hj : ops[j]? = some oj) (hno : ∀ e ∈ oj.after, Region.binds md e = true → e.on ≠ i) (hnr : ∀ n, ordR md ops i n j = false) : Apart (h11 hs i) (h11 hs j && ja) (tabs.getD i ([], [])) (tabs.getD j ([], [])) := by
  have hlt : j < ops.size := (Array.getElem?_eq_some_iff.1 hj).1
  simp only [keysB, List.all_eq_true, List.mem_range] at h
  have := h i (by omega) j hlt
  simp only [hj, Bool.or_eq_true, decide_eq_true_eq] at this
  rcases this with h | ((h | h) | h)
  · omega
  · obtain ⟨e, he, hb⟩ := Array.any_eq_true'.1 h
    simp only [Bool.and_eq_true, beq_iff_eq] at hb
    exact absurd hb.2 (hno e he hb.1)
  · exact apartB_ok h
  · rw [hnr 8] at h; cases h
def ordB (md : Region.Mode) (ops : Array Oper) (hs : List Nat) : Bool := match hs with
  | [] => true
  | hs => (List.range ops.size).all fun i => (List.range ops.size).all fun j => !(h11 hs i) || !(Nat.beq (hs.getD j 0) 12) || (decide (i < j) && match ops[j]? with
    | some oj => oj.after.any (fun e => Region.binds md e && e.on == i)
    | none => true)
theorem ordB_ok (h : ordB md ops hs = true) {i j : Nat} {oj : Oper} (hl : hs.length ≤ ops.size) (hi : h11 hs i = true) (hj : ops[j]? = some oj) (h12 : hs.getD j 0 = 12) : i < j ∧ ¬ ∀ e ∈ oj.after, Region.binds md e = true → e.on ≠ i := by
  have hlt : j < ops.size := (Array.getElem?_eq_some_iff.1 hj).1
  have hilt : i < ops.size := by
    rcases Nat.lt_or_ge i hs.length with h | h
    · omega
    · unfold h11 at hi
      rw [List.getD_eq_getElem?_getD, List.getElem?_eq_none h] at hi
      cases hi
  unfold ordB at h
  split at h
  · simp [h11] at hi
  · simp only [List.all_eq_true, List.mem_range] at h
    have := h i hilt j hlt
    simp only [hj, hi, h12, Bool.or_eq_true, Bool.not_true, Bool.false_eq_true, false_or] at this
    rcases this with h | h
    · cases h
    · simp only [Bool.and_eq_true, decide_eq_true_eq] at h
      refine ⟨h.1, fun hno => ?_⟩
      obtain ⟨e, he, hb⟩ := Array.any_eq_true'.1 h.2
      simp only [Bool.and_eq_true, beq_iff_eq] at hb
      exact hno e he hb.1 hb.2
theorem aAny_lex {Q : SF → Prop} {tabs : List (List Nat × List Nat)} (hkB : keysB md ops tabs hs (arrJ J) = true) : ∀ (l : List Oper) (k : Nat) (listed : Array Bool) (s : SF), (∀ j, l[j]? = ops[k + j]?) → (∀ j, j < k → listed.getD j true = true) → closed md ops listed →
    Region.lexFrom md ops l.length k listed = true → aLex P J hs md E nt ops (fun i => tabs.getD i ([], [])) Q k l s → aAny P J hs E nt md ops (fun i => tabs.getD i ([], [])) Q l.length listed s
  | [], _, _, _, _, _, _, hB, h => ⟨by simpa [Region.lexFrom] using hB, h⟩
  | o :: l, k, listed, s, hl, hlist, hcl, hB, h => by
    have h0 : ops[k]? = some o := by simpa using (hl 0).symm
    simp only [List.length_cons, Region.lexFrom, Bool.and_eq_true] at hB
    obtain ⟨⟨hr, hf⟩, hB'⟩ := hB
    obtain ⟨x, hy, hK⟩ := h
    refine aAny_first (tab := fun i => tabs.getD i ([], [])) h0 l.length listed s (fun j oj hj hne hun hno hnr => ⟨Region.free_spec h0 hf j oj hj hne hun hno, ?_⟩) hcl (by simpa using hr) hy
      (aAny_lex hkB l (k + 1) _ _ (fun j => by have := hl (j + 1); simpa [Nat.add_assoc, Nat.add_comm 1 j] using this) (fun j hj => ?_) (closed_set hcl (by simpa using hr)) hB' hK)
    · have hkj : k < j := by
        rcases Nat.lt_trichotomy j k with h | h | h
        · rw [hlist j h] at hun; cases hun
        · exact absurd h hne
        · exact h
      exact keysB_ok hkB hkj hj hno hnr
    · by_cases e : k = j
      · subst e
        have hlt : k < listed.size ∨ listed.size ≤ k := Nat.lt_or_ge ..
        rcases hlt with hlt | hlt
        · simp [hlt]
        · simp [Array.getElem?_eq_none, hlt]
      · rw [getD_set_ne true e]
        exact hlist j (by omega)
theorem wpAny_of_aAny {Q : SF → Prop} {Q' : Exit → Act → World → Prop} (hQ : ∀ s g a w, Sim E nt s g a w → Q s → Q' .normal a w) : ∀ (fuel : Nat) (listed : Array Bool) (s : SF) (g : Gh) (a : Act) (w : World), Sim E nt s g a w → (arrJ J = true → okJ J s.M) →
    aAny P J hs E nt md ops tab Q fuel listed s → wpAny P md ops Q' fuel listed a w
  | 0, _, _, _, _, _, hs, _, h => ⟨h.1, hQ _ _ _ _ hs h.2⟩
  | fuel + 1, listed, s, g, a, w, hs, hZ, h => by
    refine ⟨fun h0 => hQ _ _ _ _ hs (h.1 h0), fun i hi => ?_⟩
    have h2 := h.2 i hi
    unfold aOp at h2
    unfold wpOp
    split
    · rename_i e; simp only [e] at h2; exact wpAny_of_aAny hQ fuel _ _ g a w hs hZ h2
    · rename_i o e
      simp only [e] at h2
      obtain ⟨ef, hy, hK⟩ := h2
      obtain ⟨gd, c, hg, hw, hv1, hv2⟩ := hy.go
      have hsub2 : ∀ R, Sub (onlyN (o.looksAt ops) s.F) (onlyN R s.M) s := fun R => by
        refine ⟨fun t x hx => ?_, fun t x hx => ?_⟩ <;> (simp only [onlyN] at hx; split at hx; exact hx; cases hx)
      have hsub := hsub2 (tab i).1
      have hwant : Region.wanted o (yielded ops a.tmps) = c := wanted_of (s := ⟨onlyN (o.looksAt ops) s.F, s.M, s.B⟩) (hs.less hsub.1 (fun _ _ h => h) fun _ h => h) hg hw
      rw [hwant]
      cases c with
      | true =>
        simp only [if_true]
        refine .inl (hv1 rfl s ?_ (hsub2 _) hy.fresh g a w hs _ _ fun g' a' w' h' => ?_)
        · split
          · rename_i hj
            cases ha : arrJ J with
            | true => exact hZ ha
            | false => exact hy.js hj ha
          · trivial
        exact wpAny_of_aAny hQ fuel _ _ g' _ w' h' (fun ha => okJ_app (hZ ha) (hy.ka ha)) hK
      | false =>
        simp only [Bool.false_eq_true, if_false]
        obtain ⟨v, rfl⟩ := hv2 rfl
        exact wpAny_of_aAny hQ fuel _ _ g _ w (skip_sf hs hy.dok v) (fun ha => okJ_app (hZ ha) (keepJ_nil _)) hK
end
def DW (P : Program) [Inv P] (J : Option (Nat × Nat)) : List SOp → St → (St → Prop) → Prop
  | [], st, K => K st
  | s :: l, st, K =>
    match s.gd with
    | none => stepJ P J s (onlyN s.lk st.F) (onlyN s.rk st.M) fun e => freshN st.bn e.nk = true ∧ subN (e.wm.map (·.1)) s.wk = true ∧ subN e.nk s.wk = true ∧ keepS J s e.wm ∧ DW P J l (st.app s.dst e) K
    | some g => match wantS (onlyN s.lk st.F) (some g) with
      | some c => guardE P s c (onlyN s.lk st.F) (onlyN s.rk st.M) fun v => DW P J l (st.app s.dst ⟨.opt c v, [], []⟩) K
      | none => False
theorem St.app_eq (st : St) (d : Option Tmp) (e : Eff) (s : SF) (h : s = st.sf) : (∀ t, (s.app d e).F t = (st.app d e).sf.F t) ∧ (∀ k, (s.app d e).M k = (st.app d e).sf.M k) ∧ ∀ k, (s.app d e).B k ↔ (st.app d e).sf.B k := by
  subst h
  cases d with
  | none =>
    refine ⟨fun t => by simp [St.app, St.sf, SF.app, SF.put], fun k => ?_, fun k => by simp [St.app, St.sf, SF.app]⟩
    simp only [St.app, St.sf, look_updM, SF.app]
    cases look k e.wm <;> rfl
  | some d =>
    refine ⟨fun t => by simp [St.app, St.sf, SF.app, SF.put, look], fun k => ?_, fun k => by simp [St.app, St.sf, SF.app]⟩
    simp only [St.app, St.sf, look_updM, SF.app]
    cases look k e.wm <;> rfl
theorem St.app_sfeq (st : St) (d : Option Tmp) (e : Eff) : st.sf.app d e = (st.app d e).sf := by
  obtain ⟨h1, h2, h3⟩ := St.app_eq st d e st.sf rfl
  have hF := funext h1
  have hM := funext h2
  have hB := funext fun k => propext (h3 k)
  cases hx : st.sf.app d e with
  | mk F M B =>
    cases hy : (st.app d e).sf with
    | mk F' M' B' =>
      rw [hx, hy] at hF hM hB
      simp only at hF hM hB
      rw [hF, hM, hB]
theorem hsOf_getD {ss : List SOp} {k : Nat} {s : SOp} (h : ss[k]? = some s) : (hsOf ss).getD k 0 = match jOf ss with
    | none => 0
    | some _ => match s.gd with
      | none => s.h
      | some _ => 0 := by
  unfold hsOf
  cases jOf ss with
  | none => simp
  | some x => simp only [List.getD_eq_getElem?_getD, List.getElem?_map, h, Option.map_some, Option.getD_some]
theorem hsOf_len (ss : List SOp) : (hsOf ss).length ≤ ss.length := by
  unfold hsOf
  split <;> simp
theorem stepJ_ok {P : Program} [Inv P] {ss0 : List SOp} {k : Nat} {E : Env} {nt : Nat} {o : Oper} {s : SOp} {F : Nat → Option V} {M : Nat → Option Mem} {K : Eff → Prop} (hk : ss0[k]? = some s) (hgd : s.gd = none) (hE : EnvOk P E) (hop : s.op = cmp P o.op) (hdst : s.dst = o.dst) (hd : dstOk nt o.dst)
    (hst : (∃ x v n, s.op = .store x v n) → o.dst = none) (h : stepJ P (jOf ss0) s F (onlyN s.rk M) K) : ∃ e, K e ∧ (h11 (hsOf ss0) k = true → ∀ κ i, jOf ss0 = some (κ, i) → κ ∈ s.rk) ∧ EffJ P (if h11 (hsOf ss0) k = true then jOf ss0 else none) E nt o F (onlyN (if h11 (hsOf ss0) k = true then [] else s.rk) M) e := by
  have old : h11 (hsOf ss0) k = false → stepE P s F (onlyN s.rk M) K → ∃ e, K e ∧ (h11 (hsOf ss0) k = true → ∀ κ i, jOf ss0 = some (κ, i) → κ ∈ s.rk) ∧ EffJ P (if h11 (hsOf ss0) k = true then jOf ss0 else none) E nt o F (onlyN (if h11 (hsOf ss0) k = true then [] else s.rk) M) e := fun hf h => by
    obtain ⟨e, h1, h2⟩ := stepE_ok (nt := nt) hE hop hdst hd hst h
    refine ⟨e, h1, fun h => ?_, ?_⟩
    · rw [hf] at h; cases h
    · simp only [hf, Bool.false_eq_true, if_false]
      exact fun s _ => h2 s
  have hg := hsOf_getD hk
  unfold stepJ at h
  split at h
  · rename_i hn
    rw [hn] at hg
    refine old ?_ h
    unfold h11
    rw [hg]
    rfl
  · rename_i κ i hj
    rw [hj, hgd] at hg
    simp only at hg
    split at h
    · rename_i h1
      have ht : h11 (hsOf ss0) k = true := by unfold h11; rw [hg, h1]; rfl
      obtain ⟨e, q1, q2, q3⟩ := ldJ_ok (E := E) (nt := nt) (M := onlyN [] M) hop hd h
      refine ⟨e, q1, fun _ κ' i' he => ?_, ?_⟩
      · rw [hj] at he
        cases he
        exact memN_iff.1 q2
      · simp only [ht, if_true, hj]
        exact q3
    · rename_i h1
      refine old ?_ h
      unfold h11
      rw [hg]
      cases hb : Nat.beq s.h 11 with
      | false => rfl
      | true => exact absurd (Nat.eq_of_beq_eq_true hb) h1
theorem keepS_ok {ss0 : List SOp} {k : Nat} {s : SOp} {md : Region.Mode} {ops : Array Oper} {o : Oper} (hk : ss0[k]? = some s) (hgd : s.gd = none) (hl : ss0.length ≤ ops.size) (hB : ordB md ops (hsOf ss0) = true) (ho : ops[k]? = some o) {wm : List (Nat × Option Mem)} (h : keepS (jOf ss0) s wm) :
    ∀ i, h11 (hsOf ss0) i = true → (∀ x ∈ o.after, Region.binds md x = true → x.on ≠ i) → keepJ (jOf ss0) wm := by
  intro i hi hno
  have hg := hsOf_getD hk
  unfold keepS at h
  split at h
  · rename_i hn
    rw [hn]
    exact trivial
  · rename_i x hx
    rw [hx, hgd] at hg
    simp only at hg
    split at h
    · rename_i h12
      split at h
      · rw [hx]; exact h
      · exact absurd hno (ordB_ok hB (Nat.le_trans (hsOf_len ss0) hl) hi ho (by rw [hg, h12])).2
    · rw [hx]; exact h
theorem keepS_arr {J : Option (Nat × Nat)} {s : SOp} {wm : List (Nat × Option Mem)} (h : keepS J s wm) (ha : arrJ J = true) : keepJ J wm := by
  unfold keepS at h
  split at h
  · trivial
  · split at h
    · split at h
      · exact h
      · rename_i h2; rw [h2] at ha; cases ha
    · exact h
theorem keepS_next {ss0 : List SOp} {k : Nat} {s : SOp} {md : Region.Mode} {ops : Array Oper} {o : Oper} (hk : ss0[k]? = some s) (hgd : s.gd = none) (hl : ss0.length ≤ ops.size) (hB : ordB md ops (hsOf ss0) = true) (ho : ops[k]? = some o) {wm : List (Nat × Option Mem)} (h : keepS (jOf ss0) s wm)
    {i : Nat} (hi : h11 (hsOf ss0) i = true) (hki : k < i) : keepJ (jOf ss0) wm := by
  have hg := hsOf_getD hk
  unfold keepS at h
  split at h
  · rename_i hn
    rw [hn]
    exact trivial
  · rename_i x hx
    rw [hx, hgd] at hg
    simp only at hg
    split at h
    · rename_i h12
      split at h
      · rw [hx]; exact h
      · have := (ordB_ok hB (Nat.le_trans (hsOf_len ss0) hl) hi ho (by rw [hg, h12])).1
        omega
    · rw [hx]; exact h
theorem okJ_st {J : Option (Nat × Nat)} {st : St} {d : Option Tmp} {e : Eff} (h : okJ J st.M) (hk : keepJ J e.wm) : okJ J (st.app d e).M := by
  have := okJ_app (s := st.sf) (d := d) h hk
  rw [St.app_sfeq] at this
  exact this
theorem DW_lex {P : Program} [Inv P] {md : Region.Mode} {E : Env} {nt : Nat} (hE : EnvOk P E) {ops : Array Oper} {K : St → Prop} {ss0 : List SOp} (hl0 : ss0.length ≤ ops.size) (hB : ordB md ops (hsOf ss0) = true) : ∀ (l : List Oper) (ss : List SOp) (k : Nat) (st : St), compOs P nt ops true l = some (ss.map SOp.er) → (∀ j, ss[j]? = ss0[k + j]?) → (∀ j, l[j]? = ops[k + j]?) →
    DW P (jOf ss0) ss st K → (∀ i, k ≤ i → h11 (hsOf ss0) i = true → okJ (jOf ss0) st.M) → aLex P (jOf ss0) (hsOf ss0) md E nt ops (fun i => (tabs ss0).getD i ([], [])) (fun s => ∃ st', K st' ∧ s = st'.sf) k l st.sf
  | [], ss, k, st, hl, hT, hO, h, hJ => by
    have := compOs_nil hl
    subst this
    exact ⟨st, h, rfl⟩
  | o :: l, ss, k, st, hl, hT, hO, h, hJ => by
    obtain ⟨s, ss', rfl, hf, hl'⟩ := compOs_cons hl
    have hlk : s.lk = o.looksAt ops := by simpa using hf.lk rfl
    have hk : ss0[k]? = some s := by
      have := hT 0
      simpa using this.symm
    have ho : ops[k]? = some o := by
      have := hO 0
      simpa using this.symm
    have hT0 : (tabs ss0).getD k ([], []) = (s.rk, s.wk) := by
      simp only [tabs, List.getD_eq_getElem?_getD, List.getElem?_map, hk, Option.map_some, Option.getD_some]
    have hT' : ∀ j, ss'[j]? = ss0[k + 1 + j]? := fun j => by
      have := hT (j + 1)
      simpa [Nat.add_assoc, Nat.add_comm 1 j] using this
    have hO' : ∀ j, l[j]? = ops[k + 1 + j]? := fun j => by
      have := hO (j + 1)
      simpa [Nat.add_assoc, Nat.add_comm 1 j] using this
    simp only [DW] at h
    simp only [aLex, hT0]
    split at h
    · rename_i hg
      obtain ⟨e, ⟨h1, h2, h3, h6, h4⟩, h7, h5⟩ := stepJ_ok hk hg hE hf.op hf.dst hf.dok hf.st h
      have hkp := keepS_ok hk hg hl0 hB ho h6
      refine ⟨e, ⟨hf.dok, subN_ok h2, subN_ok h3, freshN_ok h1, hkp, keepS_arr h6, fun hj _ => hJ k (Nat.le_refl _) hj, h7, s.gd, true, hf.gd, by rw [hg]; rfl, fun _ => ?_, fun e => by cases e⟩, ?_⟩
      · rw [← hlk]; exact h5
      · rw [← hf.dst, St.app_sfeq]
        refine DW_lex hE hl0 hB l ss' (k + 1) _ hl' hT' hO' h4 fun i hi hji => okJ_st (hJ i (by omega) hji) (keepS_next hk hg hl0 hB ho h6 hji (by omega))
    · rename_i gd hg
      rw [← hg] at h
      have hnj : h11 (hsOf ss0) k = false := by
        have hgg := hsOf_getD hk
        unfold h11
        rw [hgg]
        split
        · rfl
        · rw [hg]; rfl
      split at h
      · rename_i c hc
        obtain ⟨v, h1, h2⟩ := guardE_ok hE hf.op hf.dst hf.dok h
        refine ⟨⟨.opt c v, [], []⟩, ⟨hf.dok, by simp, by simp, by simp, fun i _ _ => keepJ_nil _, fun _ => keepJ_nil _, fun hj _ => hJ k (Nat.le_refl _) hj, fun hj => ?_, s.gd, c, hf.gd, by rw [← hlk]; exact hc, fun hct => ?_, fun hcf => ⟨v, by rw [hcf]⟩⟩, ?_⟩
        · rw [hnj] at hj; cases hj
        · rw [← hlk]
          simp only [hnj, Bool.false_eq_true, if_false]
          exact fun s _ => h2 hct s
        · rw [← hf.dst, St.app_sfeq]
          refine DW_lex hE hl0 hB l ss' (k + 1) _ hl' hT' hO' h1 fun i hi hji => okJ_st (hJ i (by omega) hji) (keepJ_nil _)
      · exact h.elim
theorem Sim.drawn {E : Env} {nt : Nat} {s : SF} {g : Gh} {a : Act} {w : World} (h : Sim E nt s g a w) (n : Nat) : Sim E nt s g a { w with drawn := n } := by
  have hx : Ext g w g { w with drawn := n } := ⟨Nat.le_refl _, fun _ _ h => h, fun _ _ h => h, fun _ h => ⟨h, fun _ => rfl⟩, fun _ => Nat.le_refl _, fun _ _ => ⟨rfl, fun _ _ _ => rfl⟩⟩
  exact h.change (M' := s.M) (B' := s.B) hx rfl rfl rfl (fun _ _ _ => rfl) (fun k m hm => (h.mem k m hm).ext hx rfl fun _ _ _ => rfl) (fun k b hb => .inl ⟨k, hb⟩) (fun k b hb => (h.ownlt k b hb).1) h.disj h.ownfz h.fzlt h.bornV h.bornA h.bornF h.kind fun b hb => .inl hb
theorem compOs_len {P : Program} {nt : Nat} {ops : Array Oper} {d : Bool} : ∀ {l : List Oper} {ss : List SOp}, compOs P nt ops d l = some ss → ss.length = l.length
  | [], ss, h => by simp only [compOs, Option.some.injEq] at h; subst h; rfl
  | o :: l, ss, h => by
    simp only [compOs] at h
    split at h
    · rename_i s1 ss1 h1 h2
      cases h
      simp [compOs_len h2]
    · cases h
theorem DW_ok {P : Program} [Inv P] {E : Env} {nt : Nat} (hE : EnvOk P E) {id : Nat} {ops : Array Oper} {ss : List SOp} {Q : Exit → Act → World → Prop} {K : St → Prop} (hK : ∀ st a w, K st → Simm E nt st a w → Q .normal a w) {st : St} {a : Act} {w : World} (hl : compOs P nt ops true ops.toList = some (ss.map SOp.er))
    (hB : Region.lexB .any ops = true) (hkB : keysB .any ops (tabs ss) (hsOf ss) (arrJ (jOf ss)) = true) (hoB : ordB .any ops (hsOf ss) = true) (hj : okJ (jOf ss) st.M) (h : DW P (jOf ss) ss st K) (hs : Simm E nt st a w) : (Code.region id ops true).wp P Q a w := by
  obtain ⟨g, hs⟩ := hs
  simp only [Region.lexB, Bool.and_eq_true] at hB
  refine wp_region_any Inv.mixed ?_
  have hlen : ss.length ≤ ops.size := by
    have := compOs_len hl
    simp at this
    omega
  have h1 := DW_lex (md := .any) hE hlen hoB ops.toList ss 0 st hl (fun j => by simp) (fun j => by simp) h (fun _ _ _ => hj)
  have h2 := aAny_lex (P := P) (J := jOf ss) (E := E) (nt := nt) (md := .any) hkB ops.toList 0 (Array.replicate ops.size false) _ (by simp) (fun j hj => absurd hj (Nat.not_lt_zero j)) (fun k ok _ hl => by
    exfalso
    rw [Array.getD_eq_getD_getElem?, Array.getElem?_replicate] at hl
    split at hl <;> cases hl) (by simpa using hB.2) h1
  refine wpAny_of_aAny (fun s g a w h3 h4 => ?_) _ _ _ g _ _ (hs.drawn _) (fun _ => hj) (by simpa using h2)
  obtain ⟨st', h5, rfl⟩ := h4
  exact hK st' a w h5 ⟨g, h3⟩
mutual
def V.frz (κ : Nat) (A : Arr) : V → V
  | .ref κ' off len => if κ' = κ ∧ off + len ≤ A.rows.length then .sl none A.sz ((A.rows.drop off).take len) else .ref κ' off len
  | .agg vs => .agg (V.frzL κ A vs)
  | .tup vs => .tup (V.frzL κ A vs)
  | .opt c x => .opt c (V.frz κ A x)
  | .fn f caps => .fn f (V.frzL κ A caps)
  | x => x
def V.frzL (κ : Nat) (A : Arr) : List V → List V
  | [] => []
  | x :: xs => V.frz κ A x :: V.frzL κ A xs
end
section
variable {E : Env} {nt : Nat} {s : SF} {g g' : Gh} {a : Act} {w : World} {κ : Nat} {A : Arr}
theorem ref_frz (hs : Sim E nt s g a w) (hA : s.M κ = some (.arr A)) (hfz : ∀ b, g.fz b ∨ g.fp κ b → g'.fz b) {off len : Nat} {v : Value} (h : VRep w g (.ref κ off len) v) (hl : off + len ≤ A.rows.length) : VRep w g' (.sl none A.sz ((A.rows.drop off).take len)) v := by
  simp only [VRep] at h
  obtain ⟨base, cap, sz, base', hab, hcap, hv, hb0, hb1⟩ := h
  obtain ⟨base2, cap2, hab2, htop, hown, _⟩ := hs.mem κ _ hA
  rw [hab] at hab2
  cases hab2
  simp only [OwT] at hown
  obtain ⟨base3, cap3, e3, hc3, hm3, hrow⟩ := hown
  simp only [Value.slice.injEq, true_and] at e3
  obtain ⟨rfl, rfl⟩ := e3
  have hlen : ((A.rows.drop off).take len).length = len := by simp; omega
  simp only [VRep, RoT]
  refine ⟨trivial, fun _ => ?_⟩
  rw [hlen]
  rcases hrow with ⟨e, e0⟩ | ⟨b, cur, el, e1, hS, hb, hfit, hrr⟩
  · have hz : A.rows.length = 0 := by rw [e]; rfl
    have hl0 : len = 0 := by omega
    subst hl0
    refine ⟨base', cap - off, [], hv, Nat.zero_le _, by omega, by simp only [List.take_zero, RoRows], fun h => absurd (by simp) h⟩
  · have hro : RoRows w (okd g' none) A.sz A.rows (cur.toList.take (A.rows.length * A.sz)) := hrr.ro (fun b hb => hfz b (.inl hb)) (fun b _ hb => hfz b (.inr hb.1))
    obtain ⟨r1, r2⟩ := hro.take_drop off
    obtain ⟨r3, r4⟩ := r2.take_drop len
    refine ⟨base', cap - off, _, hv, by omega, by omega, r3, fun hne => ?_⟩
    have hl0 : len ≠ 0 := fun e => hne (by rw [e]; simp)
    refine ⟨b, off * A.sz, ?_, lt_of_heap hb, hfz b (.inr hS), fun j u hj => ?_⟩
    · rw [hb1 hl0, e1]
      simp [Addr.add]
      intro e
      exact e.symm
    · have hcu : cur[off * A.sz + j]? = some u := by
        have := hj
        rw [List.getElem?_take] at this
        split at this
        · rw [List.getElem?_drop, List.getElem?_take] at this
          split at this
          · simpa using this
          · cases this
        · cases this
      simp [World.cell?, hb, hcu]
mutual
theorem VRep.frz (hs : Sim E nt s g a w) (hA : s.M κ = some (.arr A)) (hx : Ext g w g' w) (hfz : ∀ b, g.fz b ∨ g.fp κ b → g'.fz b) : ∀ {x : V} {v : Value}, VRep w g x v → VRep w g' (x.frz κ A) v
  | .ref κ' off len, v, h => by
    simp only [V.frz]
    split
    · rename_i e
      obtain ⟨rfl, hl⟩ := e
      exact ref_frz hs hA hfz h hl
    · exact h.ext hx
  | .agg vs, v, h => by
    simp only [V.frz, VRep] at h ⊢
    obtain ⟨cs, rfl, h⟩ := h
    exact ⟨cs, rfl, VRepL.frz hs hA hx hfz h⟩
  | .tup vs, v, h => by
    simp only [V.frz, VRep] at h ⊢
    obtain ⟨cs, rfl, h⟩ := h
    exact ⟨cs, rfl, VRepL.frz hs hA hx hfz h⟩
  | .fn f caps, v, h => by
    simp only [V.frz, VRep] at h ⊢
    obtain ⟨cs, rfl, h⟩ := h
    exact ⟨cs, rfl, VRepL.frz hs hA hx hfz h⟩
  | .opt c x, v, h => by
    simp only [V.frz, VRep] at h ⊢
    exact ⟨fun e => VRep.frz hs hA hx hfz (h.1 e), h.2⟩
  | .int .., v, h => by simp only [V.frz]; exact h.ext hx
  | .bool _, v, h => by simp only [V.frz]; exact h.ext hx
  | .str _, v, h => by simp only [V.frz]; exact h.ext hx
  | .nil, v, h => by simp only [V.frz]; exact h.ext hx
  | .sl .., v, h => by simp only [V.frz]; exact h.ext hx
  | .vptr .., v, h => by simp only [V.frz]; exact h.ext hx
  | .eptr .., v, h => by simp only [V.frz]; exact h.ext hx
  | .rptr .., v, h => by simp only [V.frz]; exact h.ext hx
  | .hm .., v, h => by simp only [V.frz]; exact h.ext hx
  | .hv .., v, h => by simp only [V.frz]; exact h.ext hx
  | .lit _, v, h => by simp only [V.frz]; exact h.ext hx
  | .undef, v, h => by simp only [V.frz]; exact h.ext hx
theorem VRepL.frz (hs : Sim E nt s g a w) (hA : s.M κ = some (.arr A)) (hx : Ext g w g' w) (hfz : ∀ b, g.fz b ∨ g.fp κ b → g'.fz b) : ∀ {xs : List V} {vs : List Value}, VRepL w g xs vs → VRepL w g' (V.frzL κ A xs) vs
  | [], vs, h => by simpa only [V.frzL, VRepL] using h
  | x :: xs, vs, h => by
    simp only [V.frzL, VRepL] at h ⊢
    obtain ⟨u, us, rfl, h1, h2⟩ := h
    exact ⟨u, us, rfl, VRep.frz hs hA hx hfz h1, VRepL.frz hs hA hx hfz h2⟩
end
def Mem.frz (κ : Nat) (A : Arr) : Mem → Mem
  | .var cells => .var (V.frzL κ A cells)
  | m => m
theorem Sim.frz (hs : Sim E nt s g a w) (hA : s.M κ = some (.arr A)) : ∃ g', Sim E nt ⟨fun t => (s.F t).map (V.frz κ A), fun k => if k = κ then none else (s.M k).map (Mem.frz κ A), s.B⟩ g' a w := by
  let g' : Gh := { g with fp := fun x => if x = κ then (fun _ => False) else g.fp x, top := fun x => if x = κ then g.top x + 1 else g.top x, fz := fun b => g.fz b ∨ g.fp κ b }
  have hx : Ext g w g' w := {
    size := Nat.le_refl _
    bv := fun _ _ h => h
    ab := fun _ _ h => h
    fz := fun b hb => ⟨.inl hb, fun _ => rfl⟩
    top := fun x => by simp only [g']; split <;> omega
    fp := fun x hxx => by
      simp only [g'] at hxx
      by_cases e : x = κ
      · rw [if_pos e] at hxx; omega
      · exact ⟨by simp only [g', if_neg e], fun _ _ _ => rfl⟩ }
  have hB : s.B κ := (hs.arrK hA).2
  have hbv : g.bv κ = none := (hs.arrK hA).1
  have own' : ∀ k b, Own g' k b → Own g k b ∧ (k = κ → g.bv κ = some b) := by
    intro k b ho
    rcases ho with ho | ho
    · exact ⟨.inl ho, fun e => by subst e; exact ho⟩
    · simp only [g'] at ho
      by_cases e : k = κ
      · rw [if_pos e] at ho; exact ho.elim
      · rw [if_neg e] at ho; exact ⟨.inr ho, fun ee => absurd ee e⟩
  have h1 : Sim E nt ⟨s.F, fun k => if k = κ then none else (s.M k).map (Mem.frz κ A), s.B⟩ g' a w := by
    refine hs.change hx rfl rfl rfl (fun _ _ _ => rfl) ?_ (fun k b ho => .inl ⟨k, (own' k b ho).1⟩) (fun k b ho => (hs.ownlt k b (own' k b ho).1).1) (fun k k' b h1 h2 => hs.disj k k' b (own' k b h1).1 (own' k' b h2).1) ?_ ?_ (fun k h => hs.bornV k h) (fun k h => hs.bornA k h) ?_ ?_ ?_
    · intro k m hm
      by_cases e : k = κ
      · simp only [if_pos e] at hm; cases hm
      · simp only [if_neg e] at hm
        cases hk : s.M k with
        | none => rw [hk] at hm; cases hm
        | some m0 =>
          rw [hk] at hm
          simp only [Option.map_some, Option.some.injEq] at hm
          subst hm
          have h0 := (hs.mem k m0 hk).ext hx (by simp only [g', if_neg e]) (fun _ _ _ => rfl)
          cases m0 with
          | arr _ => exact h0
          | var cells =>
            obtain ⟨b, cur, el, q1, q2, q3⟩ := hs.mem k _ hk
            exact ⟨b, cur, el, q1, q2, VRepL.frz hs hA hx (fun b h => h) q3⟩
    · intro k b ho hf
      obtain ⟨o1, o2⟩ := own' k b ho
      rcases hf with hf | hf
      · exact hs.ownfz k b o1 hf
      · have := hs.disj k κ b o1 (.inr hf)
        have := o2 this
        rw [hbv] at this
        cases this
    · intro b hf
      rcases hf with hf | hf
      · exact hs.fzlt b hf
      · exact (hs.ownlt κ b (.inr hf)).1
    · intro k hk
      have := hs.bornF k hk
      refine ⟨fun b => ?_, ?_⟩
      · simp only [g']
        split
        · exact fun h => h
        · exact this.1 b
      · simp only [g']
        rw [if_neg (fun e => hk (by rw [e]; exact hB))]
        exact this.2
    · intro k hk
      have := hs.kind k hk
      refine ⟨this.1, fun b => ?_⟩
      simp only [g']
      split
      · exact fun h => h
      · exact this.2 b
    · intro b hf
      rcases hf with hf | hf
      · exact .inl hf
      · exact .inr (hs.ownlt κ b (.inr hf)).2
  refine ⟨g', { h1 with frame := fun t x hx2 => ?_ }⟩
  cases ht : s.F t with
  | none => simp only [ht, Option.map_none] at hx2; cases hx2
  | some x0 =>
    simp only [ht, Option.map_some, Option.some.injEq] at hx2
    subst hx2
    exact VRep.frz hs hA hx (fun b h => h) (hs.frame t x0 ht)
end
end Go.H
end
