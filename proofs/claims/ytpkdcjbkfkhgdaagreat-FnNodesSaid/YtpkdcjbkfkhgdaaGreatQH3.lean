/- A part of an engine that carries Go code out on trees of values, proved sound over the model for every program. No condition beyond what each theorem states. -/
import Derived.Test.YtpkdcjbkfkhgdaaGreatQH2
import Derived.Attr
import Derived.KernelRfl
section
set_option linter.unusedSimpArgs false
set_option linter.unusedVariables false
namespace Go.H
open Go
def keepM {β : Type} (l : List (Nat × β)) : List Nat → List (Nat × β)
  | [] => []
  | k :: ks => match look k l with
    | some x => (k, x) :: keepM l ks
    | none => keepM l ks
theorem look_keepM {β : Type} (l : List (Nat × β)) {k : Nat} {x : β} : ∀ {ks : List Nat}, look k (keepM l ks) = some x → look k l = some x
  | [], h => by simp [keepM, look] at h
  | j :: ks, h => by
    simp only [keepM] at h
    split at h
    · rename_i y hy
      simp only [look] at h
      split at h
      · rename_i e; subst e; cases h; exact hy
      · exact look_keepM l h
    · exact look_keepM l h
def delMs : List Nat → List (Nat × Mem) → List (Nat × Mem)
  | [], l => l
  | k :: ks, l => delM k (delMs ks l)
theorem look_delMs {k : Nat} {x : Mem} : ∀ {ks : List Nat} {l : List (Nat × Mem)}, look k (delMs ks l) = some x → look k l = some x
  | [], l, h => h
  | j :: ks, l, h => by
    simp only [delMs, look_delM] at h
    split at h
    · cases h
    · exact look_delMs h
def frzFs (κ : Nat) (A : Arr) : List (Nat × V) → List (Nat × V)
  | [] => []
  | (t, x) :: l => (t, x.frz κ A) :: frzFs κ A l
def frzMs (κ : Nat) (A : Arr) : List (Nat × Mem) → List (Nat × Mem)
  | [] => []
  | (t, x) :: l => (t, x.frz κ A) :: frzMs κ A l
theorem look_frzFs (κ : Nat) (A : Arr) (t : Nat) : ∀ l, look t (frzFs κ A l) = (look t l).map (V.frz κ A)
  | [] => rfl
  | (k, x) :: l => by
    simp only [frzFs, look]
    split
    · rfl
    · exact look_frzFs κ A t l
theorem look_frzMs (κ : Nat) (A : Arr) (t : Nat) : ∀ l, look t (frzMs κ A l) = (look t l).map (Mem.frz κ A)
  | [] => rfl
  | (k, x) :: l => by
    simp only [frzMs, look]
    split
    · rfl
    · exact look_frzMs κ A t l
def St.frz (κ : Nat) (st : St) : St := match look κ st.ms with
  | some (.arr A) => ⟨frzFs κ A st.fr, frzMs κ A (delM κ st.ms), st.bn⟩
  | _ => st
theorem Simm.frz {E : Env} {nt : Nat} {st : St} {a : Act} {w : World} (h : Simm E nt st a w) (κ : Nat) : Simm E nt (st.frz κ) a w := by
  unfold St.frz
  split
  · rename_i A hA
    obtain ⟨g, h⟩ := h
    obtain ⟨g', h'⟩ := h.frz (κ := κ) (A := A) hA
    refine ⟨g', h'.less (fun t x hx => ?_) (fun k m hm => ?_) (fun k hk => hk)⟩
    · simp only [St.sf, St.F, look_frzFs] at hx ⊢
      exact hx
    · simp only [St.sf, St.M, look_frzMs, look_delM] at hm ⊢
      by_cases e : k = κ
      · simp only [if_pos e] at hm; cases hm
      · simp only [if_neg e] at hm ⊢; exact hm
  · exact h
def St.dels : List Nat → St → St
  | [], st => st
  | k :: ks, st => if 1000000000000 ≤ k then (St.dels ks st).frz (k - 1000000000000) else ⟨(St.dels ks st).fr, delM k (St.dels ks st).ms, (St.dels ks st).bn⟩
theorem Simm.dels {E : Env} {nt : Nat} {a : Act} {w : World} : ∀ {ks : List Nat} {st : St}, Simm E nt st a w → Simm E nt (St.dels ks st) a w
  | [], st, h => h
  | k :: ks, st, h => by
    simp only [St.dels]
    split
    · exact (Simm.dels h).frz _
    · obtain ⟨g, h⟩ := Simm.dels (ks := ks) h
      exact ⟨g, h.less (fun _ _ hx => hx) (fun t x hx => by
        simp only [St.sf, St.M, look_delM] at hx ⊢
        split at hx
        · cases hx
        · exact hx) fun _ hk => hk⟩
def St.keep (st : St) : Option (List Nat × List Nat) → St
  | none => st
  | some (ts, ks) => St.dels ks ⟨keepM st.fr ts, st.ms, st.bn⟩
theorem Simm.keep {E : Env} {nt : Nat} {st : St} {a : Act} {w : World} (h : Simm E nt st a w) (l : Option (List Nat × List Nat)) : Simm E nt (st.keep l) a w := by
  cases l with
  | none => exact h
  | some l =>
    obtain ⟨g, h⟩ := h
    exact Simm.dels ⟨g, h.less (fun t x hx => look_keepM _ hx) (fun _ _ hx => hx) fun _ hk => hk⟩
def rn (ρ : List (Nat × Nat)) (k : Nat) : Nat :=
  match look k ρ with
  | some k' => k'
  | none => k
def Dep.ren (ρ : List (Nat × Nat)) : Dep → Dep
  | none => none
  | some (κ, n) => some (rn ρ κ, n)
def Dep.inK (ks : List Nat) : Dep → Bool
  | none => true
  | some (κ, _) => memN κ ks
mutual
def V.ren (ρ : List (Nat × Nat)) : V → V
  | .sl d sz rows => .sl (Dep.ren ρ d) sz rows
  | .ref κ off len => .ref (rn ρ κ) off len
  | .vptr d j => .vptr (rn ρ d) j
  | .eptr κ i j => .eptr (rn ρ κ) i j
  | .rptr d row j => .rptr (Dep.ren ρ d) row j
  | .hv key len v => .hv (rn ρ key) len v
  | .hm κ n i j key len => .hm (rn ρ κ) n i j (rn ρ key) len
  | .fn f cs => .fn f (V.renL ρ cs)
  | .agg vs => .agg (V.renL ρ vs)
  | .tup vs => .tup (V.renL ρ vs)
  | .opt c x => .opt c (x.ren ρ)
  | .int k n => .int k n
  | .bool b => .bool b
  | .str s => .str s
  | .nil => .nil
  | .lit v => .lit v
  | .undef => .undef
def V.renL (ρ : List (Nat × Nat)) : List V → List V
  | [] => []
  | x :: xs => x.ren ρ :: V.renL ρ xs
end
mutual
def V.inK (ks : List Nat) : V → Bool
  | .sl d _ _ => Dep.inK ks d
  | .ref κ _ _ => memN κ ks
  | .vptr d _ => memN d ks
  | .eptr κ _ _ => memN κ ks
  | .rptr d _ _ => Dep.inK ks d
  | .hv key _ _ => memN key ks
  | .hm κ _ _ _ key _ => memN κ ks && memN key ks
  | .fn _ cs => V.inKL ks cs
  | .agg vs => V.inKL ks vs
  | .tup vs => V.inKL ks vs
  | .opt _ x => x.inK ks
  | _ => true
def V.inKL (ks : List Nat) : List V → Bool
  | [] => true
  | x :: xs => x.inK ks && V.inKL ks xs
end
def Gh.ren (g : Gh) (ks : List Nat) (ρ : List (Nat × Nat)) : Gh where
  bv k := if memN k ks then g.bv (rn ρ k) else none
  ab k := if memN k ks then g.ab (rn ρ k) else none
  top k := if memN k ks then g.top (rn ρ k) else 0
  fp k b := memN k ks = true ∧ g.fp (rn ρ k) b
  fz := g.fz
section
variable {w : World} {g : Gh} {ks : List Nat} {ρ : List (Nat × Nat)}
theorem Dep.ren_ok {d : Dep} (hk : Dep.inK ks d = true) (h : was g (Dep.ren ρ d)) : was (g.ren ks ρ) d ∧ (live (g.ren ks ρ) d → live g (Dep.ren ρ d)) ∧ ∀ b, okd g (Dep.ren ρ d) b → okd (g.ren ks ρ) d b := by
  cases d with
  | none => exact ⟨trivial, fun _ => trivial, fun _ h => h⟩
  | some kn =>
    obtain ⟨κ, n⟩ := kn
    simp only [Dep.inK] at hk
    simp only [Dep.ren, was, live, okd, Gh.ren, hk, if_true] at h ⊢
    exact ⟨h, fun h => h, fun b h => h.imp id fun h => ⟨trivial, h⟩⟩
mutual
theorem VRep.unren : ∀ {x : V} {v : Value}, x.inK ks = true → VRep w g (x.ren ρ) v → VRep w (g.ren ks ρ) x v
  | .sl d sz rows, v, hk, h => by
    simp only [V.inK] at hk
    simp only [V.ren, VRep] at h ⊢
    obtain ⟨h1, h2, h3⟩ := Dep.ren_ok (g := g) (ρ := ρ) hk h.1
    exact ⟨h1, fun hl => (h.2 (h2 hl)).mono (Nat.le_refl _) fun b _ hb => ⟨h3 b hb, rfl⟩⟩
  | .rptr d row j, v, hk, h => by
    simp only [V.inK] at hk
    simp only [V.ren, VRep] at h ⊢
    obtain ⟨h1, h2, h3⟩ := Dep.ren_ok (g := g) (ρ := ρ) hk h.1
    refine ⟨h1, fun hl => ?_⟩
    obtain ⟨b, o, xs, e, q1, q2, q3, q4⟩ := h.2 (h2 hl)
    exact ⟨b, o, xs, e, q1, h3 b q2, RoL.mono (Nat.le_refl _) (fun b _ hb => ⟨h3 b hb, rfl⟩) q3, q4⟩
  | .ref κ off len, v, hk, h => by
    simp only [V.inK] at hk
    simp only [V.ren, VRep, Gh.ren, hk, if_true] at h ⊢
    exact h
  | .vptr d j, v, hk, h => by
    simp only [V.inK] at hk
    simp only [V.ren, VRep, Gh.ren, hk, if_true] at h ⊢
    exact h
  | .eptr κ i j, v, hk, h => by
    simp only [V.inK] at hk
    simp only [V.ren, VRep, Gh.ren, hk, if_true] at h ⊢
    exact h
  | .hv key len x, v, hk, h => by
    simp only [V.inK] at hk
    simp only [V.ren, VRep, Gh.ren, hk, if_true] at h ⊢
    exact h
  | .hm κ n i j key len, v, hk, h => by
    simp only [V.inK, Bool.and_eq_true] at hk
    simp only [V.ren, VRep, Gh.ren, hk.1, hk.2, if_true, was, live] at h ⊢
    exact ⟨h.1, h.2.1, fun hl => by
      obtain ⟨b, cap, sz, q1, q2, q3, q4⟩ := h.2.2 hl
      exact ⟨b, cap, sz, q1, ⟨trivial, q2⟩, q3, q4⟩⟩
  | .fn f cs, v, hk, h => by
    simp only [V.inK] at hk
    simp only [V.ren, VRep] at h ⊢
    obtain ⟨c, e, h⟩ := h
    exact ⟨c, e, VRepL.unren hk h⟩
  | .agg cs, v, hk, h => by
    simp only [V.inK] at hk
    simp only [V.ren, VRep] at h ⊢
    obtain ⟨c, e, h⟩ := h
    exact ⟨c, e, VRepL.unren hk h⟩
  | .tup cs, v, hk, h => by
    simp only [V.inK] at hk
    simp only [V.ren, VRep] at h ⊢
    obtain ⟨c, e, h⟩ := h
    exact ⟨c, e, VRepL.unren hk h⟩
  | .opt c x, v, hk, h => by
    simp only [V.inK] at hk
    simp only [V.ren, VRep] at h ⊢
    exact ⟨fun e => VRep.unren hk (h.1 e), h.2⟩
  | .int k n, v, _, h => by simpa only [V.ren, VRep] using h
  | .bool b, v, _, h => by simpa only [V.ren, VRep] using h
  | .str s, v, _, h => by simpa only [V.ren, VRep] using h
  | .nil, v, _, h => by simpa only [V.ren, VRep] using h
  | .lit x, v, _, h => by simpa only [V.ren, VRep] using h
  | .undef, v, _, h => by simp only [VRep]
theorem VRepL.unren : ∀ {x : List V} {v : List Value}, V.inKL ks x = true → VRepL w g (V.renL ρ x) v → VRepL w (g.ren ks ρ) x v
  | [], v, _, h => by simpa only [V.renL, VRepL] using h
  | x :: xs, v, hk, h => by
    simp only [V.inKL, Bool.and_eq_true] at hk
    simp only [V.renL, VRepL] at h ⊢
    obtain ⟨u, us, e, h1, h2⟩ := h
    exact ⟨u, us, e, VRep.unren hk.1 h1, VRepL.unren hk.2 h2⟩
end
end
def injN (ρ : List (Nat × Nat)) (ks : List Nat) : Bool := distN (ks.map (rn ρ))
theorem distN_inj {f : Nat → Nat} : ∀ {ks : List Nat}, distN (ks.map f) = true → ∀ k ∈ ks, ∀ k' ∈ ks, f k = f k' → k = k'
  | [], _ => by simp
  | a :: l, h => by
    simp only [List.map_cons, distN, Bool.and_eq_true, Bool.not_eq_true'] at h
    intro k hk k' hk' e
    rcases List.mem_cons.1 hk with rfl | hk1 <;> rcases List.mem_cons.1 hk' with rfl | hk2
    · rfl
    · exact absurd (List.mem_map.2 ⟨k', hk2, e.symm⟩ : f k ∈ l.map f) (not_memN h.1)
    · exact absurd (List.mem_map.2 ⟨k, hk1, e⟩ : f k' ∈ l.map f) (not_memN h.1)
    · exact distN_inj h.2 k hk1 k' hk2 e
def fitF (ρ : List (Nat × Nat)) (ks : List Nat) (fr : List (Nat × V)) : List (Nat × V) → Prop
  | [] => True
  | (t, y) :: l => y.inK ks = true ∧ look t fr = some (y.ren ρ) ∧ fitF ρ ks fr l
def fitM (ρ : List (Nat × Nat)) (ks : List Nat) (ms : List (Nat × Mem)) : List (Nat × Mem) → Prop
  | [] => True
  | (k, .var cs) :: l => memN k ks = true ∧ V.inKL ks cs = true ∧ look (rn ρ k) ms = some (.var (V.renL ρ cs)) ∧ fitM ρ ks ms l
  | (k, .arr A) :: l => memN k ks = true ∧ look (rn ρ k) ms = some (.arr A) ∧ fitM ρ ks ms l
def lentB (ρ : List (Nat × Nat)) (bn : List Nat) : List Nat → Bool
  | [] => true
  | k :: l => (decide (k < 1000000) || (decide (¬ k % 1000 = 0) || (memN k bn && decide (rn ρ k = k)))) && lentB ρ bn l
def fit (ρ : List (Nat × Nat)) (st st' : St) : Prop := lentB ρ st'.bn st.bn = true ∧ injN ρ st'.bn = true ∧ fitF ρ st'.bn st.fr st'.fr ∧ fitM ρ st'.bn st.ms st'.ms
theorem fitF_look {ρ : List (Nat × Nat)} {ks : List Nat} {fr : List (Nat × V)} {t : Nat} {y : V} : ∀ {l : List (Nat × V)}, fitF ρ ks fr l → look t l = some y → y.inK ks = true ∧ look t fr = some (y.ren ρ)
  | [], _, h => by simp [look] at h
  | (u, z) :: l, hf, h => by
    simp only [look] at h
    split at h
    · rename_i e; subst e; cases h; exact ⟨hf.1, hf.2.1⟩
    · exact fitF_look hf.2.2 h
theorem fitM_look {ρ : List (Nat × Nat)} {ks : List Nat} {ms : List (Nat × Mem)} {t : Nat} {y : Mem} : ∀ {l : List (Nat × Mem)}, fitM ρ ks ms l → look t l = some y → memN t ks = true ∧ match y with
    | .var cs => V.inKL ks cs = true ∧ look (rn ρ t) ms = some (.var (V.renL ρ cs))
    | .arr A => look (rn ρ t) ms = some (.arr A)
  | [], _, h => by simp [look] at h
  | (u, .var cs) :: l, hf, h => by
    simp only [look] at h
    split at h
    · rename_i e; subst e; cases h; exact ⟨hf.1, hf.2.1, hf.2.2.1⟩
    · exact fitM_look hf.2.2.2 h
  | (u, .arr A) :: l, hf, h => by
    simp only [look] at h
    split at h
    · rename_i e; subst e; cases h; exact ⟨hf.1, hf.2.1⟩
    · exact fitM_look hf.2.2 h
theorem lentB_ok {ρ : List (Nat × Nat)} {bn : List Nat} {k : Nat} (hk : 1000000 ≤ k) (hk2 : k % 1000 = 0) : ∀ {l : List Nat}, lentB ρ bn l = true → k ∈ l → memN k bn = true ∧ rn ρ k = k
  | [], _, h => by simp at h
  | a :: l, h, hm => by
    simp only [lentB, Bool.and_eq_true, Bool.or_eq_true, decide_eq_true_eq] at h
    rcases List.mem_cons.1 hm with rfl | hm
    · rcases h.1 with h | h | h
      · omega
      · exact absurd hk2 h
      · exact h
    · exact lentB_ok hk hk2 h.2 hm
theorem HRepL.ren {g : Gh} {ρ : List (Nat × Nat)} {bn : List Nat} (h1 : ∀ k, 1000000 ≤ k → k % 1000 = 0 → (g.bv k ≠ none ∨ g.ab k ≠ none) → memN k bn = true ∧ rn ρ k = k) : ∀ {L : List Ob} {i : Nat} {vs : List Value}, HRepL g i L vs → HRepL (g.ren bn ρ) i L vs
  | [], _, _, h => h
  | o :: os, i, vs, h => by
    obtain ⟨u, us, e, h2, h3⟩ := h
    refine ⟨u, us, e, ?_, HRepL.ren h1 h3⟩
    cases o with
    | var cells =>
      obtain ⟨b, h4, h5⟩ := h2
      obtain ⟨h6, h7⟩ := h1 (lkey i) (by simp only [lkey]; omega) (by simp only [lkey]; omega) (.inl (by rw [h4]; simp))
      exact ⟨b, by simp only [Gh.ren, h6, if_true, h7, h4], h5⟩
    | arr sz rows =>
      obtain ⟨b, c, h4, h5⟩ := h2
      obtain ⟨h6, h7⟩ := h1 (lkey i) (by simp only [lkey]; omega) (by simp only [lkey]; omega) (.inr (by rw [h4]; simp))
      exact ⟨b, c, by simp only [Gh.ren, h6, if_true, h7, h4], h5⟩
theorem Simm.fit {E : Env} {nt : Nat} {st st' : St} {a : Act} {w : World} (h : Simm E nt st a w) {ρ : List (Nat × Nat)} (hf : H.fit ρ st st') : Simm E nt st' a w := by
  obtain ⟨g, h⟩ := h
  obtain ⟨hlent, hinj, hF, hM⟩ := hf
  have own : ∀ k b, Own (g.ren st'.bn ρ) k b → k ∈ st'.bn ∧ Own g (rn ρ k) b := fun k b ho => by
    simp only [Own, Gh.ren] at ho
    rcases ho with ho | ⟨h1, h2⟩
    · split at ho
      · rename_i hm; exact ⟨memN_iff.1 hm, .inl ho⟩
      · cases ho
    · exact ⟨memN_iff.1 h1, .inr h2⟩
  refine ⟨g.ren st'.bn ρ, { os := h.os, tape := h.tape, output := h.output, size := h.size, same := h.same, defers := h.defers, nt := h.nt, frame := fun t x hx => ?_, mem := fun k m hm => ?_, disj := fun k k' b h1 h2 => ?_, ownfz := fun k b ho => h.ownfz _ b (own k b ho).2, ownlt := fun k b ho => h.ownlt _ b (own k b ho).2, fzlt := h.fzlt, bornV := fun k hk => ?_, bornA := fun k hk => ?_, bornF := fun k hk => ?_, kind := fun k hk => ?_, fz1 := h.fz1, fz2 := h.fz2, hnd := ?_ }⟩
  · obtain ⟨h1, h2⟩ := fitF_look hF hx
    exact VRep.unren h1 (h.frame t _ h2)
  · obtain ⟨h1, h2⟩ := fitM_look hM hm
    cases m with
    | var cs =>
      obtain ⟨b, cur, e, q1, q2, q3⟩ := h.mem _ _ h2.2
      refine ⟨b, cur, e, ?_, q2, VRepL.unren h2.1 q3⟩
      simp only [Gh.ren, h1, if_true]
      exact q1
    | arr A =>
      obtain ⟨base, cap, q1, q2, q3, q4⟩ := h.mem _ _ h2
      refine ⟨base, cap, ?_, ?_, ?_, q4⟩
      · simp only [Gh.ren, h1, if_true]; exact q1
      · simp only [Gh.ren, h1, if_true]; exact q2
      · have q5 : OwT w (g.ren st'.bn ρ).fz (.sl true A.sz A.rows) (g.fp (rn ρ k)) (.slice base A.rows.length cap) := q3
        exact q5.sub fun b hb => ⟨h1, hb⟩
  · obtain ⟨m1, o1⟩ := own k b h1
    obtain ⟨m2, o2⟩ := own k' b h2
    exact distN_inj hinj k m1 k' m2 (h.disj _ _ b o1 o2)
  · simp only [Gh.ren] at hk
    split at hk
    · rename_i hm; exact memN_iff.1 hm
    · exact absurd rfl hk
  · simp only [Gh.ren] at hk
    split at hk
    · rename_i hm; exact memN_iff.1 hm
    · exact absurd rfl hk
  · have hk' : ¬ (memN k st'.bn = true) := fun hm => hk (memN_iff.1 hm)
    refine ⟨fun b hb => hk' hb.1, ?_⟩
    simp only [Gh.ren, hk']
    rfl
  · simp only [Gh.ren] at hk ⊢
    split at hk
    · rename_i hm
      obtain ⟨h1, h2⟩ := h.kind _ hk
      rw [if_pos hm]
      exact ⟨h1, fun b hb => h2 b hb.2⟩
    · exact absurd rfl hk
  · refine h.hnd.ren fun k hk hk2 hg => lentB_ok hk hk2 hlent ?_
    rcases hg with hg | hg
    · exact h.bornV k hg
    · exact h.bornA k hg
def SC.er : SC → SC
  | .reg d ops _ => .reg d (ops.map SOp.er) none
  | .seq a b => .seq a.er b.er
  | .cond c a b => .cond c a.er b.er
  | .block id c => .block id c.er
  | .loop c => .loop c.er
  | c => c
def compC (P : Program) (nt : Nat) : Code → Option SC
  | .skip => some .skip
  | .region _ ops draw => match compOs P nt ops draw ops.toList with
    | some l => some (.reg draw l none)
    | none => none
  | .seq a b => match compC P nt a, compC P nt b with | some a, some b => some (.seq a b) | _, _ => none
  | .cond c a b => match compC P nt a, compC P nt b with | some a, some b => some (.cond (opd c) a b) | _, _ => none
  | .block id c => match compC P nt c with | some c => some (.block id c) | _ => none
  | .loop c => match compC P nt c with | some c => some (.loop c) | _ => none
  | .exit id => some (.exit id)
  | .ret => some .ret
  | _ => none
def drawB : Code → SC → Bool
  | .region _ ops true, .reg _ ss _ => Region.lexB .any ops && keysB .any ops (tabs ss) (hsOf ss) (arrJ (jOf ss)) && ordB .any ops (hsOf ss)
  | .seq a b, .seq x y => drawB a x && drawB b y
  | .cond _ a b, .cond _ x y => drawB a x && drawB b y
  | .block _ a, .block _ x => drawB a x
  | .loop a, .loop x => drawB a x
  | _, _ => true
inductive Ex where
  | normal
  | exit (id : Nat)
  | ret
def CW (P : Program) [Inv P] : SC → (Ex → St → Prop) → St → Prop
  | .skip, Q, st => Q .normal st
  | .reg true ops lv, Q, st => okJ (jOf ops) st.M ∧ DW P (jOf ops) ops st fun st' => Q .normal (st'.keep lv)
  | .reg false ops lv, Q, st => RW P ops st fun st' => Q .normal (st'.keep lv)
  | .seq a b, Q, st => CW P a (fun e st' => match e with | .normal => CW P b Q st' | e => Q e st') st
  | .cond c a b, Q, st => match ev st.F c with
    | some (.bool t) => (t = true → CW P a Q st) ∧ (t = false → CW P b Q st)
    | _ => False
  | .block id c, Q, st => CW P c (fun e st' => match e with | .exit i => if i = id then Q .normal st' else Q (.exit i) st' | e => Q e st') st
  | .loop c, Q, st => ∃ I : St → Nat → Prop, (∃ n st' ρ, fit ρ st st' ∧ I st' n) ∧ ∀ st n, I st n → CW P c (fun e st' => match e with | .normal => ∃ n' st2 ρ, n' < n ∧ fit ρ st' st2 ∧ I st2 n' | e => Q e st') st
  | .exit id, Q, st => Q (.exit id) st
  | .ret, Q, st => Q .ret st
def postC (E : Env) (nt : Nat) (Q : Ex → St → Prop) : Exit → Act → World → Prop
  | .normal, a, w => ∃ st, Q .normal st ∧ Simm E nt st a w
  | .exit id, a, w => ∃ st, Q (.exit id) st ∧ Simm E nt st a w
  | .ret, a, w => ∃ st, Q .ret st ∧ Simm E nt st a w
  | _, _, _ => False
theorem has_least {p : Nat → Prop} (h : ∃ n, p n) : ∃ n, p n ∧ ∀ m, p m → n ≤ m := by
  obtain ⟨n, hn⟩ := h
  induction n using Nat.strongRecOn with
  | _ n ih =>
    by_cases hx : ∃ m, m < n ∧ p m
    · obtain ⟨m, hlt, hm⟩ := hx
      exact ih m hlt hm
    · exact ⟨n, hn, fun m hm => Nat.le_of_not_lt fun hlt => hx ⟨m, hlt, hm⟩⟩
theorem CW_ok {P : Program} [Inv P] {E : Env} {nt : Nat} (hE : EnvOk P E) : ∀ {c : Code} {sc : SC} {Q : Ex → St → Prop} {st : St} {a : Act} {w : World}, compC P nt c = some sc.er → drawB c sc = true → CW P sc Q st → Simm E nt st a w → c.wp P (postC E nt Q) a w
  | .skip, sc, Q, st, a, w, hc, hd, h, hs => by
    simp only [compC, Option.some.injEq] at hc
    cases sc <;> simp only [SC.er, reduceCtorEq] at hc
    exact wp_skip ⟨st, h, hs⟩
  | .region id ops draw, sc, Q, st, a, w, hc, hd, h, hs => by
    simp only [compC] at hc
    split at hc
    · rename_i l hl
      cases sc <;> simp only [SC.er, reduceCtorEq, Option.some.injEq, SC.reg.injEq] at hc
      rename_i draw' ss lv
      obtain ⟨rfl, rfl, _⟩ := hc
      cases draw with
      | false =>
        simp only [CW] at h
        exact wp_region_list (RW_ok hE (fun st a w h1 h2 => ⟨_, h1, h2.keep lv⟩) ops.toList ss st a w hl h hs)
      | true =>
        simp only [CW] at h
        simp only [drawB, Bool.and_eq_true] at hd
        exact DW_ok hE (fun st a w h1 h2 => ⟨_, h1, h2.keep lv⟩) hl hd.1.1 hd.1.2 hd.2 h.1 h.2 hs
    · cases hc
  | .seq x y, sc, Q, st, a, w, hc, hd, h, hs => by
    simp only [compC] at hc
    split at hc
    · rename_i sa sb h1 h2
      cases sc <;> simp only [SC.er, reduceCtorEq, Option.some.injEq, SC.seq.injEq] at hc
      obtain ⟨rfl, rfl⟩ := hc
      simp only [CW] at h
      simp only [drawB, Bool.and_eq_true] at hd
      refine wp_seq (wp_mono (CW_ok hE h1 hd.1 h hs) ?_)
      intro e a w he
      cases e <;> simp only [postC] at he <;> simp only [Exit.then, postC]
      · obtain ⟨st', h3, h4⟩ := he
        exact CW_ok hE h2 hd.2 h3 h4
      · exact he
      · exact he
    · cases hc
  | .cond c x y, sc, Q, st, a, w, hc, hd, h, hs => by
    simp only [compC] at hc
    split at hc
    · rename_i sa sb h1 h2
      cases sc <;> simp only [SC.er, reduceCtorEq, Option.some.injEq, SC.cond.injEq] at hc
      obtain ⟨rfl, rfl, rfl⟩ := hc
      simp only [CW] at h
      simp only [drawB, Bool.and_eq_true] at hd
      split at h
      · rename_i t ht
        have hs2 := hs
        obtain ⟨g, hs'⟩ := hs2
        have := ev_ok (s := st.sf) hs' ht
        simp only [VRep] at this
        exact wp_cond_split this (fun e => CW_ok hE h1 hd.1 (h.1 e) hs) (fun e => CW_ok hE h2 hd.2 (h.2 e) hs)
      · exact h.elim
    · cases hc
  | .block id c, sc, Q, st, a, w, hc, hd, h, hs => by
    simp only [compC] at hc
    split at hc
    · rename_i sa h1
      cases sc <;> simp only [SC.er, reduceCtorEq, Option.some.injEq, SC.block.injEq] at hc
      obtain ⟨rfl, rfl⟩ := hc
      simp only [CW] at h
      simp only [drawB] at hd
      refine wp_block (wp_mono (CW_ok hE h1 hd h hs) ?_)
      intro e a w he
      cases e <;> simp only [postC] at he <;> simp only [Exit.inBlock, postC]
      · exact he
      · rename_i i
        obtain ⟨st', h3, h4⟩ := he
        split
        · rename_i e; rw [if_pos e] at h3; exact ⟨st', h3, h4⟩
        · rename_i e; rw [if_neg e] at h3; exact ⟨st', h3, h4⟩
      · exact he
    · cases hc
  | .loop c, sc, Q, st, a, w, hc, hd, h, hs => by
    simp only [compC] at hc
    split at hc
    · rename_i sa h1
      cases sc <;> simp only [SC.er, reduceCtorEq, Option.some.injEq, SC.loop.injEq] at hc
      subst hc
      simp only [CW] at h
      simp only [drawB] at hd
      obtain ⟨I, ⟨n0, st0, ρ0, hf0, h0⟩, hr⟩ := h
      have dec := Classical.propDecidable
      let J : Act → World → Nat → Prop := fun a w n => ∃ st, I st n ∧ Simm E nt st a w
      let μ : Act → World → Nat := fun a w => if h : ∃ n, J a w n then Classical.choose (has_least h) else 0
      have hμ : ∀ a w n, J a w n → J a w (μ a w) ∧ μ a w ≤ n := by
        intro a w n hn
        have hex : ∃ n, J a w n := ⟨n, hn⟩
        have hd : μ a w = Classical.choose (has_least hex) := dif_pos hex
        have hsp := Classical.choose_spec (has_least hex)
        rw [hd]
        exact ⟨hsp.1, hsp.2 n hn⟩
      refine wp_loop (fun a w => ∃ n, J a w n) μ ⟨n0, st0, h0, hs.fit hf0⟩ ?_
      intro a w ⟨n, hn⟩
      obtain ⟨⟨st', h3, h4⟩, _⟩ := hμ a w n hn
      refine wp_mono (CW_ok hE h1 hd (hr st' _ h3) h4) ?_
      intro e a' w' he
      cases e <;> simp only [postC] at he <;> simp only [Exit.then, postC]
      · obtain ⟨st1, ⟨n', st2, ρ, hlt, hf, h5⟩, h6⟩ := he
        exact ⟨⟨n', st2, h5, h6.fit hf⟩, Nat.lt_of_le_of_lt (hμ a' w' n' ⟨st2, h5, h6.fit hf⟩).2 hlt⟩
      · exact he
      · exact he
    · cases hc
  | .exit id, sc, Q, st, a, w, hc, hd, h, hs => by
    simp only [compC, Option.some.injEq] at hc
    cases sc <;> simp only [SC.er, reduceCtorEq, SC.exit.injEq] at hc
    subst hc
    exact wp_exit ⟨st, h, hs⟩
  | .ret, sc, Q, st, a, w, hc, hd, h, hs => by
    simp only [compC, Option.some.injEq] at hc
    cases sc <;> simp only [SC.er, reduceCtorEq] at hc
    exact wp_ret ⟨st, h, hs⟩
  | .rangeFunc .., sc, Q, st, a, w, hc, _, h, hs => by simp [compC] at hc
  | .scope .., sc, Q, st, a, w, hc, _, h, hs => by simp [compC] at hc
  | .label .., sc, Q, st, a, w, hc, _, h, hs => by simp [compC] at hc
  | .goto .., sc, Q, st, a, w, hc, _, h, hs => by simp [compC] at hc
  | .refuse .., sc, Q, st, a, w, hc, _, h, hs => by simp [compC] at hc
section
variable {P : Program} [Inv P]
def seqQ (P : Program) [Inv P] (b : SC) (Q : Ex → St → Prop) : Ex → St → Prop
  | .normal, st => CW P b Q st
  | .exit i, st => Q (.exit i) st
  | .ret, st => Q .ret st
def blkQ (id : Nat) (Q : Ex → St → Prop) : Ex → St → Prop
  | .normal, st => Q .normal st
  | .exit i, st => if i = id then Q .normal st else Q (.exit i) st
  | .ret, st => Q .ret st
def lpQ {α : Type} (S : α → St) (m : α → Nat) (I : α → Prop) (n : Nat) (Q : Ex → St → Prop) : Ex → St → Prop
  | .normal, st => ∃ x ρ, fit ρ st (S x) ∧ I x ∧ m x < n
  | .exit i, st => Q (.exit i) st
  | .ret, st => Q .ret st
theorem CW_to {c : SC} {Q Q' : Ex → St → Prop} {st : St} (h : CW P c Q st) (e : ∀ e st', Q e st' = Q' e st') : CW P c Q' st := by
  have : Q = Q' := funext fun x => funext fun y => e x y
  subst this
  exact h
theorem CW_skip {Q : Ex → St → Prop} {st : St} (h : Q .normal st) : CW P .skip Q st := h
theorem CW_exit {id : Nat} {Q : Ex → St → Prop} {st : St} (h : Q (.exit id) st) : CW P (.exit id) Q st := h
theorem CW_ret {Q : Ex → St → Prop} {st : St} (h : Q .ret st) : CW P .ret Q st := h
theorem CW_seq {a b : SC} {Q : Ex → St → Prop} {st : St} (h : CW P a (seqQ P b Q) st) : CW P (.seq a b) Q st := by
  unfold CW
  exact CW_to h fun e st' => by cases e <;> rfl
theorem CW_assoc {a b c : SC} {Q : Ex → St → Prop} {st : St} (h : CW P (.seq a (.seq b c)) Q st) : CW P (.seq (.seq a b) c) Q st := by
  simp only [CW] at h ⊢
  exact CW_to h fun e st' => by cases e <;> rfl
theorem CW_reg {ops : List SOp} {lv : Option (List Nat × List Nat)} {Q : Ex → St → Prop} {st : St} (h : RW P ops st fun st' => Q .normal (st'.keep lv)) : CW P (.reg false ops lv) Q st := by
  unfold CW; exact h
theorem CW_drw {ops : List SOp} {lv : Option (List Nat × List Nat)} {Q : Ex → St → Prop} {st : St} (hJ : jOf ops = none) (h : DW P none ops st fun st' => Q .normal (st'.keep lv)) : CW P (.reg true ops lv) Q st := by
  unfold CW
  rw [hJ]
  exact ⟨trivial, h⟩
theorem CW_drwJ {J : Option (Nat × Nat)} {ops : List SOp} {lv : Option (List Nat × List Nat)} {Q : Ex → St → Prop} {st : St} (hJ : jOf ops = J) (hj : okJ J st.M) (h : DW P J ops st fun st' => Q .normal (st'.keep lv)) : CW P (.reg true ops lv) Q st := by
  subst hJ
  unfold CW
  exact ⟨hj, h⟩
theorem CW_cond {c : Opd} {a b : SC} {Q : Ex → St → Prop} {st : St} {t : Bool} (hc : ev st.F c = some (.bool t)) (h1 : t = true → CW P a Q st) (h2 : t = false → CW P b Q st) : CW P (.cond c a b) Q st := by
  unfold CW
  rw [hc]
  exact ⟨h1, h2⟩
theorem CW_block {id : Nat} {c : SC} {Q : Ex → St → Prop} {st : St} (h : CW P c (blkQ id Q) st) : CW P (.block id c) Q st := by
  unfold CW
  exact CW_to h fun e st' => by cases e <;> rfl
theorem CW_loop {α : Type} {c : SC} {Q : Ex → St → Prop} {st : St} (S : α → St) (m : α → Nat) (I : α → Prop) (x0 : α) (ρ : List (Nat × Nat)) (h0 : fit ρ st (S x0)) (hi : I x0)
    (hr : ∀ x, I x → CW P c (lpQ S m I (m x) Q) (S x)) : CW P (.loop c) Q st := by
  refine ⟨fun st n => ∃ x, st = S x ∧ I x ∧ n = m x, ⟨m x0, S x0, ρ, h0, x0, rfl, hi, rfl⟩, ?_⟩
  intro st n ⟨x, e1, hx, e2⟩
  subst e1; subst e2
  refine CW_to (hr x hx) fun e st' => ?_
  cases e
  · apply propext
    constructor
    · rintro ⟨x', ρ, h2, h3, h1⟩; exact ⟨_, _, ρ, h1, h2, x', rfl, h3, rfl⟩
    · rintro ⟨n', st2, ρ, h1, h2, x', rfl, h3, rfl⟩; exact ⟨x', ρ, h2, h3, h1⟩
  · rfl
  · rfl
theorem lp_next {α : Type} {S : α → St} {m : α → Nat} {I : α → Prop} {n : Nat} {Q : Ex → St → Prop} {st : St} (x : α) (ρ : List (Nat × Nat)) (h : fit ρ st (S x)) (hi : I x) (hm : m x < n) : lpQ S m I n Q .normal st := ⟨x, ρ, h, hi, hm⟩
end
def endX (rvs : List RV) (L : List Ob) (rs : List TV) (L' : List Ob) : Ex → St → Prop
  | .exit _, _ => False
  | _, st => match collR rs st.F st.M rvs, collO L' st.M 0 L with
    | some (rs', k1), some (L2, k2) => rs' = rs ∧ L2 = L' ∧ obLen st.M 0 L ∧ distN (k1 ++ k2) = true
    | _, _ => False
theorem endX_ok {P : Program} {E : Env} {fn : Func} {rvs : List RV} {rs : List TV} {L' : List Ob} {st : St} {a : Act} {w' : World} {S : Nat → Prop} (hr : cmpR P fn.results.toList = some rvs) (hS : ∀ b, E.wr b → S b) (h : endX rvs E.L rs L' .ret st) (hs : Simm E fn.ntmps st a w') :
    a.defers = [] ∧ ∃ v, (results fn a.tmps).run P w' = .ok v w' ∧ ∃ fz' Sr So', (∀ b, E.fz b → fz' b) ∧ (∀ b, fz' b → b < w'.heap.size ∧ (E.fz b ∨ S b ∨ E.w0.heap.size ≤ b)) ∧ (∀ b, Sr b ∨ So' b → b < w'.heap.size ∧ ¬ fz' b ∧ (S b ∨ E.w0.heap.size ≤ b)) ∧ (∀ b, Sr b → ¬ So' b) ∧
      RetRep w' fz' rs Sr v ∧ ObRepL w' fz' L' So' E.hs ∧ w'.os = E.w0.os ∧ w'.tape = E.w0.tape ∧ w'.output = E.w0.output ∧ E.w0.heap.size ≤ w'.heap.size ∧ (∀ b, b < E.w0.heap.size → ¬ E.wr b → w'.heap[b]? = E.w0.heap[b]?) := by
  obtain ⟨g, hs⟩ := hs
  simp only [endX] at h
  split at h
  · rename_i rs' k1 L2 k2 h1 h2
    obtain ⟨rfl, rfl, h3, h4⟩ := h
    have hn := distN_nodup h4
    obtain ⟨n1, n2, n3⟩ := nodup_app hn
    obtain ⟨vs, hrun, hv⟩ := collR_ok (s := st.sf) hs hr h1 n1
    obtain ⟨ho, hka⟩ := collO_ok (s := st.sf) hs hs.hnd h2 h3 n2
    have ownS : ∀ b, FP g k1 b ∨ OB g 0 E.L k2 b → ∃ k, Own g k b := fun b hb => by
      rcases hb with ⟨k, _, hf⟩ | ⟨k, _, hf⟩ | ⟨j, _, _, hf⟩
      · exact ⟨k, .inr hf⟩
      · exact ⟨k, .inr hf⟩
      · exact ⟨_, .inl hf⟩
    refine ⟨hs.defers, (if h : vs.length = 1 then vs[0] else .tuple (List.toArray vs)), ?_, g.fz, FP g k1, OB g 0 E.L k2, hs.fz1, fun b hb => ⟨hs.fzlt b hb, (hs.fz2 b hb).imp id fun h => h.imp (hS b) id⟩, fun b hb => ?_, fun b hb1 hb2 => ?_, ⟨vs, hv, rfl⟩, ho, hs.os, hs.tape, hs.output, hs.size, hs.same⟩
    · unfold results
      have e : fn.results = List.toArray fn.results.toList := by simp
      rw [e, List.mapM_toArray, map_eq_pure_bind]
      simp only [Sem.run_bind]
      refine (congrArg (fun r => Result.andThen (Result.andThen r _) _) hrun).trans ?_
      simp only [Result.andThen_ok, Sem.run_pure]
      congr 1
    · obtain ⟨k, hk⟩ := ownS b hb
      exact ⟨(hs.ownlt k b hk).1, hs.ownfz k b hk, (hs.ownlt k b hk).2.imp (hS b) id⟩
    · rcases hb2 with hb2 | ⟨j, _, _, hb2⟩
      · exact FP.dis (s := st.sf) hs n3 hb1 hb2
      · obtain ⟨k, _, hf⟩ := hb1
        have := hs.disj k (lkey j) b (.inr hf) (.inl hb2)
        subst this
        exact (hs.kind _ (by rw [hb2]; simp)).2 b hf
  · exact h.elim
theorem ARepL.length {w : World} {fz : Nat → Prop} {hs : List Value} : ∀ {as : List Arg} {S : Nat → Prop} {vs : List Value}, ARepL w fz hs as S vs → vs.length = as.length
  | [], S, vs, h => by simp only [ARepL] at h; subst h; rfl
  | a :: as, S, vs, h => by
    simp only [ARepL] at h
    obtain ⟨u, us, S1, S2, rfl, _, _, _, h2⟩ := h
    simp [ARepL.length h2]
theorem SemX.of_code {P : Program} [Inv P] {f : FuncId} {fn : Func} {c : Code} {sc : SC} {as : List Arg} {L : List Ob} {rs : List TV} {L' : List Ob} {rvs : List RV} (hf : P.funcs[f]? = some fn) (hb : fn.body = some c) (hsc : compC P fn.ntmps c = some sc.er) (hd : drawB c sc = true) (hr : cmpR P fn.results.toList = some rvs)
    (hn : as.length ≤ fn.ntmps) (has : as.length < 200) (hok : ∀ o ∈ L, obOk o) (hok2 : ∀ c ∈ as, argOk c)
    (h : CW P sc (endX rvs L rs L') (initS as L)) : SemX P f as L rs L' := by
  intro w fz Sa So hs vs hI hfz hS hdj ha ho
  let E : Env := ⟨w, fun b => Sa b ∨ So b, fz, L, hs⟩
  have hE : EnvOk P E := ⟨hI, fun b hb => (hS b hb).2.2⟩
  have h0 : Simm E fn.ntmps (initS as L) _ w := Sim.init (nt := fn.ntmps) hfz (fun b hb => ⟨(hS b hb).1, (hS b hb).2.1⟩) hdj ha ho hok hok2 (by rw [ha.length]; exact hn) has
  refine calls_of_wp hf hb (wp_mono (CW_ok hE hsc hd h h0) ?_)
  intro e a w' he
  have fin : ∀ st, endX rvs L rs L' .ret st → Simm E fn.ntmps st a w' → a.defers = [] ∧ ∃ v, (results fn a.tmps).run P w' = .ok v w' ∧ ∃ v' fz' Sr So', Post P w fz (fun b => Sa b ∨ So b) hs rs L' (.returned v) w' v' fz' Sr So' := by
    intro st h1 h2
    obtain ⟨d, v, hv, fz', Sr, So', q1, q2, q3, q4, q5, q6, q7, q8, q9, q10, q11⟩ := endX_ok (E := E) (S := fun b => Sa b ∨ So b) hr (fun b hb => hb) h1 h2
    exact ⟨d, v, hv, v, fz', Sr, So', ⟨rfl, q7, q8, q9, q10, q11, q1, q2, q3, q4, q5, q6⟩⟩
  cases e <;> simp only [postC] at he
  · obtain ⟨st, h1, h2⟩ := he
    exact fin st h1 h2
  · obtain ⟨st, h1, h2⟩ := he
    exact h1.elim
  · obtain ⟨st, h1, h2⟩ := he
    exact fin st h1 h2
def okD (md : Bool) (bad : List Nat) (M : Nat → Option Mem) : Dep → Prop
  | none => True
  | some (κ, n) => md = true ∧ memN κ bad = false ∧ liveD M (some (κ, n))
mutual
def T.shr : T → T
  | .sl _ sz rows => .sl false sz (T.shrR rows)
  | .ptr row => .ptr (T.shrL row)
  | .fn f caps => .fn f (T.shrL caps)
  | .int k n => .int k n
  | .bool b => .bool b
  | .str s => .str s
  | .junk => .junk
  | .nl => .nl
  | .val v => .val v
def T.shrL : List T → List T
  | [] => []
  | t :: ts => t.shr :: T.shrL ts
def T.shrR : List (List T) → List (List T)
  | [] => []
  | r :: rs => T.shrL r :: T.shrR rs
end
theorem T.shrL_length : ∀ (ts : List T), (T.shrL ts).length = ts.length
  | [] => rfl
  | t :: ts => by simp [T.shrL, T.shrL_length ts]
theorem T.shrR_length : ∀ (ts : List (List T)), (T.shrR ts).length = ts.length
  | [] => rfl
  | t :: ts => by simp [T.shrR, T.shrR_length ts]
theorem T.shrR_map {α : Type} (f g : α → List T) (h : ∀ x, T.shrL (f x) = g x) : ∀ (xs : List α), T.shrR (xs.map f) = xs.map g
  | [] => rfl
  | x :: xs => by simp only [List.map_cons, T.shrR, h, T.shrR_map f g h xs]
mutual
theorem RoT.shr {w : World} {ok : Nat → Prop} : ∀ {t : T} {v : Value}, RoT w ok t v → RoT w ok t.shr v
  | .int k n, v, h => by simpa only [T.shr] using h
  | .bool b, v, h => by simpa only [T.shr] using h
  | .str s, v, h => by simpa only [T.shr] using h
  | .junk, v, h => by simpa only [T.shr] using h
  | .nl, v, h => by simpa only [T.shr] using h
  | .val x, v, h => by simpa only [T.shr] using h
  | .sl o sz rows, v, h => by
    simp only [T.shr, RoT] at h ⊢
    obtain ⟨base, cap, xs, e, q1, q2, q3, q4⟩ := h
    refine ⟨base, cap, xs, by rw [T.shrR_length]; exact e, by rw [T.shrR_length]; exact q1, q2, RoRows.shr q3, fun hne => q4 fun e => hne (by rw [e]; rfl)⟩
  | .ptr row, v, h => by
    simp only [T.shr, RoT] at h ⊢
    obtain ⟨b, o, xs, e, q1, q2, q3, q4⟩ := h
    exact ⟨b, o, xs, e, q1, q2, RoL.shr q3, q4⟩
  | .fn f caps, v, h => by
    simp only [T.shr, RoT] at h ⊢
    obtain ⟨cs, e, hc⟩ := h
    exact ⟨cs, e, RoL.shr hc⟩
theorem RoL.shr {w : World} {ok : Nat → Prop} : ∀ {t : List T} {v : List Value}, RoL w ok t v → RoL w ok (T.shrL t) v
  | [], v, h => by simpa only [T.shrL] using h
  | t :: ts, v, h => by
    simp only [T.shrL, RoL] at h ⊢
    obtain ⟨u, us, e, h1, h2⟩ := h
    exact ⟨u, us, e, RoT.shr h1, RoL.shr h2⟩
theorem RoRows.shr {w : World} {ok : Nat → Prop} {sz : Nat} : ∀ {t : List (List T)} {v : List Value}, RoRows w ok sz t v → RoRows w ok sz (T.shrR t) v
  | [], v, h => by simpa only [T.shrR] using h
  | t :: ts, v, h => by
    simp only [T.shrR, RoRows] at h ⊢
    obtain ⟨c, d, e, hl, h1, h2⟩ := h
    exact ⟨c, d, e, by rw [T.shrL_length]; exact hl, RoL.shr h1, RoRows.shr h2⟩
end
mutual
def roT (md : Bool) (bad : List Nat) (M : Nat → Option Mem) : T → V → Option Prop
  | .int k n, .int k' n' => some (k' = k ∧ n' = n)
  | .bool b, .bool b' => some (b' = b)
  | .str s, .str s' => some (s' = s)
  | .sl _ _ rows, .nil => some (rows = [])
  | .sl _ sz rows, .sl dep sz' rows' => some (okD md bad M dep ∧ (rows' = [] ∨ sz' = sz) ∧ T.shrR rows' = rows)
  | .sl _ sz rows, .ref κ off len => match M κ with
    | some (.arr A) => some (md = true ∧ memN κ bad = false ∧ A.sz = sz ∧ off + len ≤ A.rows.length ∧ T.shrR ((A.rows.drop off).take len) = rows)
    | _ => none
  | .ptr row, .rptr dep row' j => some (okD md bad M dep ∧ T.shrL ((row'.drop j).take row.length) = row)
  | .ptr row, .eptr κ i j => match M κ with
    | some (.arr A) => some (md = true ∧ memN κ bad = false ∧ i < A.rows.length ∧ T.shrL (((A.rows.getD i []).drop j).take row.length) = row)
    | _ => none
  | .ptr row, .vptr d j => match M d with
    | some (.var cells) => (roTs md bad M row ((cells.drop j).take row.length)).map fun p => md = true ∧ memN d bad = false ∧ p
    | _ => none
  | .fn f caps, .fn f' caps' => (roTs md bad M caps caps').map fun p => f' = f ∧ p
  | .junk, _ => some True
  | .nl, .nil => some True
  | .val u, .lit v => some (v = u)
  | .sl _ sz rows, .hv κ len _ => match M κ with
    | some (.arr A) => some (md = true ∧ memN κ bad = false ∧ A.sz = sz ∧ len ≤ A.rows.length ∧ T.shrR (A.rows.take len) = rows)
    | _ => none
  | _, _ => none
def roTs (md : Bool) (bad : List Nat) (M : Nat → Option Mem) : List T → List V → Option Prop
  | [], [] => some True
  | t :: ts, x :: xs => match roT md bad M t x, roTs md bad M ts xs with
    | some p, some q => some (p ∧ q)
    | _, _ => none
  | _, _ => none
end
def fzC (md : Bool) (bad : List Nat) (g : Gh) (b : Nat) : Prop := g.fz b ∨ (md = true ∧ ∃ k, memN k bad = false ∧ Own g k b)
section
variable {E : Env} {nt : Nat} {s : SF} {g : Gh} {a : Act} {w : World} {md : Bool} {bad : List Nat}
theorem okD_ok (h : Sim E nt s g a w) {dep : Dep} (hd : okD md bad s.M dep) : live g dep ∧ ∀ b, okd g dep b → fzC md bad g b := by
  cases dep with
  | none => exact ⟨trivial, fun b hb => .inl hb⟩
  | some kn =>
    obtain ⟨κ, n⟩ := kn
    obtain ⟨h1, h2, h3⟩ := hd
    exact ⟨liveD_ok h h3, fun b hb => hb.imp id fun hf => ⟨h1, κ, h2, .inr hf⟩⟩
theorem OwRows.rd {w : World} {fz : Nat → Prop} {ok : Nat → Prop} {sz : Nat} {rows : List (List T)} {S : Nat → Prop} {L : List Value} (h : OwRows w fz sz rows S L) (hf : ∀ b, fz b → ok b) (hS : ∀ b, S b → ok b) : RoRows w ok sz rows L := h.ro hf fun b _ hb => hS b hb
mutual
theorem roT_ok (h : Sim E nt s g a w) : ∀ {t : T} {x : V} {v : Value} {p : Prop}, VRep w g x v → roT md bad s.M t x = some p → p → RoT w (fzC md bad g) t v
  | .int k n, x, v, p, hx, hr, hp => by
    cases x <;> simp only [roT, reduceCtorEq, Option.some.injEq] at hr
    subst hr
    obtain ⟨rfl, rfl⟩ := hp
    simpa only [VRep, RoT] using hx
  | .bool b, x, v, p, hx, hr, hp => by
    cases x <;> simp only [roT, reduceCtorEq, Option.some.injEq] at hr
    subst hr
    subst hp
    simpa only [VRep, RoT] using hx
  | .str b, x, v, p, hx, hr, hp => by
    cases x <;> simp only [roT, reduceCtorEq, Option.some.injEq] at hr
    subst hr
    subst hp
    simpa only [VRep, RoT] using hx
  | .sl o sz rows, x, v, p, hx, hr, hp => by
    cases x <;> simp only [roT, reduceCtorEq, Option.some.injEq] at hr
    · subst hr
      subst hp
      simp only [VRep] at hx
      obtain ⟨base, rfl⟩ := hx
      simp only [RoT]
      exact ⟨base, 0, [], rfl, Nat.le_refl _, Nat.zero_le _, by simp only [RoRows], fun h => absurd rfl h⟩
    · rename_i dep sz' rows'
      subst hr
      obtain ⟨h1, h2, rfl⟩ := hp
      obtain ⟨h3, h4⟩ := okD_ok h h1
      simp only [VRep] at hx
      have := (hx.2 h3).okk h4
      simp only [RoT] at this ⊢
      obtain ⟨base, cap, xs, e, q1, q2, q3, q4⟩ := this
      refine ⟨base, cap, xs, by rw [T.shrR_length]; exact e, by rw [T.shrR_length]; exact q1, q2, ?_, fun hne => q4 fun e => hne (by rw [e]; rfl)⟩
      rcases h2 with rfl | rfl
      · simpa only [T.shrR, RoRows] using q3
      · exact q3.shr
    · rename_i κ off len
      split at hr
      · rename_i A hA
        simp only [Option.some.injEq] at hr
        subst hr
        obtain ⟨h1, h2, rfl, h4, rfl⟩ := hp
        simp only [VRep] at hx
        obtain ⟨base, cap, sz, base', hab, hcap, hv, hb0, hb1⟩ := hx
        obtain ⟨base2, cap2, hab2, htop, hown, _⟩ := h.mem κ _ hA
        rw [hab] at hab2
        cases hab2
        simp only [OwT] at hown
        obtain ⟨base3, cap3, e3, hc3, hm3, hrow⟩ := hown
        simp only [Value.slice.injEq, true_and] at e3
        obtain ⟨rfl, rfl⟩ := e3
        have hlen : ((A.rows.drop off).take len).length = len := by simp; omega
        simp only [RoT]
        rw [T.shrR_length, hlen]
        rcases hrow with ⟨e, e0⟩ | ⟨b, cur, el, e1, hS, hb, hfit, hrr⟩
        · have hz : A.rows.length = 0 := by rw [e]; rfl
          have hl0 : len = 0 := by omega
          subst hl0
          refine ⟨base', cap - off, [], hv, Nat.zero_le _, by omega, by simp only [List.take_zero, T.shrR, RoRows], fun h => absurd (by simp [T.shrR]) h⟩
        · have hro : RoRows w (fzC md bad g) A.sz A.rows (cur.toList.take (A.rows.length * A.sz)) := hrr.rd (fun b hb => .inl hb) (fun b hb => .inr ⟨h1, κ, h2, .inr hb.1⟩)
          obtain ⟨r1, r2⟩ := hro.take_drop off
          obtain ⟨r3, r4⟩ := r2.take_drop len
          refine ⟨base', cap - off, _, hv, by omega, by omega, r3.shr, fun hne => ?_⟩
          have hl0 : len ≠ 0 := fun e => hne (by rw [e]; simp [T.shrR])
          refine ⟨b, off * A.sz, ?_, lt_of_heap hb, .inr ⟨h1, κ, h2, .inr hS⟩, fun j u hj => ?_⟩
          · rw [hb1 hl0, e1]
            simp [Addr.add]
            intro e
            exact e.symm
          · have hcu : cur[off * A.sz + j]? = some u := by
              have := hj
              rw [List.getElem?_take] at this
              split at this
              · rw [List.getElem?_drop, List.getElem?_take] at this
                split at this
                · simpa using this
                · cases this
              · cases this
            simp [World.cell?, hb, hcu]
      · cases hr
    · rename_i κ len x0
      split at hr
      · rename_i A hA
        simp only [Option.some.injEq] at hr
        subst hr
        obtain ⟨h1, h2, rfl, h4, rfl⟩ := hp
        simp only [VRep] at hx
        obtain ⟨_, base, cap, sz, hab, hcap, hv⟩ := hx
        have off0 : ∃ off, off = 0 := ⟨0, rfl⟩
        obtain ⟨off, hoff⟩ := off0
        have hv : v = .slice base len (cap - off) := by rw [hv, hoff]; rfl
        have hb1 : len ≠ 0 → base = base.map (·.add (off * sz)) := fun _ => by rw [hoff]; cases base <;> simp [Addr.add]
        have hcap : off + len ≤ cap := by omega
        have h4 : off + len ≤ A.rows.length := by omega
        have hd0 : A.rows.take len = (A.rows.drop off).take len := by rw [hoff]; rfl
        rw [hd0]
        clear hoff hd0
        obtain ⟨base2, cap2, hab2, htop, hown, _⟩ := h.mem κ _ hA
        rw [hab] at hab2
        cases hab2
        simp only [OwT] at hown
        obtain ⟨base3, cap3, e3, hc3, hm3, hrow⟩ := hown
        simp only [Value.slice.injEq, true_and] at e3
        obtain ⟨rfl, rfl⟩ := e3
        have hlen : ((A.rows.drop off).take len).length = len := by simp; omega
        simp only [RoT]
        rw [T.shrR_length, hlen]
        rcases hrow with ⟨e, e0⟩ | ⟨b, cur, el, e1, hS, hb, hfit, hrr⟩
        · have hz : A.rows.length = 0 := by rw [e]; rfl
          have hl0 : len = 0 := by omega
          subst hl0
          refine ⟨base, cap - off, [], hv, Nat.zero_le _, by omega, by simp only [List.take_zero, T.shrR, RoRows], fun h => absurd (by simp [T.shrR]) h⟩
        · have hro : RoRows w (fzC md bad g) A.sz A.rows (cur.toList.take (A.rows.length * A.sz)) := hrr.rd (fun b hb => .inl hb) (fun b hb => .inr ⟨h1, κ, h2, .inr hb.1⟩)
          obtain ⟨r1, r2⟩ := hro.take_drop off
          obtain ⟨r3, r4⟩ := r2.take_drop len
          refine ⟨base, cap - off, _, hv, by omega, by omega, r3.shr, fun hne => ?_⟩
          have hl0 : len ≠ 0 := fun e => hne (by rw [e]; simp [T.shrR])
          refine ⟨b, off * A.sz, ?_, lt_of_heap hb, .inr ⟨h1, κ, h2, .inr hS⟩, fun j u hj => ?_⟩
          · rw [hb1 hl0, e1]
            simp [Addr.add]
            intro e
            exact e.symm
          · have hcu : cur[off * A.sz + j]? = some u := by
              have := hj
              rw [List.getElem?_take] at this
              split at this
              · rw [List.getElem?_drop, List.getElem?_take] at this
                split at this
                · simpa using this
                · cases this
              · cases this
            simp [World.cell?, hb, hcu]
      · cases hr
  | .ptr row, x, v, p, hx, hr, hp => by
    cases x <;> simp only [roT, reduceCtorEq, Option.some.injEq] at hr
    · rename_i d j
      split at hr
      · rename_i cells hM
        simp only [Option.map_eq_some_iff] at hr
        obtain ⟨q, hq, rfl⟩ := hr
        obtain ⟨h1, h2, hp⟩ := hp
        simp only [VRep] at hx
        obtain ⟨b, hbv, rfl⟩ := hx
        obtain ⟨b', cur, el, hbv', hb, hcs⟩ := h.mem d _ hM
        rw [hbv] at hbv'
        cases hbv'
        simp only [RoT]
        have hsub : VRepL w g ((cells.drop j).take row.length) ((cur.toList.drop j).take row.length) := (hcs.drop j).take row.length
        refine ⟨b, j, _, rfl, lt_of_heap hb, .inr ⟨h1, d, h2, .inl hbv⟩, roTs_ok h hsub hq hp, fun i u hi => ?_⟩
        have hcu : cur[j + i]? = some u := by
          rw [List.getElem?_take] at hi
          split at hi
          · rw [List.getElem?_drop] at hi; simpa using hi
          · cases hi
        simp [World.cell?, hb, hcu]
      · cases hr
    · rename_i κ i j
      split at hr
      · rename_i A hA
        simp only [Option.some.injEq] at hr
        subst hr
        obtain ⟨h1, h2, h3, h4⟩ := hp
        simp only [VRep] at hx
        obtain ⟨b, cap, sz, hab, rfl⟩ := hx
        obtain ⟨base2, cap2, hab2, htop, hown, _⟩ := h.mem κ _ hA
        rw [hab] at hab2
        simp only [Option.some.injEq, Prod.mk.injEq] at hab2
        obtain ⟨rfl, rfl, rfl⟩ := hab2
        simp only [OwT] at hown
        obtain ⟨base3, cap3, e3, hc3, hm3, hrow⟩ := hown
        simp only [Value.slice.injEq, true_and] at e3
        obtain ⟨rfl, rfl⟩ := e3
        rcases hrow with ⟨e, e0⟩ | ⟨b2, cur, el, e1, hS, hb, hfit, hrr⟩
        · rw [e] at h3; cases h3
        · simp only [Option.some.injEq, Addr.mk.injEq, and_true] at e1
          subst e1
          obtain ⟨S1, hS1, hrw, hrl⟩ := hrr.get (getD_some (df := []) h3)
          have hro : RoL w (fzC md bad g) (A.rows.getD i []) _ := hrw.ro (fun b hb => .inl hb) (fun b _ hb => .inr ⟨h1, κ, h2, .inr (hS1 b hb).1⟩)
          have hro2 := ((hro.drop j).take row.length).shr
          rw [h4] at hro2
          simp only [RoT]
          refine ⟨b, i * A.sz + j, _, rfl, lt_of_heap hb, .inr ⟨h1, κ, h2, .inr hS⟩, hro2, fun q u hq => ?_⟩
          have hcu : cur[i * A.sz + j + q]? = some u := by
            rw [List.getElem?_take] at hq
            split at hq
            · rw [List.getElem?_drop, List.getElem?_take] at hq
              split at hq
              · rw [List.getElem?_drop, List.getElem?_take] at hq
                split at hq
                · simpa [Nat.add_assoc] using hq
                · cases hq
              · cases hq
            · cases hq
          simp [World.cell?, hb, hcu]
      · cases hr
    · rename_i dep row' j
      subst hr
      obtain ⟨h1, h2⟩ := hp
      obtain ⟨h3, h4⟩ := okD_ok h h1
      simp only [VRep] at hx
      obtain ⟨b, o, xs, e, q1, q2, q3, q4⟩ := hx.2 h3
      have hro := (((q3.okk h4).drop j).take row.length).shr
      rw [h2] at hro
      simp only [RoT]
      refine ⟨b, o + j, _, e, q1, h4 b q2, hro, fun i u hi => ?_⟩
      rw [List.getElem?_take] at hi
      split at hi
      · rw [List.getElem?_drop] at hi
        rw [Nat.add_assoc]
        exact q4 _ u hi
      · cases hi
  | .fn f caps, x, v, p, hx, hr, hp => by
    cases x <;> simp only [roT, reduceCtorEq, Option.some.injEq] at hr
    simp only [Option.map_eq_some_iff] at hr
    obtain ⟨q, hq, rfl⟩ := hr
    obtain ⟨rfl, hp⟩ := hp
    simp only [VRep] at hx
    obtain ⟨cs, rfl, hc⟩ := hx
    simp only [RoT]
    exact ⟨cs, rfl, roTs_ok h hc hq hp⟩
  | .junk, x, v, p, hx, hr, hp => by simp only [RoT]
  | .nl, x, v, p, hx, hr, hp => by
    cases x <;> simp only [roT, reduceCtorEq, Option.some.injEq] at hr
    simp only [VRep] at hx
    simpa only [RoT] using hx
  | .val u, x, v, p, hx, hr, hp => by
    cases x <;> simp only [roT, reduceCtorEq, Option.some.injEq] at hr
    subst hr
    simp only [VRep] at hx
    simp only [RoT]
    exact hx.trans hp
theorem roTs_ok (h : Sim E nt s g a w) : ∀ {t : List T} {x : List V} {v : List Value} {p : Prop}, VRepL w g x v → roTs md bad s.M t x = some p → p → RoL w (fzC md bad g) t v
  | [], [], v, p, hx, hr, hp => by simpa only [VRepL, RoL] using hx
  | [], _ :: _, v, p, hx, hr, hp => by simp [roTs] at hr
  | _ :: _, [], v, p, hx, hr, hp => by simp [roTs] at hr
  | t :: ts, x :: xs, v, p, hx, hr, hp => by
    simp only [roTs] at hr
    split at hr
    · rename_i q1 q2 h1 h2
      cases hr
      simp only [VRepL] at hx
      obtain ⟨u, us, rfl, h3, h4⟩ := hx
      simp only [RoL]
      exact ⟨u, us, rfl, roT_ok h h3 h1 hp.1, roTs_ok h h4 h2 hp.2⟩
    · cases hr
end
def giveT (md : Bool) (bad : List Nat) (M : Nat → Option Mem) : T → V → Option (Prop × List Nat)
  | .sl true sz rows, .nil => some (rows = [], [])
  | .sl true sz rows, .ref κ 0 len => match M κ with
    | some (.arr A) => some (A.sz = sz ∧ len ≤ A.rows.length ∧ A.rows.take len = rows, [κ])
    | _ => none
  | .sl true _ _, _ => none
  | t, x => (roT md bad M t x).map fun p => (p, [])
def giveTs (md : Bool) (bad : List Nat) (M : Nat → Option Mem) : List T → List V → Option (Prop × List Nat)
  | [], [] => some (True, [])
  | t :: ts, x :: xs => match giveT md bad M t x, giveTs md bad M ts xs with
    | some (p, a), some (q, b) => some (p ∧ q, a ++ b)
    | _, _ => none
  | _, _ => none
def Arrs (s : SF) (ks : List Nat) : Prop := ∀ k ∈ ks, ∃ A, s.M k = some (.arr A)
theorem roOwn {t : T} {v : Value} {ok : Nat → Prop} {S : Nat → Prop} (ht : ∀ sz rows, t ≠ .sl true sz rows) (h : RoT w ok t v) : OwT w ok t S v := by
  cases t with
  | sl o sz rows =>
    cases o with
    | true => exact absurd rfl (ht sz rows)
    | false => simpa only [OwT] using h
  | _ => first | (simp only [OwT]; done) | (simpa only [OwT, RoT] using h)
theorem giveT_ok (h : Sim E nt s g a w) {t : T} {x : V} {v : Value} {p : Prop} {ks : List Nat} (hx : VRep w g x v) (hr : giveT md bad s.M t x = some (p, ks)) (hp : p) : OwT w (fzC md bad g) t (FP g ks) v ∧ Arrs s ks := by
  unfold giveT at hr
  split at hr
  · cases hr
    subst hp
    simp only [VRep] at hx
    obtain ⟨base, rfl⟩ := hx
    simp only [OwT]
    exact ⟨⟨base, 0, rfl, Nat.le_refl _, Nat.zero_le _, .inl ⟨trivial, rfl⟩⟩, by simp [Arrs]⟩
  · rename_i sz rows κ len
    split at hr
    · rename_i A hA
      cases hr
      obtain ⟨rfl, hle, rfl⟩ := hp
      have ht : (V.ref κ 0 len).toT (.bool false) s.M = some (.sl true A.sz (A.rows.take len), [κ]) := by simp only [V.toT, V.toT0, hA, if_pos hle]
      obtain ⟨h1, h2⟩ := toT_ok h hx ht
      exact ⟨h1.mono (Nat.le_refl _) (fun b _ hb => ⟨.inl hb, rfl⟩) (fun b hb => hb) (fun _ _ _ => rfl), h2⟩
    · cases hr
  · cases hr
  · rename_i hne1 hne2 hne3
    simp only [Option.map_eq_some_iff, Prod.mk.injEq] at hr
    obtain ⟨q, hq, rfl, rfl⟩ := hr
    refine ⟨roOwn (fun sz rows e => ?_) (roT_ok h hx hq hp), by simp [Arrs]⟩
    subst e
    exact hne1 sz rows rfl
theorem FP.mono {ks ks' : List Nat} (h : ∀ k ∈ ks, k ∈ ks') {b : Nat} (hb : FP g ks b) : FP g ks' b := by
  obtain ⟨k, hk, hf⟩ := hb
  exact ⟨k, h k hk, hf⟩
theorem giveTs_ok (h : Sim E nt s g a w) : ∀ {t : List T} {x : List V} {v : List Value} {p : Prop} {ks : List Nat}, VRepL w g x v → giveTs md bad s.M t x = some (p, ks) → p → nodupK ks = true → OwL w (fzC md bad g) t (FP g ks) v ∧ Arrs s ks
  | [], [], v, p, ks, hx, hr, hp, hn => by
    cases hr
    exact ⟨by simpa only [VRepL, OwL] using hx, by simp [Arrs]⟩
  | [], _ :: _, v, p, ks, hx, hr, hp, hn => by simp [giveTs] at hr
  | _ :: _, [], v, p, ks, hx, hr, hp, hn => by simp [giveTs] at hr
  | t :: ts, x :: xs, v, p, ks, hx, hr, hp, hn => by
    simp only [giveTs] at hr
    split at hr
    · rename_i q1 k1 q2 k2 h1 h2
      cases hr
      obtain ⟨n1, n2, n3⟩ := nodup_app hn
      simp only [VRepL] at hx
      obtain ⟨u, us, rfl, h3, h4⟩ := hx
      obtain ⟨o1, a1⟩ := giveT_ok h h3 h1 hp.1
      obtain ⟨o2, a2⟩ := giveTs_ok h h4 h2 hp.2 n2
      simp only [OwL]
      refine ⟨⟨u, us, FP g k1, FP g k2, rfl, fun b hb => ⟨hb.mono fun k hk => List.mem_append_left _ hk, fun hb2 => FP.dis h n3 hb hb2⟩, fun b hb => hb.mono fun k hk => List.mem_append_right _ hk, o1, o2⟩, fun k hk => ?_⟩
      rcases List.mem_append.1 hk with hk | hk
      · exact a1 k hk
      · exact a2 k hk
    · cases hr
def T.isOwn : T → Bool
  | .sl true _ _ => true
  | _ => false
mutual
def roC (md : Bool) (bad hk : List Nat) (M : Nat → Option Mem) : C → V → Option Prop
  | .t t, x => if t.isOwn then none else roT md bad M t x
  | .arr i, .ref κ off len => match M κ with
    | some (.arr A) => some (hk[i]? = some κ ∧ off = 0 ∧ len = A.rows.length)
    | _ => none
  | .arr i, .hm _ _ _ _ κ len => match M κ with
    | some (.arr A) => some (hk[i]? = some κ ∧ len = A.rows.length)
    | _ => none
  | .ptr i j, .vptr d j' => some (hk[i]? = some d ∧ j' = j ∧ (match M d with | some (.var _) => True | _ => False))
  | .fn f caps, .fn f' caps' => (roCs md bad hk M caps caps').map fun p => f' = f ∧ p
  | _, _ => none
def roCs (md : Bool) (bad hk : List Nat) (M : Nat → Option Mem) : List C → List V → Option Prop
  | [], [] => some True
  | t :: ts, x :: xs => match roC md bad hk M t x, roCs md bad hk M ts xs with
    | some p, some q => some (p ∧ q)
    | _, _ => none
  | _, _ => none
end
def giveC (md : Bool) (bad hk : List Nat) (M : Nat → Option Mem) : C → V → Option (Prop × List Nat)
  | .t t, x => giveT md bad M t x
  | c, x => (roC md bad hk M c x).map fun p => (p, [])
def giveCs (md : Bool) (bad hk : List Nat) (M : Nat → Option Mem) : List C → List V → Option (Prop × List Nat)
  | [], [] => some (True, [])
  | t :: ts, x :: xs => match giveC md bad hk M t x, giveCs md bad hk M ts xs with
    | some (p, a), some (q, b) => some (p ∧ q, a ++ b)
    | _, _ => none
  | _, _ => none
def giveA (md : Bool) (bad hk : List Nat) (M : Nat → Option Mem) : Arg → V → Option (Prop × List Nat)
  | .one c, x => giveC md bad hk M c x
  | .agg cs, .agg xs => giveCs md bad hk M cs xs
  | _, _ => none
def giveAs (md : Bool) (bad hk : List Nat) (M : Nat → Option Mem) : List Arg → List V → Option (Prop × List Nat)
  | [], [] => some (True, [])
  | t :: ts, x :: xs => match giveA md bad hk M t x, giveAs md bad hk M ts xs with
    | some (p, a), some (q, b) => some (p ∧ q, a ++ b)
    | _, _ => none
  | _, _ => none
def HV (s : SF) (g : Gh) (k : Nat) (v : Value) : Prop :=
  (∃ cells b, s.M k = some (.var cells) ∧ g.bv k = some b ∧ v = .pointer (some ⟨b, 0, none⟩)) ∨ (∃ base cap A, s.M k = some (.arr A) ∧ g.ab k = some (base, cap, A.sz) ∧ A.rows.length ≤ cap ∧ v = .slice base A.rows.length cap)
def HVs (s : SF) (g : Gh) (hk : List Nat) (hs : List Value) : Prop := ∀ (i k : Nat), hk[i]? = some k → ∃ v, hs[i]? = some v ∧ HV s g k v
mutual
theorem roC_ok (h : Sim E nt s g a w) {hk : List Nat} {hs : List Value} (hh : HVs s g hk hs) : ∀ {t : C} {x : V} {v : Value} {p : Prop}, VRep w g x v → roC md bad hk s.M t x = some p → p → CRep w (fzC md bad g) hs t (fun _ => False) v
  | .t y, x, v, p, hx, hr, hp => by
    simp only [roC] at hr
    split at hr
    · cases hr
    · rename_i ho
      simp only [CRep]
      exact roOwn (fun sz rows e => ho (by rw [e]; rfl)) (roT_ok h hx hr hp)
  | .arr i, x, v, p, hx, hr, hp => by
    cases x <;> simp only [roC, reduceCtorEq] at hr
    case hm κ0 n0 i0 j0 κ len =>
      split at hr
      · rename_i A hA
        cases hr
        obtain ⟨h1, rfl⟩ := hp
        obtain ⟨u, h2, h3⟩ := hh i κ h1
        simp only [CRep]
        rw [h2]
        simp only [VRep] at hx
        obtain ⟨⟨base, cap, sz, hab, hcap, hv⟩, _⟩ := hx
        rcases h3 with ⟨cells, b, h4, _⟩ | ⟨base2, cap2, A2, h4, h5, _, rfl⟩
        · rw [hA] at h4; cases h4
        · rw [hab] at h5
          simp only [Option.some.injEq, Prod.mk.injEq] at h5
          obtain ⟨rfl, rfl, _⟩ := h5
          rw [hA] at h4
          cases h4
          rw [hv]
      · cases hr
    rename_i κ off len
    split at hr
    · rename_i A hA
      cases hr
      obtain ⟨h1, rfl, rfl⟩ := hp
      obtain ⟨u, h2, h3⟩ := hh i κ h1
      simp only [CRep]
      rw [h2]
      simp only [VRep] at hx
      obtain ⟨base, cap, sz, base', hab, hcap, hv, hb0, _⟩ := hx
      rcases h3 with ⟨cells, b, h4, _⟩ | ⟨base2, cap2, A2, h4, h5, _, rfl⟩
      · rw [hA] at h4; cases h4
      · rw [hab] at h5
        simp only [Option.some.injEq, Prod.mk.injEq] at h5
        obtain ⟨rfl, rfl, _⟩ := h5
        rw [hA] at h4
        cases h4
        rw [hv, hb0 trivial]
        simp
    · cases hr
  | .ptr i j, x, v, p, hx, hr, hp => by
    cases x <;> simp only [roC, reduceCtorEq, Option.some.injEq] at hr
    rename_i d j'
    subst hr
    obtain ⟨h1, rfl, hM⟩ := hp
    obtain ⟨u, h2, h3⟩ := hh i d h1
    simp only [CRep]
    simp only [VRep] at hx
    obtain ⟨b, hbv, rfl⟩ := hx
    rcases h3 with ⟨cells, b', h4, h5, rfl⟩ | ⟨base2, cap2, A2, h4, _⟩
    · rw [hbv] at h5
      cases h5
      exact ⟨b, h2, rfl⟩
    · rw [h4] at hM; exact hM.elim
  | .fn f caps, x, v, p, hx, hr, hp => by
    cases x <;> simp only [roC, reduceCtorEq] at hr
    simp only [Option.map_eq_some_iff] at hr
    obtain ⟨q, hq, rfl⟩ := hr
    obtain ⟨rfl, hp⟩ := hp
    simp only [VRep] at hx
    obtain ⟨cs, rfl, hc⟩ := hx
    simp only [CRep]
    exact ⟨cs, rfl, roCs_ok h hh hc hq hp⟩
theorem roCs_ok (h : Sim E nt s g a w) {hk : List Nat} {hs : List Value} (hh : HVs s g hk hs) : ∀ {t : List C} {x : List V} {v : List Value} {p : Prop}, VRepL w g x v → roCs md bad hk s.M t x = some p → p → CRepL w (fzC md bad g) hs t (fun _ => False) v
  | [], [], v, p, hx, hr, hp => by simpa only [VRepL, CRepL] using hx
  | [], _ :: _, v, p, hx, hr, hp => by simp [roCs] at hr
  | _ :: _, [], v, p, hx, hr, hp => by simp [roCs] at hr
  | t :: ts, x :: xs, v, p, hx, hr, hp => by
    simp only [roCs] at hr
    split at hr
    · rename_i q1 q2 h1 h2
      cases hr
      simp only [VRepL] at hx
      obtain ⟨u, us, rfl, h3, h4⟩ := hx
      simp only [CRepL]
      refine ⟨u, us, fun _ => False, fun _ => False, rfl, fun _ h => h.elim, fun _ h => h, roC_ok h hh h3 h1 hp.1, roCs_ok h hh h4 h2 hp.2⟩
    · cases hr
end
theorem giveC_ok (h : Sim E nt s g a w) {hk : List Nat} {hs : List Value} (hh : HVs s g hk hs) {t : C} {x : V} {v : Value} {p : Prop} {ks : List Nat} (hx : VRep w g x v) (hr : giveC md bad hk s.M t x = some (p, ks)) (hp : p) : CRep w (fzC md bad g) hs t (FP g ks) v ∧ Arrs s ks := by
  have other : (∀ y, t ≠ .t y) → (roC md bad hk s.M t x).map (fun p => (p, ([] : List Nat))) = some (p, ks) → CRep w (fzC md bad g) hs t (FP g ks) v ∧ Arrs s ks := fun hne hr => by
    simp only [Option.map_eq_some_iff, Prod.mk.injEq] at hr
    obtain ⟨q, hq, rfl, rfl⟩ := hr
    have := roC_ok h hh hx hq hp
    refine ⟨?_, by simp [Arrs]⟩
    cases t with
    | t y => exact absurd rfl (hne y)
    | arr i => simpa only [CRep] using this
    | ptr i j => simpa only [CRep] using this
    | fn f caps => simpa only [CRep] using this
  cases t with
  | t y =>
    simp only [giveC] at hr
    simp only [CRep]
    exact giveT_ok h hx hr hp
  | arr i => exact other (by simp) hr
  | ptr i j => exact other (by simp) hr
  | fn f caps => exact other (by simp) hr
theorem giveCs_ok (h : Sim E nt s g a w) {hk : List Nat} {hs : List Value} (hh : HVs s g hk hs) : ∀ {t : List C} {x : List V} {v : List Value} {p : Prop} {ks : List Nat}, VRepL w g x v → giveCs md bad hk s.M t x = some (p, ks) → p → nodupK ks = true → CRepL w (fzC md bad g) hs t (FP g ks) v ∧ Arrs s ks
  | [], [], v, p, ks, hx, hr, hp, hn => by
    cases hr
    exact ⟨by simpa only [VRepL, CRepL] using hx, by simp [Arrs]⟩
  | [], _ :: _, v, p, ks, hx, hr, hp, hn => by simp [giveCs] at hr
  | _ :: _, [], v, p, ks, hx, hr, hp, hn => by simp [giveCs] at hr
  | t :: ts, x :: xs, v, p, ks, hx, hr, hp, hn => by
    simp only [giveCs] at hr
    split at hr
    · rename_i q1 k1 q2 k2 h1 h2
      cases hr
      obtain ⟨n1, n2, n3⟩ := nodup_app hn
      simp only [VRepL] at hx
      obtain ⟨u, us, rfl, h3, h4⟩ := hx
      obtain ⟨o1, a1⟩ := giveC_ok h hh h3 h1 hp.1
      obtain ⟨o2, a2⟩ := giveCs_ok h hh h4 h2 hp.2 n2
      simp only [CRepL]
      refine ⟨⟨u, us, FP g k1, FP g k2, rfl, fun b hb => ⟨hb.mono fun k hk => List.mem_append_left _ hk, fun hb2 => FP.dis h n3 hb hb2⟩, fun b hb => hb.mono fun k hk => List.mem_append_right _ hk, o1, o2⟩, fun k hk => ?_⟩
      rcases List.mem_append.1 hk with hk | hk
      · exact a1 k hk
      · exact a2 k hk
    · cases hr
theorem giveA_ok (h : Sim E nt s g a w) {hk : List Nat} {hs : List Value} (hh : HVs s g hk hs) {t : Arg} {x : V} {v : Value} {p : Prop} {ks : List Nat} (hx : VRep w g x v) (hr : giveA md bad hk s.M t x = some (p, ks)) (hp : p) (hn : nodupK ks = true) : ARep w (fzC md bad g) hs t (FP g ks) v ∧ Arrs s ks := by
  cases t with
  | one c => exact giveC_ok h hh hx hr hp
  | agg cs =>
    cases x <;> simp only [giveA, reduceCtorEq] at hr
    simp only [VRep] at hx
    obtain ⟨us, rfl, hc⟩ := hx
    obtain ⟨h1, h2⟩ := giveCs_ok h hh hc hr hp hn
    exact ⟨⟨us, rfl, h1⟩, h2⟩
theorem giveAs_ok (h : Sim E nt s g a w) {hk : List Nat} {hs : List Value} (hh : HVs s g hk hs) : ∀ {t : List Arg} {x : List V} {v : List Value} {p : Prop} {ks : List Nat}, VRepL w g x v → giveAs md bad hk s.M t x = some (p, ks) → p → nodupK ks = true → ARepL w (fzC md bad g) hs t (FP g ks) v ∧ Arrs s ks
  | [], [], v, p, ks, hx, hr, hp, hn => by
    cases hr
    exact ⟨by simpa only [VRepL, ARepL] using hx, by simp [Arrs]⟩
  | [], _ :: _, v, p, ks, hx, hr, hp, hn => by simp [giveAs] at hr
  | _ :: _, [], v, p, ks, hx, hr, hp, hn => by simp [giveAs] at hr
  | t :: ts, x :: xs, v, p, ks, hx, hr, hp, hn => by
    simp only [giveAs] at hr
    split at hr
    · rename_i q1 k1 q2 k2 h1 h2
      cases hr
      obtain ⟨n1, n2, n3⟩ := nodup_app hn
      simp only [VRepL] at hx
      obtain ⟨u, us, rfl, h3, h4⟩ := hx
      obtain ⟨o1, a1⟩ := giveA_ok h hh h3 h1 hp.1 n1
      obtain ⟨o2, a2⟩ := giveAs_ok h hh h4 h2 hp.2 n2
      simp only [ARepL]
      refine ⟨⟨u, us, FP g k1, FP g k2, rfl, fun b hb => ⟨hb.mono fun k hk => List.mem_append_left _ hk, fun hb2 => FP.dis h n3 hb hb2⟩, fun b hb => hb.mono fun k hk => List.mem_append_right _ hk, o1, o2⟩, fun k hk => ?_⟩
      rcases List.mem_append.1 hk with hk | hk
      · exact a1 k hk
      · exact a2 k hk
    · cases hr
def giveOs (md : Bool) (bad : List Nat) (M : Nat → Option Mem) : List Ob → List Nat → Option (Prop × List Nat)
  | [], [] => some (True, [])
  | .var ts :: L, d :: hk => match M d with
    | some (.var cells) => match giveTs md bad M ts cells, giveOs md bad M L hk with
      | some (p, a), some (q, b) => some (p ∧ q, a ++ b)
      | _, _ => none
    | _ => none
  | .arr sz rows :: L, κ :: hk => match M κ with
    | some (.arr A) => match giveOs md bad M L hk with
      | some (q, b) => some ((A.sz = sz ∧ A.rows = rows) ∧ q, b)
      | none => none
    | _ => none
  | _, _ => none
def OBk (g : Gh) (hk ks : List Nat) (b : Nat) : Prop := FP g ks b ∨ ∃ k ∈ hk, Own g k b
theorem nodup_mid {d : Nat} {hk : List Nat} : ∀ {ks : List Nat}, nodupK (ks ++ d :: hk) = true → nodupK (ks ++ hk) = true ∧ d ∉ ks ∧ d ∉ hk
  | [], hn => by
    simp only [List.nil_append, nodupK, Bool.and_eq_true, Bool.not_eq_true', List.contains_eq_mem, decide_eq_false_iff_not] at hn ⊢
    exact ⟨hn.2, by simp, hn.1⟩
  | c :: cs, hn => by
    simp only [List.cons_append, nodupK, Bool.and_eq_true, Bool.not_eq_true', List.contains_eq_mem, decide_eq_false_iff_not, List.mem_append, List.mem_cons, not_or] at hn ⊢
    obtain ⟨i1, i2, i3⟩ := nodup_mid hn.2
    exact ⟨⟨⟨hn.1.1, hn.1.2.2⟩, i1⟩, ⟨fun e => hn.1.2.1 e.symm, i2⟩, i3⟩
theorem giveOs_ok (h : Sim E nt s g a w) : ∀ {L : List Ob} {hk : List Nat} {p : Prop} {ks : List Nat}, giveOs md bad s.M L hk = some (p, ks) → p → nodupK (ks ++ hk) = true → ∃ hs, ObRepL w (fzC md bad g) L (OBk g hk ks) hs ∧ HVs s g hk hs ∧ Arrs s ks
  | [], [], p, ks, hr, hp, hn => ⟨[], rfl, fun i k hk => by simp at hk, by cases hr; simp [Arrs]⟩
  | [], _ :: _, p, ks, hr, hp, hn => by simp [giveOs] at hr
  | .var ts :: L, [], p, ks, hr, hp, hn => by simp [giveOs] at hr
  | .arr sz rows :: L, [], p, ks, hr, hp, hn => by simp [giveOs] at hr
  | .var ts :: L, d :: hk, p, ks, hr, hp, hn => by
    simp only [giveOs] at hr
    split at hr
    · rename_i cells hM
      split at hr
      · rename_i q1 k1 q2 k2 h1 h2
        cases hr
        have e1 : (k1 ++ k2) ++ d :: hk = k1 ++ (k2 ++ d :: hk) := by simp
        rw [e1] at hn
        obtain ⟨n1, n2, n3⟩ := nodup_app hn
        have hn4 := nodup_mid n2
        obtain ⟨n4, n5, n6⟩ := hn4
        obtain ⟨hs, o2, hv2, a2⟩ := giveOs_ok h h2 hp.2 n4
        obtain ⟨b, cur, el, hbv, hb, hcs⟩ := h.mem d _ hM
        obtain ⟨o1, a1⟩ := giveTs_ok h hcs h1 hp.1 n1
        refine ⟨.pointer (some ⟨b, 0, none⟩) :: hs, ?_, fun i k hk' => ?_, fun k hk' => ?_⟩
        · simp only [ObRepL]
          refine ⟨_, hs, fun x => FP g k1 x ∨ x = b, OBk g hk k2, rfl, fun x hx => ⟨?_, fun hx2 => ?_⟩, fun x hx => ?_, ?_, o2⟩
          · rcases hx with hx | rfl
            · exact .inl (hx.mono fun k hk => List.mem_append_left _ hk)
            · exact .inr ⟨d, List.mem_cons_self .., .inl hbv⟩
          · rcases hx with hx | rfl <;> rcases hx2 with hx2 | ⟨k, hk2, hx2⟩
            · exact FP.dis h (fun k hk hk2 => n3 k hk (List.mem_append_left _ hk2)) hx hx2
            · obtain ⟨k', hk', hf⟩ := hx
              have := h.disj k' k x (.inr hf) hx2
              subst this
              exact n3 k' hk' (List.mem_append_right _ (List.mem_cons_of_mem _ hk2))
            · obtain ⟨k', hk', hf⟩ := hx2
              have := h.disj k' d x (.inr hf) (.inl hbv)
              subst this
              exact n5 hk'
            · have := h.disj k d x hx2 (.inl hbv)
              subst this
              exact n6 hk2
          · rcases hx with hx | ⟨k, hk2, hx⟩
            · exact .inl (hx.mono fun k hk => List.mem_append_right _ hk)
            · exact .inr ⟨k, List.mem_cons_of_mem _ hk2, hx⟩
          · simp only [ObRep]
            refine ⟨b, cur, el, rfl, .inr rfl, hb, o1.sub fun x hx => ⟨.inl hx, fun ee => ?_⟩⟩
            subst ee
            obtain ⟨k', hk', hf⟩ := hx
            have := h.disj k' d x (.inr hf) (.inl hbv)
            subst this
            exact n3 k' hk' (List.mem_append_right _ (List.mem_cons_self ..))
        · cases i with
          | zero =>
            simp only [List.getElem?_cons_zero, Option.some.injEq] at hk'
            subst hk'
            exact ⟨_, rfl, .inl ⟨cells, b, hM, hbv, rfl⟩⟩
          | succ i => simpa using hv2 i k (by simpa using hk')
        · rcases List.mem_append.1 hk' with hk' | hk'
          · exact a1 k hk'
          · exact a2 k hk'
      · cases hr
    · cases hr
  | .arr sz rows :: L, κ :: hk, p, ks, hr, hp, hn => by
    simp only [giveOs] at hr
    split at hr
    · rename_i A hM
      split at hr
      · rename_i q2 k2 h2
        cases hr
        obtain ⟨⟨rfl, rfl⟩, hp2⟩ := hp
        have hn4 := nodup_mid hn
        obtain ⟨n4, n5, n6⟩ := hn4
        obtain ⟨hs, o2, hv2, a2⟩ := giveOs_ok h h2 hp2 n4
        obtain ⟨base, cap, hab, htop, hown, _⟩ := h.mem κ _ hM
        have hcap : A.rows.length ≤ cap := by
          have := hown
          simp only [OwT] at this
          obtain ⟨b3, c3, e3, hc3, _⟩ := this
          cases e3
          exact hc3
        refine ⟨.slice base A.rows.length cap :: hs, ?_, fun i k hk' => ?_, a2⟩
        · simp only [ObRepL]
          refine ⟨_, hs, g.fp κ, OBk g hk ks, rfl, fun x hx => ⟨.inr ⟨κ, List.mem_cons_self .., .inr hx⟩, fun hx2 => ?_⟩, fun x hx => ?_, ?_, o2⟩
          · rcases hx2 with ⟨k', hk', hf⟩ | ⟨k', hk', hf⟩
            · have := h.disj k' κ x (.inr hf) (.inr hx)
              subst this
              exact n5 hk'
            · have := h.disj k' κ x hf (.inr hx)
              subst this
              exact n6 hk'
          · rcases hx with hx | ⟨k, hk2, hx⟩
            · exact .inl hx
            · exact .inr ⟨k, List.mem_cons_of_mem _ hk2, hx⟩
          · simp only [ObRep]
            exact hown.mono (Nat.le_refl _) (fun b _ hb => ⟨.inl hb, rfl⟩) (fun b hb => hb) (fun _ _ _ => rfl)
        · cases i with
          | zero =>
            simp only [List.getElem?_cons_zero, Option.some.injEq] at hk'
            subst hk'
            exact ⟨_, rfl, .inr ⟨base, cap, A, hM, hab, hcap, rfl⟩⟩
          | succ i => simpa using hv2 i k (by simpa using hk')
      · cases hr
    · cases hr
end
mutual
def T.noSh : T → Prop
  | .sl true _ rows => T.noShR rows
  | .sl false _ rows => rows = []
  | .ptr _ => False
  | .fn _ caps => caps = []
  | _ => True
def T.noShL : List T → Prop
  | [] => True
  | t :: ts => t.noSh ∧ T.noShL ts
def T.noShR : List (List T) → Prop
  | [] => True
  | r :: rs => T.noShL r ∧ T.noShR rs
end
theorem T.noShR_iff : ∀ {rows : List (List T)}, T.noShR rows ↔ ∀ r ∈ rows, T.noShL r
  | [] => by simp [T.noShR]
  | r :: rs => by simp [T.noShR, T.noShR_iff (rows := rs)]
mutual
theorem OwT.fzch {w : World} {fz fz2 : Nat → Prop} : ∀ {t : T} {S : Nat → Prop} {v : Value}, t.noSh → OwT w fz t S v → OwT w fz2 t S v
  | .int k n, S, v, hn, h => by simpa only [OwT] using h
  | .bool b, S, v, hn, h => by simpa only [OwT] using h
  | .str b, S, v, hn, h => by simpa only [OwT] using h
  | .junk, S, v, hn, h => by simp only [OwT]
  | .nl, S, v, hn, h => by simpa only [OwT] using h
  | .val x, S, v, hn, h => by simpa only [OwT] using h
  | .ptr row, S, v, hn, h => by simp only [T.noSh] at hn
  | .fn f caps, S, v, hn, h => by
    simp only [T.noSh] at hn
    subst hn
    simpa only [OwT, RoT, RoL] using h
  | .sl false sz rows, S, v, hn, h => by
    simp only [T.noSh] at hn
    subst hn
    simp only [OwT, RoT, RoRows] at h ⊢
    obtain ⟨base, cap, xs, q1, q2, q3, q4, _⟩ := h
    exact ⟨base, cap, xs, q1, q2, q3, q4, fun e => absurd rfl e⟩
  | .sl true sz rows, S, v, hn, h => by
    simp only [T.noSh] at hn
    simp only [OwT] at h ⊢
    obtain ⟨base, cap, q1, q2, q3, q4⟩ := h
    refine ⟨base, cap, q1, q2, q3, q4.imp id ?_⟩
    rintro ⟨b, cur, e, r1, r2, r3, r4, r5⟩
    exact ⟨b, cur, e, r1, r2, r3, r4, OwRows.fzch hn r5⟩
theorem OwL.fzch {w : World} {fz fz2 : Nat → Prop} : ∀ {t : List T} {S : Nat → Prop} {v : List Value}, T.noShL t → OwL w fz t S v → OwL w fz2 t S v
  | [], S, v, hn, h => by simpa only [OwL] using h
  | t :: ts, S, v, hn, h => by
    simp only [T.noShL] at hn
    simp only [OwL] at h ⊢
    obtain ⟨u, us, S1, S2, q1, q2, q3, q4, q5⟩ := h
    exact ⟨u, us, S1, S2, q1, q2, q3, OwT.fzch hn.1 q4, OwL.fzch hn.2 q5⟩
theorem OwRows.fzch {w : World} {fz fz2 : Nat → Prop} {sz : Nat} : ∀ {t : List (List T)} {S : Nat → Prop} {v : List Value}, T.noShR t → OwRows w fz sz t S v → OwRows w fz2 sz t S v
  | [], S, v, hn, h => by simpa only [OwRows] using h
  | t :: ts, S, v, hn, h => by
    simp only [T.noShR] at hn
    simp only [OwRows] at h ⊢
    obtain ⟨u, us, S1, S2, q1, q2, q3, q4, q5, q6⟩ := h
    exact ⟨u, us, S1, S2, q1, q2, q3, q4, OwL.fzch hn.1 q5, OwRows.fzch hn.2 q6⟩
end
def TV.noSh : TV → Prop
  | .one t => t.noSh
  | .agg ts => T.noShL ts
def TV.noShs : List TV → Prop
  | [] => True
  | t :: ts => t.noSh ∧ TV.noShs ts
def Ob.noSh : Ob → Prop
  | .var ts => T.noShL ts
  | .arr _ rows => T.noShR rows
def Ob.noShs : List Ob → Prop
  | [] => True
  | t :: ts => t.noSh ∧ Ob.noShs ts
theorem RRepL.fzch {w : World} {fz fz2 : Nat → Prop} : ∀ {rs : List TV} {S : Nat → Prop} {vs : List Value}, TV.noShs rs → RRepL w fz rs S vs → RRepL w fz2 rs S vs
  | [], S, vs, hn, h => h
  | r :: rs, S, vs, hn, h => by
    obtain ⟨u, us, S1, S2, q1, q2, q3, q4, q5⟩ := h
    refine ⟨u, us, S1, S2, q1, q2, q3, ?_, RRepL.fzch hn.2 q5⟩
    cases r with
    | one t => exact OwT.fzch hn.1 q4
    | agg ts => obtain ⟨us', e, h⟩ := q4; exact ⟨us', e, OwL.fzch hn.1 h⟩
theorem ObRep.fzch {w : World} {fz fz2 : Nat → Prop} {o : Ob} {S : Nat → Prop} {v : Value} (hn : o.noSh) (h : ObRep w fz o S v) : ObRep w fz2 o S v := by
  cases o with
  | var ts => obtain ⟨b, cur, e, q1, q2, q3, q4⟩ := h; exact ⟨b, cur, e, q1, q2, q3, OwL.fzch hn q4⟩
  | arr sz rows => exact OwT.fzch (t := .sl true sz rows) hn h
theorem ObRepL.fzch {w : World} {fz fz2 : Nat → Prop} : ∀ {rs : List Ob} {S : Nat → Prop} {vs : List Value}, Ob.noShs rs → ObRepL w fz rs S vs → ObRepL w fz2 rs S vs
  | [], S, vs, hn, h => h
  | r :: rs, S, vs, hn, h => by
    obtain ⟨u, us, S1, S2, q1, q2, q3, q4, q5⟩ := h
    exact ⟨u, us, S1, S2, q1, q2, q3, q4.fzch hn.1, ObRepL.fzch hn.2 q5⟩
theorem RRepL.mono {w : World} {fz fz2 : Nat → Prop} (hf : ∀ b, fz b → fz2 b) : ∀ {rs : List TV} {S : Nat → Prop} {vs : List Value}, RRepL w fz rs S vs → RRepL w fz2 rs S vs
  | [], S, vs, h => h
  | r :: rs, S, vs, h => by
    obtain ⟨u, us, S1, S2, q1, q2, q3, q4, q5⟩ := h
    refine ⟨u, us, S1, S2, q1, q2, q3, ?_, RRepL.mono hf q5⟩
    cases r with
    | one t => exact OwT.mono (Nat.le_refl _) (fun b _ h => ⟨hf b h, rfl⟩) (fun b h => h) (fun _ _ _ => rfl) q4
    | agg ts => obtain ⟨us', e, h⟩ := q4; exact ⟨us', e, h.mono (Nat.le_refl _) (fun b _ h => ⟨hf b h, rfl⟩) (fun b h => h) (fun _ _ _ => rfl)⟩
theorem ObRepL.mono {w : World} {fz fz2 : Nat → Prop} (hf : ∀ b, fz b → fz2 b) : ∀ {rs : List Ob} {S : Nat → Prop} {vs : List Value}, ObRepL w fz rs S vs → ObRepL w fz2 rs S vs
  | [], S, vs, h => h
  | r :: rs, S, vs, h => by
    obtain ⟨u, us, S1, S2, q1, q2, q3, q4, q5⟩ := h
    refine ⟨u, us, S1, S2, q1, q2, q3, ?_, ObRepL.mono hf q5⟩
    cases r with
    | var ts => obtain ⟨b, cur, e, q1, q2, q3, q4⟩ := q4; exact ⟨b, cur, e, q1, q2, q3, q4.mono (Nat.le_refl _) (fun b _ h => ⟨hf b h, rfl⟩) (fun b h => h) (fun _ _ _ => rfl)⟩
    | arr sz rows => exact OwT.mono (t := .sl true sz rows) (Nat.le_refl _) (fun b _ h => ⟨hf b h, rfl⟩) (fun b h => h) (fun _ _ _ => rfl) q4
theorem ObRepL.parts {w : World} {fz : Nat → Prop} : ∀ {L : List Ob} {S : Nat → Prop} {hs : List Value}, ObRepL w fz L S hs →
    ∃ Si : Nat → Nat → Prop, (∀ (i : Nat) o, L[i]? = some o → ∃ v, hs[i]? = some v ∧ ObRep w fz o (Si i) v) ∧ (∀ i b, Si i b → S b) ∧ (∀ i j b, Si i b → Si j b → i = j)
  | [], S, hs, h => ⟨fun _ _ => False, fun i o h => by simp at h, fun _ _ h => h.elim, fun _ _ _ h => h.elim⟩
  | o :: L, S, hs, h => by
    obtain ⟨u, us, S1, S2, rfl, d1, d2, h1, h2⟩ := h
    obtain ⟨Si, p1, p2, p3⟩ := ObRepL.parts h2
    refine ⟨fun i => match i with | 0 => S1 | i + 1 => Si i, fun i o' hi => ?_, fun i b hb => ?_, fun i j b hb hb2 => ?_⟩
    · cases i with
      | zero => simp only [List.getElem?_cons_zero, Option.some.injEq] at hi; subst hi; exact ⟨u, rfl, h1⟩
      | succ i => simpa using p1 i o' (by simpa using hi)
    · cases i with
      | zero => exact (d1 b hb).1
      | succ i => exact d2 b (p2 i b hb)
    · cases i with
      | zero =>
        cases j with
        | zero => rfl
        | succ j => exact absurd (p2 j b hb2) (d1 b hb).2
      | succ i =>
        cases j with
        | zero => exact absurd (p2 i b hb) (d1 b hb2).2
        | succ j => rw [p3 i j b hb hb2]
theorem Sim.know {E : Env} {nt : Nat} {s : SF} {g : Gh} {a : Act} {w : World} (h : Sim E nt s g a w) {k : Nat} {m : Mem} (hm : MemRep w g k m) : Sim E nt ⟨s.F, fun x => if x = k then some m else s.M x, s.B⟩ g a w := by
  refine { h with mem := fun x y hy => ?_, nt := h.nt, defers := h.defers }
  simp only at hy
  split at hy
  · rename_i e; subst e; cases hy; exact hm
  · exact h.mem x y hy
def tvV (k : Nat) : TV → V
  | .one t => ownV k t
  | .agg ts => .agg (ownVL k ts)
def tvM (k : Nat) : TV → List (Nat × Mem)
  | .one t => ownM k t
  | .agg ts => ownML k ts
def tvVs (k : Nat) : List TV → List V
  | [] => []
  | r :: rs => tvV k r :: tvVs (k + 64) rs
def tvMs (k : Nat) : List TV → List (Nat × Mem)
  | [] => []
  | r :: rs => tvM k r ++ tvMs (k + 64) rs
def tvOk : TV → Bool
  | .one _ => true
  | .agg ts => decide (ts.length ≤ 64)
def tvOks : List TV → Bool
  | [] => true
  | r :: rs => tvOk r && tvOks rs
theorem tvM_key {k x : Nat} {r : TV} (hok : tvOk r = true) (h : x ∈ (tvM k r).map (·.1)) : k ≤ x ∧ x < k + 64 := by
  cases r with
  | one t => have := ownM_key h; omega
  | agg ts => simp only [tvOk, decide_eq_true_eq] at hok; have := ownML_key h; omega
theorem tvMs_key {x : Nat} : ∀ {rs : List TV} {k : Nat}, tvOks rs = true → x ∈ (tvMs k rs).map (·.1) → k ≤ x ∧ x < k + 64 * rs.length
  | [], k, _, h => by simp [tvMs] at h
  | r :: rs, k, hok, h => by
    simp only [tvOks, Bool.and_eq_true] at hok
    simp only [tvMs, List.map_append, List.mem_append] at h
    rcases h with h | h
    · have := tvM_key hok.1 h; simp; omega
    · have := tvMs_key hok.2 h; simp; omega
theorem Sim.distR {E : Env} {nt : Nat} {a : Act} {w : World} : ∀ {rs : List TV} {s : SF} {g : Gh} {S : Nat → Prop} {vs : List Value} {k : Nat}, Sim E nt s g a w → RRepL w g.fz rs S vs → tvOks rs = true → (∀ b, S b → Un E g w b) → (∀ x ∈ (tvMs k rs).map (·.1), ¬ s.B x) →
    ∃ g', Sim E nt (s.ext (tvMs k rs)) g' a w ∧ Ext g w g' w ∧ VRepL w g' (tvVs k rs) vs ∧ g'.fz = g.fz ∧ (∀ x b, Own g' x b → Own g x b ∨ S b) ∧ (∀ x, s.B x → g'.fp x = g.fp x ∧ g'.top x = g.top x ∧ g'.ab x = g.ab x ∧ g'.bv x = g.bv x)
  | [], s, g, S, vs, k, h, ho, hok, hS, hk => by
    simp only [RRepL] at ho
    subst ho
    exact ⟨g, h.ext_nil, Ext.refl g w, by simp only [tvVs, VRepL], rfl, fun _ _ h => .inl h, fun _ _ => ⟨rfl, rfl, rfl, rfl⟩⟩
  | c :: cs, s, g, S, vs, k, h, ho, hok, hS, hk => by
    simp only [tvOks, Bool.and_eq_true] at hok
    simp only [RRepL] at ho
    obtain ⟨u, us, S1, S2, rfl, d1, d2, h1, h2⟩ := ho
    have hk1 : ∀ x ∈ (tvM k c).map (·.1), ¬ s.B x := fun x hx => hk x (by simp only [tvMs, List.map_append, List.mem_append]; exact .inl hx)
    have one : ∃ g', Sim E nt (s.ext (tvM k c)) g' a w ∧ Ext g w g' w ∧ VRep w g' (tvV k c) u ∧ g'.fz = g.fz ∧ (∀ x b, Own g' x b → Own g x b ∨ S1 b) ∧ (∀ x, s.B x → g'.fp x = g.fp x ∧ g'.top x = g.top x ∧ g'.ab x = g.ab x ∧ g'.bv x = g.bv x) := by
      cases c with
      | one t =>
        obtain ⟨g1, s1, x1, r1, f1, b1, o1, q1⟩ := h.dist (k := k) h1 (fun b hb => hS b (d1 b hb).1) hk1
        exact ⟨g1, s1, x1, r1, f1, o1, fun x hx => ⟨(q1 x (.inr hx)).1, (q1 x (.inr hx)).2.1, (q1 x (.inr hx)).2.2, by rw [b1]⟩⟩
      | agg ts =>
        obtain ⟨us', rfl, h1⟩ := h1
        obtain ⟨g1, s1, x1, r1, f1, b1, o1, q1⟩ := h.distL (k := k) h1 (fun b hb => hS b (d1 b hb).1) hk1
        exact ⟨g1, s1, x1, by simp only [tvV, VRep]; exact ⟨us', rfl, r1⟩, f1, o1, fun x hx => ⟨(q1 x (.inr (.inr hx))).1, (q1 x (.inr (.inr hx))).2.1, (q1 x (.inr (.inr hx))).2.2, by rw [b1]⟩⟩
    obtain ⟨g1, s1, x1, r1, f1, o1, q1⟩ := one
    have hun : ∀ b, S2 b → Un E g1 w b := fun b hb => (hS b (d2 b hb)).mono f1 o1 (fun hb1 => (d1 b hb1).2 hb)
    obtain ⟨g2, s2, x2, r2, f2, o2, q2⟩ := Sim.distR (k := k + 64) s1 (by rw [f1]; exact h2) hok.2 hun (fun x hx hb => by
      rcases hb with hb | hb
      · have := tvM_key hok.1 hb
        have := tvMs_key hok.2 hx
        omega
      · exact hk x (by simp only [tvMs, List.map_append, List.mem_append]; exact .inr hx) hb)
    refine ⟨g2, SF.ext_append s2 (fun x hx1 hx2 => ?_), x1.trans x2, ?_, f2.trans f1, fun x b hxb => ?_, fun x hx => ?_⟩
    · have := tvM_key hok.1 hx1
      have := tvMs_key hok.2 hx2
      omega
    · simp only [tvVs, VRepL]
      exact ⟨u, us, rfl, r1.ext x2, r2⟩
    · rcases o2 x b hxb with e | e
      · exact (o1 x b e).imp id fun h => (d1 b h).1
      · exact .inr (d2 b e)
    · have e1 := q1 x hx
      have e2 := q2 x (.inr hx)
      exact ⟨e2.1.trans e1.1, e2.2.1.trans e1.2.1, e2.2.2.1.trans e1.2.2.1, e2.2.2.2.trans e1.2.2.2⟩
def verM : Option Mem → Nat
  | some (.arr A) => A.ver
  | _ => 0
def capM : Option Mem → Option Nat
  | some (.arr A) => A.cap
  | _ => none
def lentM (M : Nat → Option Mem) (k : Nat) : List Ob → List Nat → List (Nat × Mem)
  | .var ts :: L, d :: hk => lentM M (k + 64) L hk ++ (d, .var (ownVL k ts)) :: ownML k ts
  | .arr sz rows :: L, κ :: hk => lentM M (k + 64) L hk ++ [(κ, .arr ⟨sz, rows, verM (M κ) + 1, capM (M κ)⟩)]
  | _, _ => []
def lentN (k : Nat) : List Ob → List (Nat × Mem)
  | .var ts :: L => ownML k ts ++ lentN (k + 64) L
  | .arr _ _ :: L => lentN (k + 64) L
  | [] => []
def obOks : List Ob → Bool
  | [] => true
  | .var ts :: L => decide (ts.length ≤ 64) && obOks L
  | .arr _ _ :: L => obOks L
theorem lentN_key {x : Nat} : ∀ {L : List Ob} {k : Nat}, obOks L = true → x ∈ (lentN k L).map (·.1) → k ≤ x ∧ x < k + 64 * L.length
  | [], k, _, h => by simp [lentN] at h
  | .var ts :: L, k, hok, h => by
    simp only [obOks, Bool.and_eq_true, decide_eq_true_eq] at hok
    simp only [lentN, List.map_append, List.mem_append] at h
    rcases h with h | h
    · have := ownML_key h; simp; omega
    · have := lentN_key hok.2 h; simp; omega
  | .arr _ _ :: L, k, hok, h => by
    simp only [obOks] at hok
    simp only [lentN] at h
    have := lentN_key hok h; simp; omega
def Back (w : World) (g : Gh) (M : Nat → Option Mem) (k : Nat) (S : Nat → Prop) : Ob → Prop
  | .var ts => ∃ b cur e, g.bv k = some b ∧ w.heap[b]? = some (.cells cur e (0, 0)) ∧ OwL w g.fz ts (fun x => S x ∧ x ≠ b) cur.toList
  | .arr sz rows => ∃ base cap, g.ab k = some (base, cap, sz) ∧ g.top k = verM (M k) + 1 ∧ OwT w g.fz (.sl true sz rows) (g.fp k) (.slice base rows.length cap) ∧ ∀ c, capM (M k) = some c → c = cap
theorem Sim.distO {E : Env} {nt : Nat} {a : Act} {w : World} {M : Nat → Option Mem} : ∀ {L : List Ob} {hk : List Nat} {s : SF} {g : Gh} {Si : Nat → Nat → Prop} {k : Nat}, Sim E nt s g a w → hk.length = L.length → (∀ (i : Nat) o κ, L[i]? = some o → hk[i]? = some κ → Back w g M κ (Si i) o) →
    (∀ (i : Nat) b, (∃ ts, L[i]? = some (.var ts)) → Si i b → (∀ κ, hk[i]? = some κ → g.bv κ ≠ some b) → Un E g w b) → (∀ i j b, Si i b → Si j b → i = j) → obOks L = true → (∀ x ∈ (lentN k L).map (·.1), ¬ s.B x) → (∀ x ∈ hk, s.B x) →
    ∃ g', Sim E nt (s.ext (lentM M k L hk)) g' a w ∧ Ext g w g' w
  | [], [], s, g, Si, k, h, _, _, _, _, _, _, _ => ⟨g, h.ext_nil, Ext.refl g w⟩
  | [], _ :: _, s, g, Si, k, h, hl, _, _, _, _, _, _ => by simp at hl
  | _ :: _, [], s, g, Si, k, h, hl, _, _, _, _, _, _ => by simp at hl
  | .arr sz rows :: L, κ :: hk, s, g, Si, k, h, hl, hb, hu, hdj, hok, hkf, hB => by
    simp only [obOks] at hok
    obtain ⟨base, cap, q1, q2, q3, q4⟩ := hb 0 _ κ rfl rfl
    have h1 := h.know (k := κ) (m := .arr ⟨sz, rows, verM (M κ) + 1, capM (M κ)⟩) ⟨base, cap, q1, q2, q3, q4⟩
    obtain ⟨g2, s2, x2⟩ := Sim.distO (Si := fun i => Si (i + 1)) (k := k + 64) (M := M) (L := L) (hk := hk) h1 (by simpa using hl) (fun i o κ' hi hκ => hb (i + 1) o κ' (by simpa using hi) (by simpa using hκ))
      (fun i b hi hS hne => hu (i + 1) b (by simpa using hi) hS (fun κ' hκ => hne κ' (by simpa using hκ))) (fun i j b h1 h2 => by have := hdj _ _ b h1 h2; omega) hok (fun x hx => hkf x (by simpa only [lentN] using hx)) (fun x hx => hB x (List.mem_cons_of_mem _ hx))
    refine ⟨g2, s2.less (fun _ _ h => h) (fun y m hm => ?_) (fun y hy => ?_), x2⟩
    · simp only [SF.ext, lentM, look_append, look] at hm ⊢
      rw [← hm]
      by_cases e : y = κ <;> simp [e]
    · simp only [SF.ext, lentM, List.map_append, List.mem_append] at hy ⊢
      rcases hy with hy | hy
      · exact .inl (.inl hy)
      · exact .inr hy
  | .var ts :: L, d :: hk, s, g, Si, k, h, hl, hb, hu, hdj, hok, hkf, hB => by
    simp only [obOks, Bool.and_eq_true, decide_eq_true_eq] at hok
    obtain ⟨b0, cur, el, q1, q2, q3⟩ := hb 0 _ d rfl rfl
    obtain ⟨g1, s1, x1, r1, f1, b1, o1, p1⟩ := h.distL (k := k) q3 (fun x hx => hu 0 x ⟨ts, rfl⟩ hx.1 (fun κ hκ => by
      simp only [List.getElem?_cons_zero, Option.some.injEq] at hκ
      subst hκ
      rw [q1]
      intro e
      cases e
      exact hx.2 rfl)) (fun x hx => hkf x (by simp only [lentN, List.map_append, List.mem_append]; exact .inl hx))
    have h1 := s1.know (k := d) (m := .var (ownVL k ts)) ⟨b0, cur, el, by rw [b1]; exact q1, q2, r1⟩
    have same : ∀ x, s.B x → g1.fp x = g.fp x ∧ g1.top x = g.top x ∧ g1.ab x = g.ab x := fun x hx => p1 x (.inr (.inr hx))
    obtain ⟨g2, s2, x2⟩ := Sim.distO (Si := fun i => Si (i + 1)) (k := k + 64) (M := M) (L := L) (hk := hk) h1 (by simpa using hl) (fun i o κ' hi hκ => by
        have hbk := hb (i + 1) o κ' (by simpa using hi) (by simpa using hκ)
        have hsm := same κ' (hB κ' (List.mem_cons_of_mem _ (List.mem_of_getElem? hκ)))
        cases o with
        | var ts' => obtain ⟨b, cur, e, r1, r2, r3⟩ := hbk; exact ⟨b, cur, e, by rw [b1]; exact r1, r2, by rw [f1]; exact r3⟩
        | arr sz rows => obtain ⟨base, cap, r1, r2, r3, r4⟩ := hbk; exact ⟨base, cap, by rw [hsm.2.2]; exact r1, by rw [hsm.2.1]; exact r2, by rw [f1, hsm.1]; exact r3, r4⟩)
      (fun i b hi hS hne => by
        refine (hu (i + 1) b (by simpa using hi) hS (fun κ' hκ => by have := hne κ' (by simpa using hκ); rw [b1] at this; exact this)).mono f1 o1 (fun hb1 => ?_)
        have := hdj _ _ b hS hb1.1
        omega) (fun i j b h1 h2 => by have := hdj _ _ b h1 h2; omega) hok.2 (fun x hx hbx => by
        rcases hbx with hbx | hbx
        · have := ownML_key hbx
          have := lentN_key hok.2 hx
          omega
        · exact hkf x (by simp only [lentN, List.map_append, List.mem_append]; exact .inr hx) hbx) (fun x hx => .inr (hB x (List.mem_cons_of_mem _ hx)))
    refine ⟨g2, s2.less (fun _ _ h => h) (fun y m hm => ?_) (fun y hy => ?_), x1.trans x2⟩
    · simp only [SF.ext, lentM, look_append, look] at hm ⊢
      rw [← hm]
      by_cases e : y = d <;> simp [e, Option.or_assoc]
    · simp only [SF.ext, lentM, List.map_append, List.map_cons, List.mem_append, List.mem_cons] at hy ⊢
      rcases hy with hy | hy | hy
      · exact .inl (.inl hy)
      · exact .inl (.inr (.inr hy))
      · exact .inr hy
def szOk (M : Nat → Option Mem) : List Ob → List Nat → Prop
  | [], [] => True
  | .var _ :: L, _ :: hk => szOk M L hk
  | .arr sz _ :: L, κ :: hk => (match M κ with
    | some (.arr A) => A.sz = sz
    | _ => False) ∧ szOk M L hk
  | _, _ => False
theorem szOk_len {M : Nat → Option Mem} : ∀ {L : List Ob} {hk : List Nat}, szOk M L hk → hk.length = L.length
  | [], [], _ => rfl
  | .var _ :: L, _ :: hk, h => by simp only [szOk] at h; simp [szOk_len h]
  | .arr _ _ :: L, _ :: hk, h => by simp only [szOk] at h; simp [szOk_len h.2]
  | [], _ :: _, h => by simp [szOk] at h
  | .var _ :: _, [], h => by simp [szOk] at h
  | .arr _ _ :: _, [], h => by simp [szOk] at h
theorem szOk_get {M : Nat → Option Mem} : ∀ {L : List Ob} {hk : List Nat} {i : Nat} {sz : Nat} {rows : List (List T)} {κ : Nat}, szOk M L hk → L[i]? = some (.arr sz rows) → hk[i]? = some κ → ∃ A, M κ = some (.arr A) ∧ A.sz = sz
  | [], _, i, sz, rows, κ, _, h, _ => by simp at h
  | _ :: _, [], i, sz, rows, κ, _, _, h => by simp at h
  | .var _ :: L, _ :: hk, i, sz, rows, κ, h, h1, h2 => by
    simp only [szOk] at h
    cases i with
    | zero => simp at h1
    | succ i => exact szOk_get h (by simpa using h1) (by simpa using h2)
  | .arr _ _ :: L, κ' :: hk, i, sz, rows, κ, h, h1, h2 => by
    simp only [szOk] at h
    cases i with
    | zero =>
      simp only [List.getElem?_cons_zero, Option.some.injEq, Ob.arr.injEq] at h1 h2
      obtain ⟨rfl, rfl⟩ := h1
      subst h2
      have := h.1
      split at this
      · rename_i A hA; exact ⟨A, hA, this⟩
      · exact this.elim
    | succ i => exact szOk_get h.2 (by simpa using h1) (by simpa using h2)
theorem Sim.after {P : Program} [Inv P] {E : Env} {nt : Nat} {s : SF} {g : Gh} {a : Act} {w : World} (h : Sim E nt s g a w) {md : Bool} {bad ks hk : List Nat} {hs : List Value} {S : Nat → Prop} {rs : List TV} {L' : List Ob} {e : Ending} {w' : World} {v : Value} {fz' Sr So' : Nat → Prop}
    (hn : nodupK (ks ++ hk) = true) (hbad : ∀ k, memN k bad = true ↔ k ∈ ks ∨ k ∈ hk) (hks : Arrs s ks) (hh : HVs s g hk hs) (hS : ∀ b, S b → ∃ k, (k ∈ ks ∨ k ∈ hk) ∧ Own g k b) (hsz : szOk s.M L' hk) (hp : Post P w (fzC md bad g) S hs rs L' e w' v fz' Sr So') :
    ∃ (g1 : Gh) (Si : Nat → Nat → Prop), Sim E nt ⟨s.F, fun k => if k ∈ ks ∨ k ∈ hk then none else s.M k, s.B⟩ g1 a w' ∧ Ext g w g1 w' ∧ (∀ b, g1.fz b ↔ fz' b ∧ ¬ (md = true ∧ ∃ k, memN k bad = false ∧ Own g k b)) ∧
      (∀ b, Sr b → Un E g1 w' b) ∧ (∀ (i : Nat) o κ, L'[i]? = some o → hk[i]? = some κ → (∃ v, hs[i]? = some v ∧ ObRep w' fz' o (Si i) v) ∧ (∀ ts, o = .var ts → ∃ b, g1.bv κ = some b ∧ hs[i]? = some (.pointer (some ⟨b, 0, none⟩)) ∧ Si i b) ∧
        (∀ sz rows, o = .arr sz rows → ∃ base cap, g1.ab κ = some (base, cap, sz) ∧ g1.top κ = verM (s.M κ) + 1 ∧ g1.fp κ = Si i ∧ hs[i]? = some (.slice base rows.length cap) ∧ ∀ c, capM (s.M κ) = some c → c = cap)) ∧
      (∀ (i : Nat) b, (∃ ts, L'[i]? = some (.var ts)) → Si i b → (∀ κ, hk[i]? = some κ → g1.bv κ ≠ some b) → Un E g1 w' b) ∧ (∀ i j b, Si i b → Si j b → i = j) ∧ (∀ i b, Si i b → ¬ Sr b) := by
  classical
  obtain ⟨Si, p1, p2, p3⟩ := hp.obs.parts
  have hlen := szOk_len hsz
  have hnd : ∀ (i j k : Nat), hk[i]? = some k → hk[j]? = some k → i = j := by
    have hn2 := (nodup_app hn).2.1
    have : ∀ (l : List Nat), nodupK l = true → ∀ (i j k : Nat), l[i]? = some k → l[j]? = some k → i = j := by
      intro l
      induction l with
      | nil => intro _ i j k h; simp at h
      | cons c cs ih =>
        intro hl i j k h1 h2
        simp only [nodupK, Bool.and_eq_true, Bool.not_eq_true', List.contains_eq_mem, decide_eq_false_iff_not] at hl
        cases i with
        | zero =>
          cases j with
          | zero => rfl
          | succ j =>
            simp only [List.getElem?_cons_zero, Option.some.injEq, List.getElem?_cons_succ] at h1 h2
            subst h1
            exact absurd (List.mem_of_getElem? h2) hl.1
        | succ i =>
          cases j with
          | zero =>
            simp only [List.getElem?_cons_zero, Option.some.injEq, List.getElem?_cons_succ] at h1 h2
            subst h2
            exact absurd (List.mem_of_getElem? h1) hl.1
          | succ j => rw [ih hl.2 i j k (by simpa using h1) (by simpa using h2)]
    exact this hk hn2
  have hmem : ∀ k, k ∈ ks ∨ k ∈ hk → ∃ m, s.M k = some m := fun k hk' => by
    rcases hk' with hk' | hk'
    · obtain ⟨A, hA⟩ := hks k hk'; exact ⟨_, hA⟩
    · obtain ⟨i, hi⟩ := List.mem_iff_getElem?.1 hk'
      obtain ⟨v, _, hv⟩ := hh i k hi
      rcases hv with ⟨c, b, q, _⟩ | ⟨_, _, A, q, _⟩ <;> exact ⟨_, q⟩
  have hborn : ∀ k, k ∈ ks ∨ k ∈ hk → s.B k := fun k hk' => by
    obtain ⟨m, hm⟩ := hmem k hk'
    have := h.mem k m hm
    cases m with
    | var c => obtain ⟨b, _, _, q, _⟩ := this; exact h.bornV k (by rw [q]; simp)
    | arr A => obtain ⟨b, _, q, _⟩ := this; exact h.bornA k (by rw [q]; simp)
  have hksbv : ∀ k ∈ ks, g.bv k = none := fun k hk' => by
    obtain ⟨A, hA⟩ := hks k hk'
    exact (h.arrK hA).1
  have nS : ∀ b, (∀ k, (k ∈ ks ∨ k ∈ hk) → ¬ Own g k b) → ¬ S b := fun b hb hs => by
    obtain ⟨k, h1, h2⟩ := hS b hs
    exact hb k h1 h2
  have old : ∀ k b, Own g k b → ¬ (k ∈ ks ∨ k ∈ hk) → ¬ S b := fun k b ho hk' => nS b fun k2 h2 ho2 => by
    have := h.disj k k2 b ho ho2
    subst this
    exact hk' h2
  have oldSo : ∀ k b, Own g k b → ¬ (k ∈ ks ∨ k ∈ hk) → ¬ (Sr b ∨ So' b) := fun k b ho hk' hb => by
    rcases (hp.own b hb).2.2 with h1 | h1
    · exact old k b ho hk' h1
    · have := (h.ownlt k b ho).1; omega
  have hvar : ∀ (i k b : Nat), hk[i]? = some k → g.bv k = some b → Si i b := fun i k b hi hb => by
    obtain ⟨v, hv, hH⟩ := hh i k hi
    have hil : i < L'.length := by rw [← hlen]; exact (List.getElem?_eq_some_iff.1 hi).1
    obtain ⟨v2, hv2, hob⟩ := p1 i _ (List.getElem?_eq_getElem hil)
    rw [hv] at hv2
    cases hv2
    rcases hH with ⟨c, b', q1, q2, rfl⟩ | ⟨base, cap, A, q1, q2, _, rfl⟩
    · rw [hb] at q2
      cases q2
      cases ho : L'[i] with
      | var ts =>
        rw [ho] at hob
        obtain ⟨b2, cur, el, e1, hSb, _⟩ := hob
        simp only [Value.pointer.injEq, Option.some.injEq, Addr.mk.injEq, and_true] at e1
        subst e1
        exact hSb
      | arr sz rows =>
        rw [ho] at hob
        simp only [ObRep, OwT] at hob
        obtain ⟨_, _, e1, _⟩ := hob
        cases e1
    · have := (h.arrK q1).1
      rw [hb] at this
      cases this
  let X : Nat → Prop := fun b => md = true ∧ ∃ k, memN k bad = false ∧ Own g k b
  let g1 : Gh := ⟨g.bv, g.ab, fun k => if k ∈ ks ∨ k ∈ hk then g.top k + 1 else g.top k, fun k b => if k ∈ ks then False else if k ∈ hk then (∃ i : Nat, hk[i]? = some k ∧ g.bv k = none ∧ Si i b) else g.fp k b, fun b => fz' b ∧ ¬ X b⟩
  have own1 : ∀ k b, Own g1 k b → (g.bv k = some b) ∨ (∃ i : Nat, hk[i]? = some k ∧ g.bv k = none ∧ Si i b) ∨ (¬ (k ∈ ks ∨ k ∈ hk) ∧ g.fp k b) := fun k b ho => by
    rcases ho with ho | ho
    · exact .inl ho
    · simp only [g1] at ho
      split at ho
      · exact ho.elim
      · split at ho
        · exact .inr (.inl ho)
        · rename_i n1 n2; exact .inr (.inr ⟨fun e => e.elim n1 n2, ho⟩)
  have bvSo : ∀ k b, g.bv k = some b → (∃ i : Nat, hk[i]? = some k ∧ Si i b) ∨ ¬ (k ∈ ks ∨ k ∈ hk) := fun k b hb => by
    by_cases hk' : k ∈ ks ∨ k ∈ hk
    · rcases hk' with hk' | hk'
      · rw [hksbv k hk'] at hb; cases hb
      · obtain ⟨i, hi⟩ := List.mem_iff_getElem?.1 hk'
        exact .inl ⟨i, hi, hvar i k b hi hb⟩
    · exact .inr hk'
  have own2 : ∀ k b, Own g1 k b → (∃ i : Nat, hk[i]? = some k ∧ Si i b) ∨ (¬ (k ∈ ks ∨ k ∈ hk) ∧ Own g k b) := fun k b ho => by
    rcases own1 k b ho with h1 | ⟨i, h1, _, h2⟩ | ⟨h1, h2⟩
    · rcases bvSo k b h1 with h2 | h2
      · exact .inl h2
      · exact .inr ⟨h2, .inl h1⟩
    · exact .inl ⟨i, h1, h2⟩
    · exact .inr ⟨h1, .inr h2⟩
  have fzS : ∀ b, g.fz b → ¬ S b := fun b hb => nS b fun k _ ho => h.ownfz k b ho hb
  have hx : Ext g w g1 w' := {
    size := hp.size
    bv := fun d b hd => hd
    ab := fun κ x hx => hx
    fz := fun b hb => ⟨⟨hp.fz1 b (.inl hb), fun hX => by obtain ⟨_, k, _, ho⟩ := hX; exact h.ownfz k b ho hb⟩, fun hlt => hp.same b hlt (fzS b hb)⟩
    top := fun κ => by simp only [g1]; split <;> omega
    fp := fun κ hκ => by
      simp only [g1] at hκ ⊢
      by_cases hc : κ ∈ ks ∨ κ ∈ hk
      · rw [if_pos hc] at hκ; omega
      · have n1 : κ ∉ ks := fun e => hc (.inl e)
        have n2 : κ ∉ hk := fun e => hc (.inr e)
        refine ⟨funext fun b => by simp only [n1, n2, if_false], fun b hb hlt => hp.same b hlt (old κ b (.inr hb) hc)⟩ }
  have hlt1 : ∀ k b, Own g1 k b → b < w'.heap.size := fun k b ho => by
    rcases own2 k b ho with ⟨i, h1, h2⟩ | ⟨h1, h2⟩
    · exact (hp.own b (.inr (p2 i b h2))).1
    · exact Nat.lt_of_lt_of_le (h.ownlt k b h2).1 hp.size
  have hdis : ∀ k k' b, Own g1 k b → Own g1 k' b → k = k' := fun k k' b h1 h2 => by
    rcases own2 k b h1 with ⟨i, q1, q2⟩ | ⟨q1, q2⟩ <;> rcases own2 k' b h2 with ⟨j, r1, r2⟩ | ⟨r1, r2⟩
    · have := p3 i j b q2 r2
      subst this
      rw [q1] at r1
      cases r1
      rfl
    · exact absurd (.inr (p2 i b q2)) (oldSo k' b r2 r1)
    · exact absurd (.inr (p2 j b r2)) (oldSo k b q2 q1)
    · exact h.disj k k' b q2 r2
  have hnfz : ∀ k b, Own g1 k b → ¬ g1.fz b := fun k b ho hf => by
    obtain ⟨hf1, hf2⟩ := hf
    rcases own2 k b ho with ⟨i, h1, h2⟩ | ⟨h1, h2⟩
    · exact (hp.own b (.inr (p2 i b h2))).2.1 hf1
    · rcases (hp.fz2 b hf1).2 with h3 | h3 | h3
      · rcases h3 with h3 | h3
        · exact h.ownfz k b h2 h3
        · exact hf2 h3
      · exact old k b h2 h1 h3
      · have := (h.ownlt k b h2).1; omega
  have hsim : Sim E nt ⟨s.F, fun k => if k ∈ ks ∨ k ∈ hk then none else s.M k, s.B⟩ g1 a w' := by
    refine h.change hx hp.os hp.tape hp.output (fun b hlt hno => hp.same b hlt (nS b fun k _ ho => hno k ho)) (fun k m hm => ?_) (fun k b ho => ?_) hlt1 hdis hnfz (fun b hb => (hp.fz2 b hb.1).1) h.bornV h.bornA (fun k hk' => ?_) (fun k hk' => ?_) (fun b hb => ?_)
    · split at hm
      · cases hm
      · rename_i hc
        refine (h.mem k m hm).ext hx (by simp only [g1, if_neg hc]) fun b hb _ => ?_
        exact hp.same b (h.ownlt k b (.inl hb)).1 (old k b (.inl hb) hc)
    · rcases own2 k b ho with ⟨i, h1, h2⟩ | ⟨h1, h2⟩
      · rcases (hp.own b (.inr (p2 i b h2))).2.2 with h3 | h3
        · obtain ⟨k0, _, h0⟩ := hS b h3; exact .inl ⟨k0, h0⟩
        · exact .inr (.inr (Nat.le_trans h.size h3))
      · exact .inl ⟨k, h2⟩
    · have hc : ¬ (k ∈ ks ∨ k ∈ hk) := fun e => hk' (hborn k e)
      have n1 : k ∉ ks := fun e => hc (.inl e)
      have n2 : k ∉ hk := fun e => hc (.inr e)
      simp only [g1, n1, n2, if_false, or_self]
      exact h.bornF k hk'
    · obtain ⟨q1, q2⟩ := h.kind k hk'
      refine ⟨q1, fun b hb => ?_⟩
      simp only [g1] at hb
      split at hb
      · exact hb
      · split at hb
        · obtain ⟨i, _, e, _⟩ := hb; exact hk' e
        · exact q2 b hb
    · obtain ⟨hb1, hb2⟩ := hb
      rcases (hp.fz2 b hb1).2 with h3 | h3 | h3
      · rcases h3 with h3 | h3
        · exact .inl h3
        · exact absurd h3 hb2
      · obtain ⟨k0, _, h0⟩ := hS b h3; exact .inr (h.ownlt k0 b h0).2
      · exact .inr (.inr (Nat.le_trans h.size h3))
  have unof : ∀ b, (Sr b ∨ So' b) → (∀ k, ¬ Own g1 k b) → Un E g1 w' b := fun b hb hno => by
    obtain ⟨q1, q2, q3⟩ := hp.own b hb
    refine ⟨q1, hno, fun hf => q2 hf.1, ?_⟩
    rcases q3 with q3 | q3
    · obtain ⟨k0, _, h0⟩ := hS b q3; exact (h.ownlt k0 b h0).2
    · exact .inr (Nat.le_trans h.size q3)
  refine ⟨g1, Si, hsim, hx, fun b => Iff.rfl, fun b hb => unof b (.inl hb) fun k ho => ?_, fun i o κ ho hκ => ⟨p1 i o ho, fun ts e => ?_, fun sz rows e => ?_⟩, fun i b ⟨ts, hi⟩ hSb hne => unof b (.inr (p2 i b hSb)) fun k ho => ?_, p3, fun i b hb hr => hp.dis b hr (p2 i b hb)⟩
  · rcases own2 k b ho with ⟨i, h1, h2⟩ | ⟨h1, h2⟩
    · exact hp.dis b hb (p2 i b h2)
    · exact oldSo k b h2 h1 (.inl hb)
  · subst e
    obtain ⟨v1, q1, q2⟩ := p1 i _ ho
    obtain ⟨v2, q3, q4⟩ := hh i κ hκ
    rw [q1] at q3
    cases q3
    obtain ⟨b, cur, el, rfl, _⟩ := q2
    rcases q4 with ⟨c, b', r1, r2, e1⟩ | ⟨_, _, _, _, _, _, e1⟩
    · simp only [Value.pointer.injEq, Option.some.injEq, Addr.mk.injEq, and_true] at e1
      subst e1
      exact ⟨b, r2, q1, hvar i κ b hκ r2⟩
    · cases e1
  · subst e
    obtain ⟨v1, q1, q2⟩ := p1 i _ ho
    obtain ⟨v2, q3, q4⟩ := hh i κ hκ
    rw [q1] at q3
    cases q3
    simp only [ObRep, OwT] at q2
    obtain ⟨base, cap, rfl, _⟩ := q2
    rcases q4 with ⟨c, b', r1, r2, e1⟩ | ⟨base2, cap2, A, r1, r2, r3, e1⟩
    · cases e1
    · simp only [Value.slice.injEq] at e1
      obtain ⟨rfl, e2, rfl⟩ := e1
      obtain ⟨A2, hA2, hsz2⟩ := szOk_get hsz ho hκ
      rw [r1] at hA2
      cases hA2
      subst hsz2
      obtain ⟨_, _, _, ht, _, hcp⟩ := h.mem κ _ r1
      have hκ' : κ ∈ hk := List.mem_of_getElem? hκ
      have hnk : κ ∉ ks := fun e => (nodup_app hn).2.2 κ e hκ'
      have hbvn : g.bv κ = none := (h.arrK r1).1
      refine ⟨base, cap, r2, ?_, ?_, q1, fun c hc => ?_⟩
      · simp only [g1, hκ', or_true, if_true, r1, verM]; omega
      · funext b
        simp only [g1, hnk, hκ', if_true, if_false]
        apply propext
        constructor
        · rintro ⟨j, hj, _, hb⟩
          rw [hnd i j κ hκ hj]
          exact hb
        · exact fun hb => ⟨i, hκ, hbvn, hb⟩
      · rw [r1] at hc
        simp only [capM] at hc
        obtain ⟨base3, cap3, hab3, _, _, hcp⟩ := h.mem κ _ r1
        rw [r2] at hab3
        simp only [Option.some.injEq, Prod.mk.injEq] at hab3
        rw [hcp c hc, hab3.2.1]
  · rcases own2 k b ho with ⟨j, h1, h2⟩ | ⟨h1, h2⟩
    · have := p3 i j b hSb h2
      subst this
      rcases own1 k b ho with h3 | ⟨j2, h3, h4, h5⟩ | ⟨h3, h4⟩
      · exact hne k h1 h3
      · obtain ⟨v1, q1, q2⟩ := p1 i _ hi
        obtain ⟨v2, q3, q4⟩ := hh i k h1
        rw [q1] at q3
        cases q3
        obtain ⟨b2, cur, el, rfl, _⟩ := q2
        rcases q4 with ⟨c, b', r1, r2, e1⟩ | ⟨_, _, _, _, _, _, e1⟩
        · rw [h4] at r2; cases r2
        · cases e1
      · exact h3 (.inr (List.mem_of_getElem? h1))
    · exact oldSo k b h2 h1 (.inr (p2 i b hSb))
def callB (P : Program) (f : FuncId) : Bool :=
  match P.funcs[f]? with
  | some fn => fn.name != "runtime.NumGoroutine" && fn.body.isSome
  | none => false
theorem argL_fst {P : Program} : ∀ {os : List Operand} {ts : List TypeId} {l : List (Opd × Option Nat)}, argL P os ts = some l → l.map (·.1) = os.map opd
  | [], ts, l, h => by simp only [argL, Option.some.injEq] at h; subst h; rfl
  | o :: os, [], l, h => by simp [argL] at h
  | o :: os, t :: ts, l, h => by
    simp only [argL, Option.map_eq_some_iff] at h
    obtain ⟨r, hr, rfl⟩ := h
    simp [argL_fst hr]
theorem enter_ok {P : Program} {E : Env} {nt : Nat} {s : SF} {g : Gh} {a : Act} {w : World} (h : Sim E nt s g a w) {o : Oper} {fo : Operand} {args : Array Operand} {tys : Array TypeId} (ho : o.op = .call ⟨.value fo, args, tys⟩) {f : FuncId} {caps xs : List V}
    (hf : ev s.F (opd fo) = some (.fn f caps)) (hx : evL s.F (args.toList.map opd) = some xs) (hcb : callB P f = true) : ∃ vs, VRepL w g (xs ++ caps) vs ∧ (execOp a.eval o).run P w = .ok (.enter f (List.toArray vs)) w := by
  have hargs := evL_ok h hx
  have hcal := ev_ok h hf
  simp only [VRep] at hcal
  obtain ⟨cs, hcs, hrep⟩ := hcal
  refine ⟨args.toList.map a.eval ++ cs, hargs.append hrep, ?_⟩
  unfold execOp
  rw [ho]; dsimp only
  have hfn : ∃ fn, P.funcs[f]? = some fn ∧ (fn.name == "runtime.NumGoroutine") = false ∧ fn.body.isNone = false := by
    unfold callB at hcb
    split at hcb
    · rename_i fn hfn
      simp only [Bool.and_eq_true, bne_iff_ne, ne_eq] at hcb
      exact ⟨fn, hfn, by simpa using hcb.1, by simpa [Option.isNone_iff_eq_none, Option.isSome_iff_ne_none] using hcb.2⟩
    · cases hcb
  obtain ⟨fn, hfn, hn, hb⟩ := hfn
  have ea : args.map a.eval = List.toArray (args.toList.map a.eval) := by
    apply Array.ext'
    simp
  simp only [resolve, hcs, Deferred.ofValue, Sem.run_bind, Sem.run_pure, Result.andThen_ok, invoke, callFunc, run_program, hfn, hn, hb, Bool.false_eq_true, if_false]
  simp [ea]
def retV : List V → V
  | [v] => v
  | vs => .tup vs
def callF (M : Nat → Option Mem) (key : Nat) (ks hk : List Nat) (rs : List TV) (L' : List Ob) : Eff :=
  ⟨retV (tvVs key rs), (lentM M (key + 1024) L' hk ++ tvMs key rs).map (fun x => (x.1, some x.2)) ++ (ks ++ hk).map (fun k => (k, none)), (tvMs key rs).map (·.1) ++ (lentN (key + 1024) L').map (·.1)⟩
def shOk (md : Bool) (rs : List TV) (L' : List Ob) : Prop :=
  match md with
  | false => True
  | true => TV.noShs rs ∧ Ob.noShs L'
def callP (F : Nat → Option V) (M : Nat → Option Mem) (key : Nat) (fo : Opd) (args : List (Opd × Option Nat)) (f : FuncId) (as : List Arg) (L : List Ob) (rs : List TV) (L' : List Ob) (md : Bool) (hk ksA ksO : List Nat) (K : Eff → Prop) : Prop :=
  match ev F fo, evL F (args.map (·.1)) with
  | some (.fn f' caps), some xs => f' = f ∧ match giveAs md (ksA ++ ksO ++ hk) hk M as (xs ++ caps), giveOs md (ksA ++ ksO ++ hk) M L hk with
    | some (p, kA), some (q, kO) => kA = ksA ∧ kO = ksO ∧ p ∧ q ∧ distN (ksA ++ ksO ++ hk) = true ∧ shOk md rs L' ∧ tvOks rs = true ∧ obOks L' = true ∧ rs.length ≤ 16 ∧ szOk M L' hk ∧ K (callF M key (ksA ++ ksO) hk rs L')
    | _, _ => False
  | _, _ => False
theorem lentM_congr {M M' : Nat → Option Mem} (hM : ∀ k m, M k = some m → M' k = some m) : ∀ {L : List Ob} {hk : List Nat} {k : Nat}, szOk M L hk → lentM M' k L hk = lentM M k L hk
  | [], [], k, _ => rfl
  | [], _ :: _, k, h => by simp [szOk] at h
  | .var _ :: _, [], k, h => by simp [szOk] at h
  | .arr _ _ :: _, [], k, h => by simp [szOk] at h
  | .var _ :: L, _ :: hk, k, h => by
    simp only [szOk] at h
    simp only [lentM, lentM_congr hM h]
  | .arr sz _ :: L, κ :: hk, k, h => by
    simp only [szOk] at h
    have h1 := h.1
    split at h1
    · rename_i A hA
      simp only [lentM, lentM_congr hM h.2, hA, hM _ _ hA]
    · exact h1.elim
theorem szOk_mono {M M' : Nat → Option Mem} (hM : ∀ k m, M k = some m → M' k = some m) : ∀ {L : List Ob} {hk : List Nat}, szOk M L hk → szOk M' L hk
  | [], [], _ => trivial
  | [], _ :: _, h => by simp [szOk] at h
  | .var _ :: _, [], h => by simp [szOk] at h
  | .arr _ _ :: _, [], h => by simp [szOk] at h
  | .var _ :: L, _ :: hk, h => by
    simp only [szOk] at h ⊢
    exact szOk_mono hM h
  | .arr sz _ :: L, κ :: hk, h => by
    simp only [szOk] at h ⊢
    refine ⟨?_, szOk_mono hM h.2⟩
    have h1 := h.1
    split at h1
    · rename_i A hA
      rw [hM _ _ hA]; exact h1
    · exact h1.elim
theorem look_mapS {k : Nat} : ∀ (l : List (Nat × Mem)), look k (l.map (fun x => (x.1, some x.2))) = (look k l).map some
  | [] => by simp [look]
  | (a, m) :: l => by
    simp only [List.map_cons, look]
    by_cases e : k = a
    · simp [e]
    · simp only [e, if_false]
      exact look_mapS l
theorem look_noneM {k : Nat} : ∀ (l : List Nat), look k (l.map (fun k => (k, (none : Option Mem)))) = if k ∈ l then some none else none
  | [] => by simp [look]
  | a :: l => by
    simp only [List.map_cons, look, List.mem_cons]
    by_cases e : k = a
    · simp [e]
    · simp only [e, if_false, false_or]
      exact look_noneM l
theorem op_call {P : Program} [Inv P] {E : Env} {nt : Nat} {o : Oper} {fo : Operand} {args : Array Operand} {tys : Array TypeId} {F : Nat → Option V} {M : Nat → Option Mem} {f : FuncId} {caps xs : List V} {as : List Arg} {L : List Ob} {rs : List TV} {L' : List Ob} {md : Bool} {hk ksA ksO : List Nat} {p q : Prop} {key : Nat}
    (hE : EnvOk P E) (ho : o.op = .call ⟨.value fo, args, tys⟩) (hd : dstOk nt o.dst) (hcb : callB P f = true) (hsem : SemX P f as L rs L') (hf : ev F (opd fo) = some (.fn f caps)) (hx : evL F (args.toList.map opd) = some xs)
    (hg : giveAs md (ksA ++ ksO ++ hk) hk M as (xs ++ caps) = some (p, ksA)) (hgo : giveOs md (ksA ++ ksO ++ hk) M L hk = some (q, ksO)) (hp : p) (hq : q) (hn : distN (ksA ++ ksO ++ hk) = true) (hsh : shOk md rs L') (htv : tvOks rs = true) (hob : obOks L' = true) (hlen : rs.length ≤ 16) (hsz : szOk M L' hk) :
    EffS P E nt o F M (callF M key (ksA ++ ksO) hk rs L') := by
  intro s hsub hfr g a w hs K Q hK
  have h0 : Sim E nt ⟨F, M, s.B⟩ g a w := hs.less hsub.1 hsub.2 fun _ h => h
  have hnd := distN_nodup hn
  obtain ⟨vs, hvs, hrun⟩ := enter_ok (s := ⟨F, M, s.B⟩) h0 ho hf hx hcb
  unfold Oper.wp
  rw [hrun, Oper.upon_enter]
  have hnA : nodupK ksA = true ∧ nodupK (ksO ++ hk) = true ∧ ∀ k ∈ ksA, k ∉ ksO ++ hk := nodup_app (by rw [← List.append_assoc]; exact hnd)
  obtain ⟨hs', o1, hv1, a1⟩ := giveOs_ok (s := ⟨F, M, s.B⟩) h0 hgo hq hnA.2.1
  obtain ⟨o2, a2⟩ := giveAs_ok (s := ⟨F, M, s.B⟩) h0 hv1 hvs hg hp hnA.1
  have hI := hE.now hs
  have hbad : ∀ k, memN k (ksA ++ ksO ++ hk) = true ↔ k ∈ ksA ++ ksO ∨ k ∈ hk := fun k => by rw [memN_iff, List.mem_append]
  have hbadF : ∀ k, memN k (ksA ++ ksO ++ hk) = false → ¬ (k ∈ ksA ++ ksO ∨ k ∈ hk) := fun k hk' e => by rw [(hbad k).2 e] at hk'; cases hk'
  have hSk : ∀ b, (FP g ksA b ∨ OBk g hk ksO b) → ∃ k, (k ∈ ksA ++ ksO ∨ k ∈ hk) ∧ Own g k b := fun b hb => by
    rcases hb with ⟨k, hk', hf⟩ | ⟨k, hk', hf⟩ | ⟨k, hk', hf⟩
    · exact ⟨k, .inl (List.mem_append_left _ hk'), .inr hf⟩
    · exact ⟨k, .inl (List.mem_append_right _ hk'), .inr hf⟩
    · exact ⟨k, .inr hk', hf⟩
  refine (hsem w (fzC md (ksA ++ ksO ++ hk) g) (FP g ksA) (OBk g hk ksO) hs' vs hI (fun b hb => ?_) (fun b hb => ?_) (fun b h1 h2 => ?_) o2 o1).mono fun e w' ⟨v, fz', Sr, So', hpost⟩ => ?_
  · rcases hb with hb | ⟨_, k, _, hb⟩
    · exact hs.fzlt b hb
    · exact (hs.ownlt k b hb).1
  · obtain ⟨k, h1, h2⟩ := hSk b hb
    refine ⟨(hs.ownlt k b h2).1, fun hf => ?_, ?_⟩
    · rcases hf with hf | ⟨_, k', h3, h4⟩
      · exact hs.ownfz k b h2 hf
      · have := hs.disj k k' b h2 h4
        subst this
        exact hbadF k h3 h1
    · rcases (hs.ownlt k b h2).2 with h3 | h3
      · exact hE.2 b h3
      · exact Nat.le_trans (Inv.size _ hE.1) h3
  · obtain ⟨k, hk1, hf1⟩ := h1
    rcases h2 with ⟨k2, hk2, hf2⟩ | ⟨k2, hk2, hf2⟩
    · have := hs.disj k k2 b (.inr hf1) (.inr hf2)
      subst this
      exact hnA.2.2 k hk1 (List.mem_append_left _ hk2)
    · have := hs.disj k k2 b (.inr hf1) hf2
      subst this
      exact hnA.2.2 k hk1 (List.mem_append_right _ hk2)
  · have hret := hpost.ret
    subst hret
    have hks : Arrs s (ksA ++ ksO) := fun k hk' => by
      rcases List.mem_append.1 hk' with h1 | h1
      · obtain ⟨A, hA⟩ := a2 k h1; exact ⟨A, hsub.2 _ _ hA⟩
      · obtain ⟨A, hA⟩ := a1 k h1; exact ⟨A, hsub.2 _ _ hA⟩
    have hhv : HVs s g hk hs' := fun i k hi => by
      obtain ⟨v, h1, h2⟩ := hv1 i k hi
      refine ⟨v, h1, ?_⟩
      rcases h2 with ⟨c, b, q1, q2⟩ | ⟨base, cap, A, q1, q2⟩
      · exact .inl ⟨c, b, hsub.2 _ _ q1, q2⟩
      · exact .inr ⟨base, cap, A, hsub.2 _ _ q1, q2⟩
    obtain ⟨g1, Si, s1, x1, hfz1, u1, q1, u2, q3, q4⟩ := hs.after hnd hbad hks hhv hSk (szOk_mono hsub.2 hsz) hpost
    have conv : ∀ b, md = false → fz' b → g1.fz b := fun b hm hb => (hfz1 b).2 ⟨hb, fun hX => by rw [hm] at hX; cases hX.1⟩
    obtain ⟨rvs, hres, hv⟩ := hpost.res
    have hres1 : RRepL w' g1.fz rs Sr rvs := by
      cases md with
      | false => exact hres.mono fun b hb => conv b rfl hb
      | true => exact hres.fzch hsh.1
    have nkF : ∀ x, (x ∈ (tvMs key rs).map (·.1) ∨ x ∈ (lentN (key + 1024) L').map (·.1)) → ¬ s.B x := fun x hx => hfr x (by simp only [callF, List.mem_append]; exact hx)
    obtain ⟨g2, s2, x2, r2, f2, ow2, p2⟩ := s1.distR (k := key) hres1 htv u1 (fun x hx => nkF x (.inl hx))
    have hB : ∀ x ∈ hk, s.B x := fun x hx => by
      obtain ⟨i, hi⟩ := List.mem_iff_getElem?.1 hx
      obtain ⟨v, _, hv⟩ := hhv i x hi
      rcases hv with ⟨c, b, r1, _⟩ | ⟨_, _, A, r1, _⟩
      · obtain ⟨b, _, _, e, _⟩ := hs.mem x _ r1; exact hs.bornV x (by rw [e]; simp)
      · obtain ⟨b, _, e, _⟩ := hs.mem x _ r1; exact hs.bornA x (by rw [e]; simp)
    have nosh : ∀ (i : Nat) ob, L'[i]? = some ob → md = true → ob.noSh := fun i ob hi hm => by
      subst hm
      have : ∀ {L : List Ob} {i : Nat}, Ob.noShs L → L[i]? = some ob → ob.noSh := by
        intro L
        induction L with
        | nil => intro i _ h; simp at h
        | cons c cs ih =>
          intro i h1 h2
          cases i with
          | zero => simp only [List.getElem?_cons_zero, Option.some.injEq] at h2; subst h2; exact h1.1
          | succ i => exact ih h1.2 (by simpa using h2)
      exact this hsh.2 hi
    obtain ⟨g3, s3, x3⟩ := Sim.distO (M := s.M) (Si := Si) (k := key + 1024) s2 (szOk_len hsz) (fun i ob κ hi hκ => by
        obtain ⟨⟨v1, hv1', hob1⟩, hvar, harr⟩ := q1 i ob κ hi hκ
        have hob2 : ObRep w' g2.fz ob (Si i) v1 := by
          rw [f2]
          cases md with
          | false =>
            cases ob with
            | var ts => obtain ⟨b, cur, el, t1, t2, t3, t4⟩ := hob1; exact ⟨b, cur, el, t1, t2, t3, t4.mono (Nat.le_refl _) (fun b _ hb => ⟨conv b rfl hb, rfl⟩) (fun _ h => h) (fun _ _ _ => rfl)⟩
            | arr sz rows => exact OwT.mono (t := .sl true sz rows) (Nat.le_refl _) (fun b _ hb => ⟨conv b rfl hb, rfl⟩) (fun _ h => h) (fun _ _ _ => rfl) hob1
          | true => exact hob1.fzch (nosh i ob hi rfl)
        have hBκ := hB κ (List.mem_of_getElem? hκ)
        cases ob with
        | var ts =>
          obtain ⟨b, t1, t2, t3⟩ := hvar ts rfl
          rw [t2] at hv1'
          cases hv1'
          obtain ⟨b', cur, el, t4, t5, t6, t7⟩ := hob2
          simp only [Value.pointer.injEq, Option.some.injEq, Addr.mk.injEq, and_true] at t4
          subst t4
          exact ⟨b, cur, el, by rw [(p2 κ hBκ).2.2.2]; exact t1, t6, t7⟩
        | arr sz rows =>
          obtain ⟨base, cap, t1, t2, t3, t4, t5⟩ := harr sz rows rfl
          rw [t4] at hv1'
          cases hv1'
          exact ⟨base, cap, by rw [(p2 κ hBκ).2.2.1]; exact t1, by rw [(p2 κ hBκ).2.1]; exact t2, by rw [(p2 κ hBκ).1, t3]; exact hob2, t5⟩)
      (fun i b hi hSb hne => by
        refine (u2 i b hi hSb fun κ hκ => ?_).mono f2 ow2 (q4 i b hSb)
        have := hne κ hκ
        rw [(p2 κ (hB κ (List.mem_of_getElem? hκ))).2.2.2] at this
        exact this) q3 hob (fun x hx hbx => by
        rcases hbx with hbx | hbx
        · have := tvMs_key htv hbx
          have := lentN_key hob hx
          omega
        · exact nkF x (.inr hx) hbx) (fun x hx => .inr (hB x hx))
    have hmem3 : ∀ x, x ∈ (lentM s.M (key + 1024) L' hk).map (·.1) → x ∈ (lentN (key + 1024) L').map (·.1) ∨ x ∈ hk := by
      have : ∀ (M : Nat → Option Mem) (L : List Ob) (hk : List Nat) (k x : Nat), x ∈ (lentM M k L hk).map (·.1) → x ∈ (lentN k L).map (·.1) ∨ x ∈ hk := by
        intro M L
        induction L with
        | nil => intro hk k x h; simp [lentM] at h
        | cons o L ih =>
          intro hk k x h
          cases hk with
          | nil => cases o <;> simp [lentM] at h
          | cons d hk =>
            cases o with
            | var ts =>
              simp only [lentM, lentN, List.map_append, List.map_cons, List.mem_append, List.mem_cons] at h ⊢
              rcases h with h | h | h
              · rcases ih hk _ x h with h | h
                · exact .inl (.inr h)
                · exact .inr (.inr h)
              · exact .inr (.inl h)
              · exact .inl (.inl h)
            | arr sz rows =>
              simp only [lentM, lentN, List.map_append, List.map_cons, List.map_nil, List.mem_append, List.mem_cons, List.not_mem_nil, or_false] at h ⊢
              rcases h with h | h
              · rcases ih hk _ x h with h | h
                · exact .inl h
                · exact .inr (.inr h)
              · exact .inr (.inl h)
      intro x hx
      exact this _ _ _ _ x hx
    have s4 : Sim E nt ⟨s.F, (s.app o.dst (callF M key (ksA ++ ksO) hk rs L')).M, (s.app o.dst (callF M key (ksA ++ ksO) hk rs L')).B⟩ g3 a w' := by
      refine s3.less (fun _ _ h => h) (fun k m hm => ?_) (fun k hb => ?_)
      · simp only [SF.app, callF, look_append, look_mapS, ← lentM_congr hsub.2 hsz, look_noneM] at hm
        simp only [SF.ext]
        cases e1 : look k (lentM s.M (key + 1024) L' hk) with
        | some m1 =>
          rw [e1] at hm
          simpa using hm
        | none =>
          rw [e1] at hm
          simp only [Option.none_or, Option.map_none] at hm ⊢
          cases e2 : look k (tvMs key rs) with
          | some m2 =>
            rw [e2] at hm
            simpa using hm
          | none =>
            rw [e2] at hm
            simp only [Option.none_or, Option.map_none, List.mem_append] at hm ⊢
            by_cases hc : (k ∈ ksA ∨ k ∈ ksO) ∨ k ∈ hk
            · rw [if_pos hc] at hm; cases hm
            · rw [if_neg hc] at hm; rw [if_neg hc]; exact hm
      · simp only [SF.ext, SF.app, callF, List.mem_append] at hb ⊢
        rcases hb with hb | hb | hb
        · rcases hmem3 k hb with hb | hb
          · exact .inl (.inr hb)
          · exact .inr (hB k hb)
        · exact .inl (.inl hb)
        · exact .inr hb
    have hrv : VRep w' g3 (retV (tvVs key rs)) v := by
      have hvr := r2.ext x3
      have hl := hvr.length
      have hlen2 : ∀ (rs : List TV) (k : Nat), (tvVs k rs).length = rs.length := by
        intro rs
        induction rs with
        | nil => intro k; rfl
        | cons r rs ih => intro k; simp [tvVs, ih]
      unfold retV
      split
      · rename_i x hx1
        rw [hx1] at hvr
        simp only [VRepL] at hvr
        obtain ⟨u, us, rfl, h4, rfl⟩ := hvr
        simp only [List.length_singleton, List.getElem_cons_zero, dite_true] at hv
        subst hv
        exact h4
      · rename_i hne
        have : ¬ rvs.length = 1 := by
          intro e1
          rw [e1] at hl
          match hh : tvVs key rs, hl with
          | [r], _ => exact hne r hh
        rw [dif_neg this] at hv
        simp only [VRep]
        exact ⟨rvs, hv, hvr⟩
    have hput := s4.put (d := o.dst) hd hrv
    refine hK g3 _ w' ?_
    have e1 : s.app o.dst (callF M key (ksA ++ ksO) hk rs L') = SF.put ⟨s.F, (s.app o.dst (callF M key (ksA ++ ksO) hk rs L')).M, (s.app o.dst (callF M key (ksA ++ ksO) hk rs L')).B⟩ o.dst (callF M key (ksA ++ ksO) hk rs L').val := by
      cases o.dst <;> rfl
    rw [e1]
    exact hput
theorem callE_of {P : Program} [Inv P] {F : Nat → Option V} {M : Nat → Option Mem} {dst : Option Tmp} {key : Nat} {fo : Opd} {args : List (Opd × Option Nat)} {f : FuncId} {as : List Arg} {L : List Ob} {rs : List TV} {L' : List Ob} {K : Eff → Prop} (hcb : callB P f = true) (hsem : SemX P f as L rs L') (md : Bool) (hk ksA ksO : List Nat)
    (h : callP F M key fo args f as L rs L' md hk ksA ksO K) : callE P F M dst key fo args K .mk := by
  unfold callP at h
  split at h
  · rename_i f' caps xs h1 h2
    obtain ⟨rfl, h⟩ := h
    split at h
    · rename_i p kA q kO h3 h4
      obtain ⟨rfl, rfl, h5, h6, h7, h8, h9, h10, h11, h12, h13⟩ := h
      refine ⟨_, h13, fun E nt o hE hc hdst hd => ?_⟩
      obtain ⟨fo', args', tys, e1, e2, rfl⟩ := cmp_call hc
      rw [argL_fst e2] at h2
      exact op_call hE e1 hd hcb hsem h1 h2 h3 h4 h5 h6 h7 h8 h9 h10 h11 h12
    · exact h.elim
  · exact h.elim
def OvlOk (P : Program) (f : FuncId) : Prop :=
  ∃ fn t r e n, P.funcs[f]? = some fn ∧ (fn.name == "runtime.NumGoroutine") = false ∧ fn.body.isNone = true ∧ Extern.findNext fn = none ∧ Extern.find fn = some (Extern.SlicesOverlaps.overlaps #[t, t] #[r]) ∧ P.underlying t = some (.slice e) ∧ tySz P e = some n
theorem run_overlaps_nil {P : Program} (w : World) (tS tR e : TypeId) (ht : P.underlying tS = some (.slice e)) (size : Nat) (hz : ∀ w, (Go.sizeOf e).run P w = .ok size w)
    (a b : Option Addr) (la ca lb cb : Nat) (h : la = 0 ∨ lb = 0) :
    (Extern.SlicesOverlaps.overlaps #[tS, tS] #[tR] #[.slice a la ca, .slice b lb cb]).run P w = .ok (.bool false) w := by
  have h2 : la = 0 ∨ lb = 0 ∨ size = 0 := by omega
  change Sem.run P (underlying tS >>= _) w = _
  rw [Sem.run_bind, run_underlying ht, Result.andThen_ok]
  change Sem.run P (sizeOf e >>= _) w = _
  rw [Sem.run_bind, hz, Result.andThen_ok]
  cases a <;> cases b
  · rfl
  · rfl
  · rfl
  · exact (congrArg (fun c => Sem.run P c w) (if_pos h2)).trans rfl
def ovlE (F : Nat → Option V) (M : Nat → Option Mem) (x y : Opd) : Prop :=
  match ev F x, ev F y with
  | some (.ref κ off len), some (.ref κ2 off2 len2) => match M κ, M κ2 with
    | some (.arr A), some (.arr A2) => Nat.beq κ κ2 = false ∧ off + len ≤ A.rows.length ∧ off2 + len2 ≤ A2.rows.length ∧ A2.sz ≠ 0
    | _, _ => False
  | _, _ => False
section
variable {P : Program}
theorem ovl_q {E : Env} {nt : Nat} {o : Oper} {s : SF} {f : FuncId} {fo x y : Operand} {args : Array Operand} {tys : Array TypeId} (hO : OvlOk P f) (ho : o.op = .call ⟨.value fo, args, tys⟩) (hf : ev s.F (opd fo) = some (.fn f [])) (ha : args.toList = [x, y]) (h : ovlE s.F s.M (opd x) (opd y)) : Quiet P E nt o s (.bool false) := by
  intro g a w hs
  have ea : args = #[x, y] := by cases args; simp_all
  subst ea
  obtain ⟨fn, t, r, e, n, h1, h2, h3, h4, h5, h6, h7⟩ := hO
  have hcal := ev_ok hs hf
  simp only [VRep] at hcal
  obtain ⟨cs, hcs, hrep⟩ := hcal
  have : cs = [] := by simpa only [VRepL] using hrep
  subst this
  unfold ovlE at h
  split at h
  · rename_i κ off len κ2 off2 len2 hx hy
    split at h
    · rename_i A A2 hA hA2
      obtain ⟨q1, q2, q3, q4⟩ := h
      have hne : κ ≠ κ2 := by intro ee; subst ee; simp at q1
      have e1 := ev_ok hs hx
      have e2 := ev_ok hs hy
      simp only [VRep] at e1 e2
      obtain ⟨base, cap, sz, base', hab, hcap, hv, _, hbase⟩ := e1
      obtain ⟨base2, cap2, sz2, base2', hab2, hcap2, hv2, _, hbase2⟩ := e2
      have hz : ∀ w, (Go.sizeOf e).run P w = .ok n w := fun w => run_sizeOf' h7 w
      have hrun : (Extern.SlicesOverlaps.overlaps #[t, t] #[r] #[.slice base' len (cap - off), .slice base2' len2 (cap2 - off2)]).run P w = .ok (.bool false) w := by
        by_cases hl : len = 0 ∨ len2 = 0
        · exact run_overlaps_nil w t r e h6 n hz _ _ _ _ _ _ hl
        · obtain ⟨b, cap3, cur, el, hab3, hfp, hbb, hfit, hlc, _⟩ := arr_base (hs.mem κ _ hA) (by omega)
          obtain ⟨b2, cap4, cur2, el2, hab4, hfp2, hbb2, hfit2, hlc2, _⟩ := arr_base (hs.mem κ2 _ hA2) (by omega)
          rw [hab] at hab3
          rw [hab2] at hab4
          cases hab3
          cases hab4
          have hb1 := hbase (by omega)
          have hb2 := hbase2 (by omega)
          subst hb1
          subst hb2
          simp only [Option.map_some, add_mk]
          refine Lib.run_overlaps_apart w t r e h6 n hz ⟨b, _, none⟩ ⟨b2, _, none⟩ len (cap - off) len2 (cap2 - off2) (fun ee => hne ?_) el el2 cur.size cur2.size ?_ ?_ ?_ ?_ ?_
          · simp only at ee
            subst ee
            exact hs.disj κ κ2 b (.inr hfp) (.inr hfp2)
          · simp [World.shape?, hbb]
          · simp [World.shape?, hbb2]
          · have : 0 < cap2 * A2.sz := Nat.mul_pos (by omega) (by omega)
            omega
          · simp [World.frozen?, hbb]
          · simp [World.frozen?, hbb]
      refine ⟨.bool false, ?_, by simp only [VRep]⟩
      unfold execOp
      rw [ho]; dsimp only
      have hc := run_callFunc_extern (P := P) (f := f) h1 h2 h3 h4 h5 #[a.eval x, a.eval y] w
      rw [hv, hv2, hrun] at hc
      simp only [Result.andThen_ok] at hc
      simp only [resolve, hcs, Deferred.ofValue, Sem.run_bind, Sem.run_pure, Result.andThen_ok, invoke, List.map_toArray, List.map_cons, List.map_nil, hv, hv2]
      simpa using hc
    · exact h.elim
  · exact h.elim
variable [Inv P]
theorem ovl_of {F : Nat → Option V} {M : Nat → Option Mem} {dst : Option Tmp} {key : Nat} {fo x y : Opd} {p q : Option Nat} {f : FuncId} {K : Eff → Prop} (hO : OvlOk P f) (hf : ev F fo = some (.fn f [])) (h : ovlE F M x y) (hK : K ⟨.bool false, [], []⟩) : callE P F M dst key fo [(x, p), (y, q)] K .mk := by
  refine ⟨_, hK, fun E nt o hE hc hdst hd => ?_⟩
  obtain ⟨fo', args', tys, e1, e2, rfl⟩ := cmp_call hc
  have h3 := argL_fst e2
  intro s hsub _
  obtain ⟨a, b, ha⟩ : ∃ a b, args'.toList = [a, b] := by
    have : (args'.toList.map opd).length = 2 := by rw [← h3]; rfl
    rw [List.length_map] at this
    match args'.toList, this with
    | [a, b], _ => exact ⟨a, b, rfl⟩
  rw [ha] at h3
  simp only [List.map_cons, List.map_nil, List.cons.injEq, and_true] at h3
  obtain ⟨rfl, rfl⟩ := h3
  refine Quiet.op (ovl_q hO e1 (hsub.ev hf) ha ?_) hd
  unfold ovlE at h ⊢
  split at h
  · rename_i hx hy
    rw [hsub.ev hx, hsub.ev hy]
    dsimp only
    split at h
    · rename_i hA hA2
      rw [hsub.2 _ _ hA, hsub.2 _ _ hA2]
      exact h
    · exact h.elim
  · exact h.elim
end
def roomR (sz n : Nat) : List (List T) := junkR sz n
theorem roomR_len (sz n : Nat) : (roomR sz n).length = n := by simp [roomR, junkR]
def St.full (k c : Nat) (s : St) : St :=
  match look k s.ms with
  | some (.arr A) => ⟨s.fr, updM [(k, some (.arr ⟨A.sz, A.rows ++ roomR A.sz (c - A.rows.length), A.ver, some c⟩))] s.ms, s.bn⟩
  | _ => s
theorem Simm.full {E : Env} {nt : Nat} {st : St} {a : Act} {w : World} {k : Nat} {A : Arr} (h : Simm E nt st a w) (hk : look k st.ms = some (.arr A)) : ∃ c, A.rows.length ≤ c ∧ c ≤ maxLen ∧ Simm E nt (st.full k c) a w := by
  obtain ⟨g, hs⟩ := h
  obtain ⟨base, cap, hab, htop, hown, hc⟩ := hs.mem k _ hk
  simp only [OwT] at hown
  obtain ⟨base', cap', e, hlc, hmx, hr⟩ := hown
  cases e
  refine ⟨cap, hlc, hmx, g, ?_⟩
  have hl : (A.rows ++ junkR A.sz (cap - A.rows.length)).length = cap := by simp [junkR]; omega
  have hm : MemRep w g k (.arr ⟨A.sz, A.rows ++ junkR A.sz (cap - A.rows.length), A.ver, some cap⟩) := by
    refine ⟨base, cap, hab, htop, ?_, fun c hc => by cases hc; rfl⟩
    simp only [OwT]
    refine ⟨base, cap, rfl, by rw [hl]; exact Nat.le_refl _, hmx, ?_⟩
    rcases hr with ⟨h1, h2⟩ | ⟨b, cur, el, h1, h2, h3, h4, h5⟩
    · exact .inl ⟨by rw [h1, h2]; rfl, h2⟩
    · refine .inr ⟨b, cur, el, h1, h2, h3, h4, ?_⟩
      rw [hl]
      have hsp : cur.toList.take (cap * A.sz) = cur.toList.take (A.rows.length * A.sz) ++ (cur.toList.drop (A.rows.length * A.sz)).take ((cap - A.rows.length) * A.sz) := by
        have : cap * A.sz = A.rows.length * A.sz + (cap - A.rows.length) * A.sz := by rw [← Nat.add_mul]; congr 1; omega
        rw [this, List.take_add]
      rw [hsp]
      have hle : A.rows.length * A.sz + (cap - A.rows.length) * A.sz ≤ cur.size := by rw [← Nat.add_mul, show A.rows.length + (cap - A.rows.length) = cap by omega]; exact h4
      have j := OwRows.join (fun x _ h => h) h5 (junkR_ok (w := w) (fz := g.fz) (sz := A.sz) (cap - A.rows.length) ((cur.toList.drop (A.rows.length * A.sz)).take ((cap - A.rows.length) * A.sz)) (by simp; omega))
      exact j.mono (Nat.le_refl _) (fun b _ hf => ⟨hf, rfl⟩) (fun b hb => hb.elim id False.elim) (fun _ _ _ => rfl)
  have h2 := hs.knowM hm
  unfold St.full
  rw [hk]
  refine h2.less (fun _ _ h => h) (fun x m hx => ?_) (fun _ h => h)
  simp only [St.sf, look_updM, look] at hx ⊢
  split at hx
  · rename_i m' hm'
    split at hm'
    · rename_i e
      cases hm'
      rw [if_pos (by simpa using e)]
      exact hx
    · cases hm'
  · rename_i hm'
    split at hm'
    · cases hm'
    · rename_i e
      rw [if_neg (by simpa using e)]
      exact hx
theorem SemX.of_codeC {P : Program} [Inv P] {f : FuncId} {fn : Func} {c : Code} {sc : SC} {as : List Arg} {L : List Ob} {rs : List TV} {L' : List Ob} {rvs : List RV} (k0 : Nat) {A : Arr} (hf : P.funcs[f]? = some fn) (hb : fn.body = some c) (hsc : compC P fn.ntmps c = some sc.er) (hd : drawB c sc = true) (hr : cmpR P fn.results.toList = some rvs)
    (hn : as.length ≤ fn.ntmps) (has : as.length < 200) (hok : ∀ o ∈ L, obOk o) (hok2 : ∀ c ∈ as, argOk c) (hk0 : look k0 (initS as L).ms = some (.arr A))
    (h : ∀ cp, A.rows.length ≤ cp → cp ≤ maxLen → CW P sc (endX rvs L rs L') ((initS as L).full k0 cp)) : SemX P f as L rs L' := by
  intro w fz Sa So hs vs hI hfz hS hdj ha ho
  let E : Env := ⟨w, fun b => Sa b ∨ So b, fz, L, hs⟩
  have hE : EnvOk P E := ⟨hI, fun b hb => (hS b hb).2.2⟩
  have h00 : Simm E fn.ntmps (initS as L) _ w := Sim.init (nt := fn.ntmps) hfz (fun b hb => ⟨(hS b hb).1, (hS b hb).2.1⟩) hdj ha ho hok hok2 (by rw [ha.length]; exact hn) has
  obtain ⟨cp, c1, c2, h0⟩ := h00.full hk0
  refine calls_of_wp hf hb (wp_mono (CW_ok hE hsc hd (h cp c1 c2) h0) ?_)
  intro e a w' he
  have fin : ∀ st, endX rvs L rs L' .ret st → Simm E fn.ntmps st a w' → a.defers = [] ∧ ∃ v, (results fn a.tmps).run P w' = .ok v w' ∧ ∃ v' fz' Sr So', Post P w fz (fun b => Sa b ∨ So b) hs rs L' (.returned v) w' v' fz' Sr So' := by
    intro st h1 h2
    obtain ⟨d, v, hv, fz', Sr, So', q1, q2, q3, q4, q5, q6, q7, q8, q9, q10, q11⟩ := endX_ok (E := E) (S := fun b => Sa b ∨ So b) hr (fun b hb => hb) h1 h2
    exact ⟨d, v, hv, v, fz', Sr, So', ⟨rfl, q7, q8, q9, q10, q11, q1, q2, q3, q4, q5, q6⟩⟩
  cases e <;> simp only [postC] at he
  · obtain ⟨st, h1, h2⟩ := he
    exact fin st h1 h2
  · obtain ⟨st, h1, h2⟩ := he
    exact h1.elim
  · obtain ⟨st, h1, h2⟩ := he
    exact fin st h1 h2
section
variable {P : Program} [Inv P]
theorem valE_mono {F : Nat → Option V} {M : Nat → Option Mem} {h : Nat} {df : List T} {op : AOp} {K K' : Eff → Prop} (hk : ∀ e, K e → K' e) (hh : valE F M h df op K) : valE F M h df op K' := by
  unfold valE at *
  split at hh
  · exact ⟨hh.1, hk _ hh.2⟩
  · exact hh
theorem srcE_mono {F : Nat → Option V} {M : Nat → Option Mem} {h : Nat} {str : Bool} {y : Opd} {sz : Nat} {K K' : List (List T) → List Nat → Prop} (hk : ∀ a b, K a b → K' a b) (hh : srcE F M h str y sz K) : srcE F M h str y sz K' := by
  unfold srcE at *
  split at hh
  · exact ⟨hh.1, hk _ _ hh.2⟩
  · exact hk _ _ hh
  · exact ⟨hh.1, hh.2.1, hh.2.2.1, hk _ _ hh.2.2.2⟩
  · split at hh
    · refine ⟨hh.1, hh.2.1, ?_⟩
      have h3 := hh.2.2
      split at h3
      · exact ⟨h3.1, hk _ _ h3.2⟩
      · exact ⟨h3.1, hk _ _ h3.2⟩
    · exact hh
  · exact hh
theorem cpsE_mono {F : Nat → Option V} {M : Nat → Option Mem} {y : Opd} {sz : Nat} {K K' : List (List T) → Prop} (hk : ∀ a, K a → K' a) (hh : cpsE F M y sz K) : cpsE F M y sz K' := by
  unfold cpsE at *
  split at hh
  · exact ⟨hh.1, hh.2.1, hh.2.2.1, hk _ hh.2.2.2⟩
  · split at hh
    · exact ⟨hh.1, hh.2.1, hh.2.2.1, hk _ hh.2.2.2⟩
    · exact hh
  · exact hh
theorem bornE_mono {F : Nat → Option V} {M : Nat → Option Mem} {key : Nat} {df : List T} {op : AOp} {K K' : Eff → Prop} (hk : ∀ e, K e → K' e) (hh : bornE F M key df op K) : bornE F M key df op K' := by
  unfold bornE at *
  split at hh
  · exact ⟨hh.1, hk _ hh.2⟩
  · exact ⟨hh.1, hk _ hh.2⟩
  · exact hh
theorem stepE_mono {s : SOp} {F : Nat → Option V} {M : Nat → Option Mem} {K K' : Eff → Prop} (hk : ∀ e, K e → K' e) (hh : stepE P s F M K) : stepE P s F M K' := by
  unfold stepE at *
  split at hh
  · split at hh
    · unfold takeE at *
      split at hh
      · split at hh
        · refine ⟨hh.1, hh.2.1, ?_⟩
          have h3 := hh.2.2
          split at h3
          · exact hk _ h3
          · exact h3.elim
        · exact hh
      · exact hh
    · unfold takeHE at *
      split at hh
      · split at hh
        · refine ⟨hh.1, hh.2.1, ?_⟩
          have h3 := hh.2.2
          split at h3
          · exact hk _ h3
          · exact h3.elim
        · exact hh
      · exact hh
    · exact valE_mono hk hh
  · split at hh
    · unfold storeAE at *
      split at hh
      · split at hh
        · obtain ⟨h1, h2, h3, h4, h5, h6, h7, h9, h8⟩ := hh
          exact ⟨h1, h2, h3, h4, h5, h6, h7, h9, hk _ h8⟩
        · exact hh
      · exact hh
    · unfold storeBE at *
      split at hh
      · split at hh
        · exact ⟨hh.1, hh.2.1, hh.2.2.1, hk _ hh.2.2.2⟩
        · exact hh
      · exact hh
    unfold storeE at *
    split at hh
    · split at hh
      · exact ⟨hh.1, hh.2.1, hh.2.2.1, hh.2.2.2.1, hk _ hh.2.2.2.2⟩
      · exact hh
    · split at hh
      · obtain ⟨h1, h2, h3, h4, h5, h6, h7, h8⟩ := hh
        exact ⟨h1, h2, h3, h4, h5, h6, h7, hk _ h8⟩
      · exact hh
    · exact hh
  · unfold bslE at *
    split at hh
    · split at hh
      · exact ⟨hh.1, hh.2.1, hk _ hh.2.2⟩
      · exact hh
    · exact hh
  · unfold mksE at *
    split at hh
    · obtain ⟨h1, h2, h3, h4, h5⟩ := hh
      exact ⟨h1, h2, h3, h4, hk _ h5⟩
    · exact hh
  · unfold boxE at *
    split at hh
    · exact ⟨hh.1, hh.2.1, hk _ hh.2.2⟩
    · exact hh
  · exact hk _ hh
  · split at hh
    · unfold apsE at *
      split at hh
      · split at hh
        · obtain ⟨h1, h2, h3, h4, h5, h6, h7⟩ := hh
          exact ⟨h1, h2, h3, h4, h5, h6, hk _ h7⟩
        · exact hh
      · exact hh
    · unfold appPE at *
      split at hh
      · split at hh
        · obtain ⟨h1, h2, h3, h4, h5, h6, h7, h8, h9, h10⟩ := hh
          exact ⟨h1, h2, h3, h4, h5, h6, h7, h8, h9, hk _ h10⟩
        · exact hh
      · exact hh
    unfold appE at *
    split at hh
    · exact srcE_mono (fun a b h => ⟨h.1, h.2.1, hk _ h.2.2⟩) hh
    · split at hh
      · exact ⟨hh.1, hh.2.1, srcE_mono (fun a b h => ⟨h.1, h.2.1, h.2.2.1, hk _ h.2.2.2⟩) hh.2.2⟩
      · exact hh
    · exact hh
  · split at hh
    · unfold cpyRE at *
      split at hh
      · split at hh
        · obtain ⟨h1, h2, h3, h4, h5, h6, h7⟩ := hh
          exact ⟨h1, h2, h3, h4, h5, h6, hk _ h7⟩
        · exact hh
      · exact hh
    · unfold cpyE at *
      split at hh
      · split at hh
        · obtain ⟨h1, h2, h3, h4⟩ := hh
          exact ⟨h1, h2, h3, cpsE_mono (fun a h => hk _ h) h4⟩
        · exact hh
      · exact hh
    · exact hh
  · unfold apzE at *
    split at hh
    · split at hh
      · split at hh
        · obtain ⟨h1, h2, h3, h4, h5, h6, h7, h8, h9⟩ := hh
          exact ⟨h1, h2, h3, h4, h5, h6, h7, h8, hk _ h9⟩
        · exact hh
      · exact hh
    · exact hh
  · unfold clrE at *
    split at hh
    · split at hh
      · obtain ⟨h1, h2, h3, h4, h5, h6, h7⟩ := hh
        exact ⟨h1, h2, h3, h4, h5, h6, hk _ h7⟩
      · exact hh
    · exact hh
  · unfold callE at *
    obtain ⟨e, h1, h2⟩ := hh
    exact ⟨e, hk _ h1, h2⟩
  · split at hh
    · exact bornE_mono hk hh
    · exact valE_mono hk hh
  · split at hh
    · exact bornE_mono hk hh
    · exact valE_mono hk hh
  · exact valE_mono hk hh
theorem guardE_mono {s : SOp} {c : Bool} {F : Nat → Option V} {M : Nat → Option Mem} {K K' : V → Prop} (hk : ∀ e, K e → K' e) (hh : guardE P s c F M K) : guardE P s c F M K' := by
  unfold guardE at *
  split at hh
  · obtain ⟨v, h1, h2⟩ := hh
    exact ⟨v, h1, hk _ h2⟩
  · split at hh
    · exact ⟨hh.1, hk _ hh.2⟩
    · exact ⟨hh.1, hk _ hh.2⟩
theorem takeVE_mono {F : Nat → Option V} {M : Nat → Option Mem} {key n : Nat} {df : List T} {q : List Nat} {x : Opd} {agg : Bool} {K K' : Eff → Prop} (hk : ∀ e, K e → K' e) (hh : takeVE F M key df q x n agg K) : takeVE F M key df q x n agg K' := by
  unfold takeVE at *
  split at hh
  · split at hh
    · obtain ⟨h1, h2, h3, h4, h5⟩ := hh
      refine ⟨h1, h2, h3, h4, ?_⟩
      split at h5
      · exact fun v => hk _ (h5 v)
      · exact h5.elim
    · exact hh
  · exact hh
theorem isnW_mono {F : Nat → Option V} {M : Nat → Option Mem} {ng : Bool} {x : Opd} {K K' : Bool → Prop} (hk : ∀ b, K b → K' b) (h : isnW F M ng x K) : isnW F M ng x K' := by
  unfold isnW at *
  split at h
  · exact fun b => hk _ (h b)
  · exact ⟨h.1, fun b hb => hk _ (h.2 b hb)⟩
  · exact ⟨h.1, fun b hb => hk _ (h.2 b hb)⟩
  · exact h
theorem callE_mono2 {F : Nat → Option V} {M : Nat → Option Mem} {dst : Option Tmp} {key : Nat} {f : Opd} {args : List (Opd × Option Nat)} {K K' : Eff → Prop} (hk : ∀ e, K e → K' e) (h : callE P F M dst key f args K .mk) : callE P F M dst key f args K' .mk := by
  obtain ⟨e, h1, h2⟩ := h
  exact ⟨e, hk e h1, h2⟩
theorem RW_mono : ∀ {l : List SOp} {st : St} {K K' : St → Prop}, (∀ s, K s → K' s) → RW P l st K → RW P l st K'
  | [], st, K, K', hk, h => hk _ h
  | s :: l, st, K, K', hk, h => by
    simp only [RW] at *
    split at h
    · split at h
      · exact isnW_mono (fun b h => RW_mono hk h) h
      · split at h
        · exact takeVE_mono (fun e h => ⟨h.1, RW_mono hk h.2⟩) h
        · exact stepE_mono (fun e h => ⟨h.1, RW_mono hk h.2⟩) h
      · exact stepE_mono (fun e h => ⟨h.1, RW_mono hk h.2⟩) h
    · split at h
      · split at h
        · split at h
          · exact ⟨fun hc => ⟨(h.1 hc).1, callE_mono2 (fun e h => ⟨h.1, RW_mono hk h.2⟩) (h.1 hc).2⟩, fun hc => RW_mono hk (h.2 hc)⟩
          · exact h
        · exact guardE_mono (fun v h => RW_mono hk h) h
      · exact h
theorem RW_app : ∀ {l l2 : List SOp} {st : St} {K : St → Prop}, RW P l st (fun st' => RW P l2 st' K) → RW P (l ++ l2) st K
  | [], l2, st, K, h => h
  | s :: l, l2, st, K, h => by
    simp only [RW, List.cons_append] at *
    split at h
    · split at h
      · exact isnW_mono (fun b h => RW_app h) h
      · split at h
        · exact takeVE_mono (fun e h => ⟨h.1, RW_app h.2⟩) h
        · exact stepE_mono (fun e h => ⟨h.1, RW_app h.2⟩) h
      · exact stepE_mono (fun e h => ⟨h.1, RW_app h.2⟩) h
    · split at h
      · split at h
        · split at h
          · exact ⟨fun hc => ⟨(h.1 hc).1, callE_mono2 (fun e h => ⟨h.1, RW_app h.2⟩) (h.1 hc).2⟩, fun hc => RW_app (h.2 hc)⟩
          · exact h
        · exact guardE_mono (fun v h => RW_app h) h
      · exact h
theorem RW_cut (n : Nat) {l : List SOp} {st st1 : St} {K : St → Prop} (h : RW P (l.take n) st (fun s => s = st1)) (hK : RW P (l.drop n) st1 K) : RW P l st K := by
  have := RW_app (l := l.take n) (l2 := l.drop n) (RW_mono (fun s e => by subst e; exact hK) h)
  rwa [List.take_append_drop] at this
theorem W_reg {l : List SOp} {lv : Option (List Nat × List Nat)} {b : SC} {Q : Ex → St → Prop} {st st1 : St} (h : RW P l st (fun s => s.keep lv = st1)) (hK : CW P b Q st1) : CW P (.seq (.reg false l lv) b) Q st := by
  refine CW_seq (CW_reg (RW_mono (fun s e => ?_) h))
  subst e
  exact hK
theorem W_regn {l : List SOp} {lv : Option (List Nat × List Nat)} {Q : Ex → St → Prop} {st st1 : St} (h : RW P l st (fun s => s.keep lv = st1)) (hK : Q .normal st1) : CW P (.reg false l lv) Q st := by
  refine CW_reg (RW_mono (fun s e => ?_) h)
  subst e
  exact hK
theorem RW_ovl {s : SOp} {l : List SOp} {st : St} {K : St → Prop} {fo x y : Opd} {p q : Option Nat} {f : FuncId} (hO : OvlOk P f) (hop : s.op = .call fo [(x, p), (y, q)]) (hgd : s.gd = none) (hf : ev st.F fo = some (.fn f [])) (h : ovlE st.F st.M x y) (hK : RW P l (st.app s.dst ⟨.bool false, [], []⟩) K) : RW P (s :: l) st K := by
  simp only [RW, hgd, stepE, hop]
  exact ovl_of hO hf h ⟨by simp [freshN], hK⟩
theorem RW_call {s : SOp} {l : List SOp} {st : St} {K : St → Prop} {fo : Opd} {args : List (Opd × Option Nat)} {f : FuncId} {as : List Arg} {L : List Ob} {rs : List TV} {L' : List Ob} {e : Eff} (hcb : callB P f = true) (hsem : SemX P f as L rs L') (md : Bool) (hk ksA ksO : List Nat) (hop : s.op = .call fo args) (hgd : s.gd = none)
    (h : callP st.F st.M s.key fo args f as L rs L' md hk ksA ksO (fun x => x = e)) (hf : freshN st.bn e.nk = true) (hK : RW P l (st.app s.dst e) K) : RW P (s :: l) st K := by
  simp only [RW, hgd, stepE, hop]
  refine callE_of hcb hsem md hk ksA ksO ?_
  unfold callP at *
  split at h
  · obtain ⟨h1, h2⟩ := h
    refine ⟨h1, ?_⟩
    split at h2
    · obtain ⟨a1, a2, a3, a4, a5, a6, a7, a8, a9, a10, rfl⟩ := h2
      exact ⟨a1, a2, a3, a4, a5, a6, a7, a8, a9, a10, hf, hK⟩
    · exact h2.elim
  · exact h.elim
end
end Go.H
end
section
set_option linter.unusedSimpArgs false
namespace Go.H
open Go
attribute [go_sem] bornE bornL T.esz hdT tlT zTs tvL tv1 tvH tvTl obL obTl ss sx sh sk sxk sg rg isnW St.F St.M CW RW stepE guardE valE valO qO ev evL initS obML argMs argM argVs argV cV cVc cVL cML cM ownV ownM ownVL ownML T.toV T.toVL initF List.map List.append List.append_nil List.nil_append List.cons_append look St.app updM St.keep keepM delMs freshN wantS unF gus memN Option.map V.un V.gu mergeU binO arith endX collR resV collO obLen giveV V.toT V.toT0 distN Option.bind partV liveD callP giveAs giveA giveC giveCs giveT giveTs roT roTs okD giveOs shOk tvOks tvOk obOks szOk callF retV tvVs tvV tvMs tvM lentM lentN List.length if_false if_true true_and and_true or_true true_or Bool.and_self Bool.and_true Bool.true_and decide_true implies_true imp_self and_self beq_true Bool.cond_false_right ge_iff_le List.take List.drop List.getElem?_cons_zero List.getElem?_cons_succ Arg.ro
end Go.H
end
section
set_option linter.unusedSimpArgs false
set_option linter.unusedVariables false
namespace Go.H
open Go
section
variable {P : Program} [Inv P]
theorem sq_n {b : SC} {Q : Ex → St → Prop} {st : St} (h : CW P b Q st) : seqQ P b Q .normal st := h
theorem sq_e {b : SC} {Q : Ex → St → Prop} {st : St} {i : Nat} (h : Q (.exit i) st) : seqQ P b Q (.exit i) st := h
theorem sq_r {b : SC} {Q : Ex → St → Prop} {st : St} (h : Q .ret st) : seqQ P b Q .ret st := h
theorem bk_n {id : Nat} {Q : Ex → St → Prop} {st : St} (h : Q .normal st) : blkQ id Q .normal st := h
theorem bk_i {id : Nat} {Q : Ex → St → Prop} {st : St} (h : Q .normal st) : blkQ id Q (.exit id) st := by simp only [blkQ, if_true]; exact h
theorem bk_o {id i : Nat} {Q : Ex → St → Prop} {st : St} (hn : Nat.beq i id = false) (h : Q (.exit i) st) : blkQ id Q (.exit i) st := by
  have : i ≠ id := fun e => by subst e; simp at hn
  simp only [blkQ, if_neg this]; exact h
theorem bk_r {id : Nat} {Q : Ex → St → Prop} {st : St} (h : Q .ret st) : blkQ id Q .ret st := h
theorem lp_e {α : Type} {S : α → St} {m : α → Nat} {I : α → Prop} {n : Nat} {Q : Ex → St → Prop} {st : St} {i : Nat} (h : Q (.exit i) st) : lpQ S m I n Q (.exit i) st := h
theorem lp_r {α : Type} {S : α → St} {m : α → Nat} {I : α → Prop} {n : Nat} {Q : Ex → St → Prop} {st : St} (h : Q .ret st) : lpQ S m I n Q .ret st := h
theorem CW_eq {c : SC} {Q : Ex → St → Prop} {st st' : St} (e : st = st') (h : CW P c Q st') : CW P c Q st := e ▸ h
theorem stepJ_mono {J : Option (Nat × Nat)} {s : SOp} {F : Nat → Option V} {M : Nat → Option Mem} {K K' : Eff → Prop} (hk : ∀ e, K e → K' e) (h : stepJ P J s F M K) : stepJ P J s F M K' := by
  unfold stepJ at *
  split at h
  · exact stepE_mono hk h
  · split at h
    · unfold ldJ at *
      split at h
      · exact ⟨h.1, h.2.1, h.2.2.1, h.2.2.2.1, h.2.2.2.2.1, hk _ h.2.2.2.2.2⟩
      · split at h
        · rename_i hx
          split at h
          · rename_i hl hh
            exact ⟨h.1, h.2.1, h.2.2.1, h.2.2.2.1, h.2.2.2.2.1, h.2.2.2.2.2.1, hk _ h.2.2.2.2.2.2⟩
          · exact h.elim
        · exact h.elim
      · exact h.elim
    · exact stepE_mono hk h
theorem DW_mono {J : Option (Nat × Nat)} : ∀ {l : List SOp} {st : St} {K K' : St → Prop}, (∀ s, K s → K' s) → DW P J l st K → DW P J l st K'
  | [], st, K, K', hk, h => hk _ h
  | s :: l, st, K, K', hk, h => by
    simp only [DW] at *
    split at h
    · exact stepJ_mono (fun e h => ⟨h.1, h.2.1, h.2.2.1, h.2.2.2.1, DW_mono hk h.2.2.2.2⟩) h
    · split at h
      · exact guardE_mono (fun v h => DW_mono hk h) h
      · exact h
theorem DW_app {J : Option (Nat × Nat)} : ∀ {l l2 : List SOp} {st : St} {K : St → Prop}, DW P J l st (fun st' => DW P J l2 st' K) → DW P J (l ++ l2) st K
  | [], l2, st, K, h => h
  | s :: l, l2, st, K, h => by
    simp only [DW, List.cons_append] at *
    split at h
    · exact stepJ_mono (fun e h => ⟨h.1, h.2.1, h.2.2.1, h.2.2.2.1, DW_app h.2.2.2.2⟩) h
    · split at h
      · exact guardE_mono (fun v h => DW_app h) h
      · exact h
theorem DW_cut {J : Option (Nat × Nat)} (n : Nat) {l : List SOp} {st st1 : St} {K : St → Prop} (h : DW P J (l.take n) st (fun s => s = st1)) (hK : DW P J (l.drop n) st1 K) : DW P J l st K := by
  have := DW_app (l := l.take n) (l2 := l.drop n) (DW_mono (fun s e => by subst e; exact hK) h)
  rwa [List.take_append_drop] at this
theorem W_drw {l : List SOp} {lv : Option (List Nat × List Nat)} {b : SC} {Q : Ex → St → Prop} {st st1 : St} (hJ : jOf l = none) (h : DW P none l st (fun s => s.keep lv = st1)) (hK : CW P b Q st1) : CW P (.seq (.reg true l lv) b) Q st := by
  refine CW_seq (CW_drw hJ (DW_mono (fun s e => ?_) h))
  subst e
  exact hK
theorem W_drwn {l : List SOp} {lv : Option (List Nat × List Nat)} {Q : Ex → St → Prop} {st st1 : St} (hJ : jOf l = none) (h : DW P none l st (fun s => s.keep lv = st1)) (hK : Q .normal st1) : CW P (.reg true l lv) Q st := by
  refine CW_drw hJ (DW_mono (fun s e => ?_) h)
  subst e
  exact hK
theorem DW_call {J : Option (Nat × Nat)} {s : SOp} {l : List SOp} {st : St} {K : St → Prop} {fo : Opd} {args : List (Opd × Option Nat)} {f : FuncId} {as : List Arg} {L : List Ob} {rs : List TV} {L' : List Ob} {e : Eff} (hcb : callB P f = true) (hsem : SemX P f as L rs L') (md : Bool) (hk ksA ksO : List Nat) (hop : s.op = .call fo args) (hgd : s.gd = none) (h11n : ¬ s.h = 11)
    (h : callP (onlyN s.lk st.F) (onlyN s.rk st.M) s.key fo args f as L rs L' md hk ksA ksO (fun x => x = e)) (hj : keepS J s e.wm) (hf : (freshN st.bn e.nk && (subN (e.wm.map (·.1)) s.wk && subN e.nk s.wk)) = true) (hK : DW P J l (st.app s.dst e) K) : DW P J (s :: l) st K := by
  simp only [DW, hgd]
  have e0 : ∀ K2, stepE P s (onlyN s.lk st.F) (onlyN s.rk st.M) K2 → stepJ P J s (onlyN s.lk st.F) (onlyN s.rk st.M) K2 := fun K2 h2 => by
    unfold stepJ
    split
    · exact h2
    · split
      · rename_i h11; exact absurd h11 h11n
      · exact h2
  refine e0 _ ?_
  simp only [stepE, hop]
  refine callE_of hcb hsem md hk ksA ksO ?_
  simp only [Bool.and_eq_true] at hf
  obtain ⟨hf1, hf2, hf3⟩ := hf
  unfold callP at *
  split at h
  · obtain ⟨h1, h2⟩ := h
    refine ⟨h1, ?_⟩
    split at h2
    · obtain ⟨a1, a2, a3, a4, a5, a6, a7, a8, a9, a10, rfl⟩ := h2
      exact ⟨a1, a2, a3, a4, a5, a6, a7, a8, a9, a10, hf1, hf2, hf3, hj, hK⟩
    · exact h2.elim
  · exact h.elim
def setL {β : Type} (k : Nat) (y : β) : List (Nat × β) → List (Nat × β)
  | [] => [(k, y)]
  | (a, x) :: l => if k = a then (k, y) :: l else (a, x) :: setL k y l
def setLs {β : Type} : List (Nat × β) → List (Nat × β) → List (Nat × β)
  | [], l => l
  | (k, y) :: ys, l => setLs ys (setL k y l)
def St.set (st : St) (fs : List (Nat × V)) (ms : List (Nat × Mem)) : St := ⟨setLs fs st.fr, setLs ms st.ms, st.bn⟩
theorem CW_loopS {α : Type} {c : SC} {Q : Ex → St → Prop} {st : St} (f : α → List (Nat × V)) (g : α → List (Nat × Mem)) (m : α → Nat) (I : α → Prop) (x0 : α) (ρ : List (Nat × Nat)) (h0 : fit ρ st (st.set (f x0) (g x0))) (hi : I x0)
    (hr : ∀ x, I x → CW P c (lpQ (fun x => st.set (f x) (g x)) m I (m x) Q) (st.set (f x) (g x))) : CW P (.loop c) Q st := CW_loop (fun x => st.set (f x) (g x)) m I x0 ρ h0 hi hr
end
attribute [go_sem] setL setLs St.set fit lentB injN fitF fitM V.inK V.inKL Dep.inK V.ren V.renL Dep.ren rn bytesR DW stepJ_none stepJ ldJ keepS_none keepS arrJ keepJ okJ onlyN subN bslE appE srcE fillO toTs chunk liveO V.cells List.replicate List.flatten storeE takeE mksE boxE delM Nat.le_refl List.take_length Bool.not_false Nat.zero_add false_or or_false List.set List.all
def sd (d : Option Nat) (h key : Nat) (df : List T) (op : AOp) : SOp := ⟨d, op, none, [], h, key, df, [], [], []⟩
section
variable {P : Program} {E : Env} {nt : Nat} {s : SF} {g : Gh} {a : Act} {w : World}
theorem Sim.back (hs : Sim E nt s g a w) {κ i j key : Nat} {A A' : Arr} {r : List T} {v : Value} (hA : s.M κ = some (.arr A)) (hv : VRep w g (.hm κ A.ver i j key A'.rows.length) v) (hB : s.M key = some (.arr A')) (hne : κ ≠ key) (hr : A.rows[i]? = some r) (hj : j < A.sz) :
    ∃ g', Sim E nt ⟨s.F, fun x => if x = κ then some (.arr ⟨A.sz, A.rows.set i (r.take j ++ [.sl true A'.sz A'.rows] ++ r.drop (j + 1)), A.ver + 1, A.cap⟩) else if x = key then none else s.M x, fun x => x = κ ∨ s.B x⟩ g' a w := by
  obtain ⟨b', cap', cur, e, hab', hfp, hh, hfit, hlc, hmx, hrow, hrl, _⟩ := row_cells (hs.mem κ _ hA) hr
  obtain ⟨base, cap, habk, htopk, hownk, hck⟩ := hs.mem key _ hB
  have htop : g.top κ = A.ver := by obtain ⟨_, _, _, h, _⟩ := hs.mem κ _ hA; exact h
  have hcapc : ∀ c, A.cap = some c → c = cap' := by
    obtain ⟨_, _, hab3, _, _, h⟩ := hs.mem κ _ hA
    rw [hab'] at hab3
    cases hab3
    exact h
  simp only [VRep] at hv
  obtain ⟨⟨base2, cap2, sz2, hab2, hl2, hv2⟩, _, hcell⟩ := hv
  rw [habk] at hab2
  cases hab2
  obtain ⟨b, cap3, sz3, hab3, hfp3, hlt3, hc3⟩ := hcell (by simp only [live]; exact htop.symm)
  rw [hab'] at hab3
  cases hab3
  obtain ⟨hi, _⟩ := List.getElem?_eq_some_iff.1 hr
  have hoff : i * A.sz + j + 1 ≤ A.rows.length * A.sz := by
    have h3 : (i + 1) * A.sz ≤ A.rows.length * A.sz := Nat.mul_le_mul_right _ hi
    rw [Nat.add_mul] at h3
    omega
  have hcv : cur.toList[i * A.sz + j]? = some v := by
    simp only [World.cell?, hh] at hc3
    simpa using hc3
  have hown' : OwL w g.fz [.sl true A'.sz A'.rows] (g.fp key) [v] := by
    simp only [OwL]
    refine ⟨v, [], g.fp key, fun _ => False, rfl, fun b hb => ⟨hb, fun h => h⟩, fun b h => h.elim, ?_, rfl⟩
    rw [hv2]
    exact hownk
  have hrows' := hrow.put (w' := w) (ts := [.sl true A'.sz A'.rows]) hr (by simp; omega : j + [T.sl true A'.sz A'.rows].length ≤ A.sz) (Nat.le_refl _) (fun c hc hf => rfl) (fun c hc _ => rfl) hown' (fun x hx hx2 => hne (hs.disj κ key x (.inr hx2.1) (.inr hx)))
  have hL : (cur.toList.take (A.rows.length * A.sz)).take (i * A.sz + j) ++ [v] ++ (cur.toList.take (A.rows.length * A.sz)).drop (i * A.sz + j + 1) = cur.toList.take (A.rows.length * A.sz) := by
    have h1 : (cur.toList.take (A.rows.length * A.sz))[i * A.sz + j]? = some v := by
      rw [List.getElem?_take, if_pos (by omega)]; exact hcv
    obtain ⟨h2, h3⟩ := List.getElem?_eq_some_iff.1 h1
    rw [List.append_assoc, ← h3, List.singleton_append, List.getElem_cons_drop, List.take_append_drop]
  have hnew : OwT w g.fz (.sl true A.sz (A.rows.set i (r.take j ++ [.sl true A'.sz A'.rows] ++ r.drop (j + 1)))) (fun x => g.fp κ x ∨ g.fp key x) (.slice (some ⟨b', 0, none⟩) (A.rows.set i (r.take j ++ [.sl true A'.sz A'.rows] ++ r.drop (j + 1))).length cap') := by
    simp only [OwT]
    refine ⟨_, cap', by simp, by simpa using hlc, hmx, .inr ⟨b', cur, e, rfl, .inl hfp, hh, hfit, ?_⟩⟩
    rw [List.length_set]
    simp only [List.length_singleton] at hrows'
    rw [hL] at hrows'
    exact hrows'.sub fun x hx => by
      rcases hx with hx | hx
      · exact ⟨.inl hx.1, hx.2⟩
      · exact ⟨.inr hx, fun ee => by subst ee; exact hne (hs.disj κ key x (.inr hfp) (.inr hx))⟩
  obtain ⟨g', h', _⟩ := hs.setArr (w' := w) κ [key] (A := ⟨A.sz, A.rows.set i (r.take j ++ [.sl true A'.sz A'.rows] ++ r.drop (j + 1)), A.ver + 1, A.cap⟩) (S := fun x => g.fp κ x ∨ g.fp key x) (base := some ⟨b', 0, none⟩) (cap := cap')
    rfl rfl rfl (Nat.le_refl _) (.inl ⟨A, hA, hab', rfl⟩) (fun x hx => by simp at hx; subst hx; exact ⟨Ne.symm hne, A', hB⟩) (fun c hc hn1 hn2 => rfl)
    (fun c hc => by
      rcases hc with hc | hc
      · exact ⟨(hs.ownlt κ c (.inr hc)).1, .inl hc⟩
      · exact ⟨(hs.ownlt key c (.inr hc)).1, .inr (.inl ⟨key, by simp, hc⟩)⟩) hnew hcapc
  exact ⟨g', by simpa using h'⟩
theorem Sim.backV (hs : Sim E nt s g a w) {κ i j key : Nat} {A A' : Arr} {r : List T} {v u0 : Value} (hA : s.M κ = some (.arr A)) (hv : VRep w g (.hv key A'.rows.length v) u0) (hB : s.M key = some (.arr A')) (hne : κ ≠ key) (hr : A.rows[i]? = some r) (hjv : r[j]? = some (.val v)) :
    ∃ g', Sim E nt ⟨s.F, fun x => if x = κ then some (.arr ⟨A.sz, A.rows.set i (r.take j ++ [.sl true A'.sz A'.rows] ++ r.drop (j + 1)), A.ver + 1, A.cap⟩) else if x = key then none else s.M x, fun x => x = κ ∨ s.B x⟩ g' a w := by
  obtain ⟨b', cap', cur, e, hab', hfp, hh, hfit, hlc, hmx, hrow, hrl, _⟩ := row_cells (hs.mem κ _ hA) hr
  obtain ⟨base, cap, habk, htopk, hownk, hck⟩ := hs.mem key _ hB
  have htop : g.top κ = A.ver := by obtain ⟨_, _, _, h, _⟩ := hs.mem κ _ hA; exact h
  have hcapc : ∀ c, A.cap = some c → c = cap' := by
    obtain ⟨_, _, hab3, _, _, h⟩ := hs.mem κ _ hA
    rw [hab'] at hab3
    cases hab3
    exact h
  simp only [VRep] at hv
  obtain ⟨rfl, base2, cap2, sz2, hab2, hl2, hv2⟩ := hv
  rw [habk] at hab2
  cases hab2
  have hj : j < A.sz := by
    obtain ⟨h, _⟩ := List.getElem?_eq_some_iff.1 hjv
    omega
  obtain ⟨hi, _⟩ := List.getElem?_eq_some_iff.1 hr
  have hoff : i * A.sz + j + 1 ≤ A.rows.length * A.sz := by
    have h3 : (i + 1) * A.sz ≤ A.rows.length * A.sz := Nat.mul_le_mul_right _ hi
    rw [Nat.add_mul] at h3
    omega
  have hcv : cur.toList[i * A.sz + j]? = some u0 := by
    obtain ⟨_, _, u, _, _, hcell, hown, _⟩ := hrow.pick hr hjv
    simp only [OwT] at hown
    subst hown
    rw [List.getElem?_take] at hcell
    split at hcell
    · exact hcell
    · cases hcell
  have hown' : OwL w g.fz [.sl true A'.sz A'.rows] (g.fp key) [u0] := by
    simp only [OwL]
    refine ⟨u0, [], g.fp key, fun _ => False, rfl, fun b hb => ⟨hb, fun h => h⟩, fun b h => h.elim, ?_, rfl⟩
    rw [hv2]
    exact hownk
  have hrows' := hrow.put (w' := w) (ts := [.sl true A'.sz A'.rows]) hr (by simp; omega : j + [T.sl true A'.sz A'.rows].length ≤ A.sz) (Nat.le_refl _) (fun c hc hf => rfl) (fun c hc _ => rfl) hown' (fun x hx hx2 => hne (hs.disj κ key x (.inr hx2.1) (.inr hx)))
  have hL : (cur.toList.take (A.rows.length * A.sz)).take (i * A.sz + j) ++ [u0] ++ (cur.toList.take (A.rows.length * A.sz)).drop (i * A.sz + j + 1) = cur.toList.take (A.rows.length * A.sz) := by
    have h1 : (cur.toList.take (A.rows.length * A.sz))[i * A.sz + j]? = some u0 := by
      rw [List.getElem?_take, if_pos (by omega)]; exact hcv
    obtain ⟨h2, h3⟩ := List.getElem?_eq_some_iff.1 h1
    rw [List.append_assoc, ← h3, List.singleton_append, List.getElem_cons_drop, List.take_append_drop]
  have hnew : OwT w g.fz (.sl true A.sz (A.rows.set i (r.take j ++ [.sl true A'.sz A'.rows] ++ r.drop (j + 1)))) (fun x => g.fp κ x ∨ g.fp key x) (.slice (some ⟨b', 0, none⟩) (A.rows.set i (r.take j ++ [.sl true A'.sz A'.rows] ++ r.drop (j + 1))).length cap') := by
    simp only [OwT]
    refine ⟨_, cap', by simp, by simpa using hlc, hmx, .inr ⟨b', cur, e, rfl, .inl hfp, hh, hfit, ?_⟩⟩
    rw [List.length_set]
    simp only [List.length_singleton] at hrows'
    rw [hL] at hrows'
    exact hrows'.sub fun x hx => by
      rcases hx with hx | hx
      · exact ⟨.inl hx.1, hx.2⟩
      · exact ⟨.inr hx, fun ee => by subst ee; exact hne (hs.disj κ key x (.inr hfp) (.inr hx))⟩
  obtain ⟨g', h', _⟩ := hs.setArr (w' := w) κ [key] (A := ⟨A.sz, A.rows.set i (r.take j ++ [.sl true A'.sz A'.rows] ++ r.drop (j + 1)), A.ver + 1, A.cap⟩) (S := fun x => g.fp κ x ∨ g.fp key x) (base := some ⟨b', 0, none⟩) (cap := cap')
    rfl rfl rfl (Nat.le_refl _) (.inl ⟨A, hA, hab', rfl⟩) (fun x hx => by simp at hx; subst hx; exact ⟨Ne.symm hne, A', hB⟩) (fun c hc hn1 hn2 => rfl)
    (fun c hc => by
      rcases hc with hc | hc
      · exact ⟨(hs.ownlt κ c (.inr hc)).1, .inl hc⟩
      · exact ⟨(hs.ownlt key c (.inr hc)).1, .inr (.inl ⟨key, by simp, hc⟩)⟩) hnew hcapc
  exact ⟨g', by simpa using h'⟩
def dstN : Option Tmp → Nat → Bool
  | some d, t => !Nat.beq d t
  | none, _ => true
theorem dstN_ok {d : Option Tmp} {t : Nat} (h : dstN d t = true) : d ≠ some t := by
  intro e
  subst e
  simp [dstN] at h
theorem EffS.back {o : Oper} {F : Nat → Option V} {M : Nat → Option Mem} {e : Eff} (he : EffS P E nt o F M e) {t κ i j key : Nat} {A A' : Arr} {df : List T} (hF : F t = some (.hm κ A.ver i j key A'.rows.length)) (hM : M κ = some (.arr A)) (hw : look κ e.wm = none) (hk : look key e.wm = some (some (.arr A'))) (hne : κ ≠ key) (hi : i < A.rows.length) (hj : j < A.sz) (hd : o.dst ≠ some t) :
    EffS P E nt o F M ⟨e.val, (κ, some (.arr ⟨A.sz, A.rows.set i ((A.rows.getD i df).take j ++ [.sl true A'.sz A'.rows] ++ (A.rows.getD i df).drop (j + 1)), A.ver + 1, A.cap⟩)) :: (key, none) :: e.wm, e.nk⟩ := by
  intro s hsub hnk g a w hs K Q hK
  refine he s hsub hnk g a w hs K Q fun g' a' w' h' => ?_
  have hMκ : (s.app o.dst e).M κ = some (.arr A) := by
    simp only [SF.app, hw]; exact hsub.2 _ _ hM
  have hMk : (s.app o.dst e).M key = some (.arr A') := by
    simp only [SF.app, hk]
  have hFt : (s.app o.dst e).F t = some (.hm κ A.ver i j key A'.rows.length) := by
    cases hdd : o.dst with
    | none => simp only [SF.app]; exact hsub.1 _ _ hF
    | some d =>
      have : t ≠ d := fun ee => hd (by rw [hdd, ee])
      simp only [SF.app, SF.put, if_neg this]; exact hsub.1 _ _ hF
  obtain ⟨g2, h2⟩ := h'.back hMκ (h'.frame t _ hFt) hMk hne (getD_some (df := df) hi) hj
  refine hK g2 a' w' ?_
  refine { h2.memEq (M' := (s.app o.dst ⟨e.val, (κ, some (.arr ⟨A.sz, A.rows.set i ((A.rows.getD i df).take j ++ [.sl true A'.sz A'.rows] ++ (A.rows.getD i df).drop (j + 1)), A.ver + 1, A.cap⟩)) :: (key, none) :: e.wm, e.nk⟩).M) (B' := (s.app o.dst e).B) (funext fun y => ?_) (fun y => ?_) with }
  · simp only [SF.app, look]
    by_cases e1 : y = κ
    · subst e1; simp
    · by_cases e2 : y = key
      · subst e2; simp [e1]
      · simp [e1, e2]
  · constructor
    · rintro (rfl | h)
      · exact (h'.arrK hMκ).2
      · exact h
    · exact .inr
theorem EffS.backV {o : Oper} {F : Nat → Option V} {M : Nat → Option Mem} {e : Eff} (he : EffS P E nt o F M e) {t q κ i j key len : Nat} {A A' : Arr} {df : List T} {cells : List V} {v : Value} (hF : F t = some (.agg cells)) (hq : cells[q]? = some (.hv key len v)) (hl : A'.rows.length = len) (hM : M key = some (.arr A')) (hkn : look key e.wm = none) (hk : look κ e.wm = some (some (.arr A))) (hne : κ ≠ key) (hi : i < A.rows.length) (hj : (A.rows.getD i df)[j]? = some (.val v)) (hd : o.dst ≠ some t) :
    EffS P E nt o F M ⟨e.val, (κ, some (.arr ⟨A.sz, A.rows.set i ((A.rows.getD i df).take j ++ [.sl true A'.sz A'.rows] ++ (A.rows.getD i df).drop (j + 1)), A.ver + 1, A.cap⟩)) :: (key, none) :: e.wm, e.nk⟩ := by
  intro s hsub hnk g a w hs K Q hK
  refine he s hsub hnk g a w hs K Q fun g' a' w' h' => ?_
  have hMκ : (s.app o.dst e).M κ = some (.arr A) := by
    simp only [SF.app, hk]
  have hMk : (s.app o.dst e).M key = some (.arr A') := by
    simp only [SF.app, hkn]; exact hsub.2 _ _ hM
  have hFt : (s.app o.dst e).F t = some (.agg cells) := by
    cases hdd : o.dst with
    | none => simp only [SF.app]; exact hsub.1 _ _ hF
    | some d =>
      have : t ≠ d := fun ee => hd (by rw [hdd, ee])
      simp only [SF.app, SF.put, if_neg this]; exact hsub.1 _ _ hF
  have hv0 := h'.frame t _ hFt
  simp only [VRep] at hv0
  obtain ⟨cs, _, hcs⟩ := hv0
  obtain ⟨u0, _, hu0⟩ := hcs.get hq
  subst hl
  obtain ⟨g2, h2⟩ := h'.backV hMκ hu0 hMk hne (getD_some (df := df) hi) hj
  refine hK g2 a' w' ?_
  refine { h2.memEq (M' := (s.app o.dst ⟨e.val, (κ, some (.arr ⟨A.sz, A.rows.set i ((A.rows.getD i df).take j ++ [.sl true A'.sz A'.rows] ++ (A.rows.getD i df).drop (j + 1)), A.ver + 1, A.cap⟩)) :: (key, none) :: e.wm, e.nk⟩).M) (B' := (s.app o.dst e).B) (funext fun y => ?_) (fun y => ?_) with }
  · simp only [SF.app, look]
    by_cases e1 : y = κ
    · subst e1; simp
    · by_cases e2 : y = key
      · subst e2; simp [e1]
      · simp [e1, e2]
  · constructor
    · rintro (rfl | h)
      · exact (h'.arrK hMκ).2
      · exact h
    · exact .inr
def backVE (F : Nat → Option V) (M : Nat → Option Mem) (t q κ i j : Nat) (df : List T) (e : Eff) (K : Eff → Prop) : Prop :=
  match F t with
  | some (.agg cells) => match cells[q]? with
    | some (.hv key len v) => match look κ e.wm, M key, look key e.wm with
      | some (some (.arr A)), some (.arr A'), none => A'.rows.length = len ∧ κ ≠ key ∧ i < A.rows.length ∧ (A.rows.getD i df)[j]? = some (.val v) ∧ K ⟨e.val, (κ, some (.arr ⟨A.sz, A.rows.set i ((A.rows.getD i df).take j ++ [.sl true A'.sz A'.rows] ++ (A.rows.getD i df).drop (j + 1)), A.ver + 1, A.cap⟩)) :: (key, none) :: e.wm, e.nk⟩
      | _, _, _ => False
    | _ => False
  | _ => False
def backE (F : Nat → Option V) (M : Nat → Option Mem) (t : Nat) (df : List T) (e : Eff) (K : Eff → Prop) : Prop :=
  match F t with
  | some (.hm κ n i j key len) => match M κ, look key e.wm, look κ e.wm with
    | some (.arr A), some (some (.arr A')), none => A.ver = n ∧ A'.rows.length = len ∧ κ ≠ key ∧ i < A.rows.length ∧ j < A.sz ∧ K ⟨e.val, (κ, some (.arr ⟨A.sz, A.rows.set i ((A.rows.getD i df).take j ++ [.sl true A'.sz A'.rows] ++ (A.rows.getD i df).drop (j + 1)), A.ver + 1, A.cap⟩)) :: (key, none) :: e.wm, e.nk⟩
    | _, _, _ => False
  | _ => False
end
section
variable {P : Program} [Inv P]
theorem RW_callB (t : Nat) (df : List T) {s : SOp} {l : List SOp} {st : St} {K : St → Prop} {fo : Opd} {args : List (Opd × Option Nat)} {f : FuncId} {as : List Arg} {L : List Ob} {rs : List TV} {L' : List Ob} {e e2 : Eff} (hcb : callB P f = true) (hsem : SemX P f as L rs L') (md : Bool) (hk ksA ksO : List Nat) (hop : s.op = .call fo args) (hgd : s.gd = none)
    (h : callP st.F st.M s.key fo args f as L rs L' md hk ksA ksO (fun x => x = e)) (hd : dstN s.dst t = true) (hb : backE st.F st.M t df e (fun x => x = e2)) (hf : freshN st.bn e2.nk = true) (hK : RW P l (st.app s.dst e2) K) : RW P (s :: l) st K := by
  simp only [RW, hgd, stepE, hop]
  unfold backE at hb
  split at hb
  · rename_i κ n i j key len hF
    split at hb
    · rename_i A A' hM hke hkn
      obtain ⟨rfl, rfl, b3, b4, b5, rfl⟩ := hb
      have h0 : callE P st.F st.M s.dst s.key fo args (fun x => x = e) .mk := by
        refine callE_of hcb hsem md hk ksA ksO ?_
        exact h
      obtain ⟨e', rfl, he⟩ := h0
      refine ⟨_, ⟨hf, hK⟩, fun E nt o h1 h2 h3 h4 => (he E nt o h1 h2 h3 h4).back hF hM hkn hke b3 b4 b5 ?_⟩
      rw [h3]
      exact dstN_ok hd
    · exact hb.elim
  · exact hb.elim
theorem RW_callV (t q κ i j : Nat) (df : List T) {s : SOp} {l : List SOp} {st : St} {K : St → Prop} {fo : Opd} {args : List (Opd × Option Nat)} {f : FuncId} {as : List Arg} {L : List Ob} {rs : List TV} {L' : List Ob} {e e2 : Eff} (hcb : callB P f = true) (hsem : SemX P f as L rs L') (md : Bool) (hk ksA ksO : List Nat) (hop : s.op = .call fo args) (hgd : s.gd = none)
    (h : callP st.F st.M s.key fo args f as L rs L' md hk ksA ksO (fun x => x = e)) (hd : dstN s.dst t = true) (hb : backVE st.F st.M t q κ i j df e (fun x => x = e2)) (hf : freshN st.bn e2.nk = true) (hK : RW P l (st.app s.dst e2) K) : RW P (s :: l) st K := by
  simp only [RW, hgd, stepE, hop]
  unfold backVE at hb
  split at hb
  · rename_i cells hF
    split at hb
    · rename_i key len v hq
      split at hb
      · rename_i A A' hke hM hkn
        obtain ⟨b1, b2, b3, b4, rfl⟩ := hb
        have h0 : callE P st.F st.M s.dst s.key fo args (fun x => x = e) .mk := by
          refine callE_of hcb hsem md hk ksA ksO ?_
          exact h
        obtain ⟨e', rfl, he⟩ := h0
        refine ⟨_, ⟨hf, hK⟩, fun E nt o h1 h2 h3 h4 => (he E nt o h1 h2 h3 h4).backV hF hq b1 hM hkn hke b2 b3 b4 ?_⟩
        rw [h3]
        exact dstN_ok hd
      · exact hb.elim
    · exact hb.elim
  · exact hb.elim
theorem RW_takeV {s : SOp} {l : List SOp} {st : St} {K : St → Prop} {x : Opd} {n : Nat} {agg : Bool} (E0 : Value → Eff) (hop : s.op = .load x n agg) (hh : s.h = 5) (hgd : s.gd = none) (h : takeVE st.F st.M s.key s.df s.ug x n agg (fun e => ∃ v, e = E0 v)) (hf : ∀ v, freshN st.bn (E0 v).nk = true) (hK : ∀ v, RW P l (st.app s.dst (E0 v)) K) : RW P (s :: l) st K := by
  simp only [RW, hgd, hop, hh]
  refine takeVE_mono (fun e he => ?_) h
  obtain ⟨v, rfl⟩ := he
  exact ⟨hf v, hK v⟩
theorem RW_isn {s : SOp} {l : List SOp} {st : St} {K : St → Prop} {ng : Bool} {x : Opd} (Q : Bool → Prop) (hop : s.op = .isn ng x) (hgd : s.gd = none) (h : isnW st.F st.M ng x Q) (hK : ∀ b, Q b → RW P l (st.app s.dst ⟨.bool b, [], []⟩) K) : RW P (s :: l) st K := by
  simp only [RW, hgd, hop]
  exact isnW_mono hK h
theorem RW_ls {l l' : List SOp} {st : St} {K : St → Prop} (e : l = l') (h : RW P l' st K) : RW P l st K := e ▸ h
theorem DW_ls {J : Option (Nat × Nat)} {l l' : List SOp} {st : St} {K : St → Prop} (e : l = l') (h : DW P J l' st K) : DW P J l st K := e ▸ h
theorem RW_nil {st : St} {K : St → Prop} (h : K st) : RW P [] st K := h
theorem RW_callG {s : SOp} {l : List SOp} {st : St} {K : St → Prop} {fo : Opd} {args : List (Opd × Option Nat)} {f : FuncId} {as : List Arg} {rs : List TV} {v : V} {gd : Tmp × Bool} {c : Bool} (hcb : callB P f = true) (hsem : SemX P f as [] rs []) (md : Bool) (hop : s.op = .call fo args) (hgd : s.gd = some gd) (hw : wantS st.F (some gd) = some c)
    (h : c = true → gus st.F c s.ug ∧ callP (unF s.ug st.F) st.M s.key fo args f as [] rs [] md [] [] [] (fun x => x = ⟨v, [], []⟩)) (hK : RW P l (st.app s.dst ⟨.opt c v, [], []⟩) K) (h14 : Nat.beq s.h 14 = false) : RW P (s :: l) st K := by
  simp only [RW, hgd, hw, guardE, hop]
  split
  · rename_i e
    rw [e] at h14
    cases h14
  exact ⟨v, fun hc => ⟨(h hc).1, callE_of hcb hsem md [] [] [] (h hc).2⟩, hK⟩
theorem RW_callGC {s : SOp} {l : List SOp} {st st1 st0 : St} {K : St → Prop} {fo : Opd} {args : List (Opd × Option Nat)} {f : FuncId} {as : List Arg} {L : List Ob} {rs : List TV} {L' : List Ob} {e : Eff} {gd : Tmp × Bool} {c : Bool} (hcb : callB P f = true) (hsem : c = true → SemX P f as L rs L') (md : Bool) (hk ksA ksO : List Nat) (hop : s.op = .call fo args) (hgd : s.gd = some gd) (h14 : s.h = 14) (hw : wantS st.F (some gd) = some c)
    (h : c = true → gus st.F c s.ug ∧ callP (unF s.ug st.F) st.M s.key fo args f as L rs L' md hk ksA ksO (fun x => x = e)) (hf : freshN st.bn e.nk = true) (hst1 : st.app s.dst ⟨.opt true e.val, e.wm, e.nk⟩ = st1) (hst0 : st.app s.dst ⟨.opt false .undef, [], []⟩ = st0)
    (k1 : c = true → RW P l st1 K) (k0 : c = false → RW P l st0 K) : RW P (s :: l) st K := by
  subst hst1 hst0
  simp only [RW, hgd, hw, hop, h14]
  refine ⟨fun hc => ⟨(h hc).1, callE_of hcb (hsem hc) md hk ksA ksO ?_⟩, k0⟩
  have h2 := (h hc).2
  unfold callP at h2 ⊢
  split at h2
  · obtain ⟨h3, h4⟩ := h2
    refine ⟨h3, ?_⟩
    split at h4
    · obtain ⟨a1, a2, a3, a4, a5, a6, a7, a8, a9, a10, rfl⟩ := h4
      exact ⟨a1, a2, a3, a4, a5, a6, a7, a8, a9, a10, hf, k1 hc⟩
    · exact h4.elim
  · exact h2.elim
theorem DW_callG {J : Option (Nat × Nat)} {s : SOp} {l : List SOp} {st : St} {K : St → Prop} {fo : Opd} {args : List (Opd × Option Nat)} {f : FuncId} {as : List Arg} {rs : List TV} {v : V} {gd : Tmp × Bool} {c : Bool} (hcb : callB P f = true) (hsem : SemX P f as [] rs []) (md : Bool) (hop : s.op = .call fo args) (hgd : s.gd = some gd) (hw : wantS (onlyN s.lk st.F) (some gd) = some c)
    (h : c = true → gus (onlyN s.lk st.F) c s.ug ∧ callP (unF s.ug (onlyN s.lk st.F)) (onlyN s.rk st.M) s.key fo args f as [] rs [] md [] [] [] (fun x => x = ⟨v, [], []⟩)) (hK : DW P J l (st.app s.dst ⟨.opt c v, [], []⟩) K) : DW P J (s :: l) st K := by
  simp only [DW, hgd, hw, guardE, hop]
  exact ⟨v, fun hc => ⟨(h hc).1, callE_of hcb hsem md [] [] [] (h hc).2⟩, hK⟩
end
section
variable {P : Program} [Inv P]
theorem RW_callN {s : SOp} {l : List SOp} {st st2 : St} {K : St → Prop} {fo : Opd} {args : List (Opd × Option Nat)} {f : FuncId} {as : List Arg} {L : List Ob} {rs : List TV} {L' : List Ob} {e : Eff} (hcb : callB P f = true) (hsem : SemX P f as L rs L') (md : Bool) (hk ksA ksO : List Nat) (hop : s.op = .call fo args) (hgd : s.gd = none)
    (h : callP st.F st.M s.key fo args f as L rs L' md hk ksA ksO (fun x => x = e)) (hf : freshN st.bn e.nk = true) (hst : st.app s.dst e = st2) (hK : RW P l st2 K) : RW P (s :: l) st K := RW_call hcb hsem md hk ksA ksO hop hgd h hf (hst ▸ hK)
theorem DW_callN {J : Option (Nat × Nat)} {s : SOp} {l : List SOp} {st st2 : St} {K : St → Prop} {fo : Opd} {args : List (Opd × Option Nat)} {f : FuncId} {as : List Arg} {L : List Ob} {rs : List TV} {L' : List Ob} {e : Eff} (hcb : callB P f = true) (hsem : SemX P f as L rs L') (md : Bool) (hk ksA ksO : List Nat) (hop : s.op = .call fo args) (hgd : s.gd = none) (h11n : ¬ s.h = 11) (hj : keepS J s e.wm)
    (h : callP (onlyN s.lk st.F) (onlyN s.rk st.M) s.key fo args f as L rs L' md hk ksA ksO (fun x => x = e)) (hf : (freshN st.bn e.nk && (subN (e.wm.map (·.1)) s.wk && subN e.nk s.wk)) = true) (hst : st.app s.dst e = st2) (hK : DW P J l st2 K) : DW P J (s :: l) st K := DW_call hcb hsem md hk ksA ksO hop hgd h11n h hj hf (hst ▸ hK)
theorem RW_callBN (t : Nat) (df : List T) {s : SOp} {l : List SOp} {st st2 : St} {K : St → Prop} {fo : Opd} {args : List (Opd × Option Nat)} {f : FuncId} {as : List Arg} {L : List Ob} {rs : List TV} {L' : List Ob} {e e2 : Eff} (hcb : callB P f = true) (hsem : SemX P f as L rs L') (md : Bool) (hk ksA ksO : List Nat) (hop : s.op = .call fo args) (hgd : s.gd = none)
    (h : callP st.F st.M s.key fo args f as L rs L' md hk ksA ksO (fun x => x = e)) (hd : dstN s.dst t = true) (hb : backE st.F st.M t df e (fun x => x = e2)) (hf : freshN st.bn e2.nk = true) (hst : st.app s.dst e2 = st2) (hK : RW P l st2 K) : RW P (s :: l) st K := RW_callB t df hcb hsem md hk ksA ksO hop hgd h hd hb hf (hst ▸ hK)
theorem RW_callVN (t q κ i j : Nat) (df : List T) {s : SOp} {l : List SOp} {st st2 : St} {K : St → Prop} {fo : Opd} {args : List (Opd × Option Nat)} {f : FuncId} {as : List Arg} {L : List Ob} {rs : List TV} {L' : List Ob} {e e2 : Eff} (hcb : callB P f = true) (hsem : SemX P f as L rs L') (md : Bool) (hk ksA ksO : List Nat) (hop : s.op = .call fo args) (hgd : s.gd = none)
    (h : callP st.F st.M s.key fo args f as L rs L' md hk ksA ksO (fun x => x = e)) (hd : dstN s.dst t = true) (hb : backVE st.F st.M t q κ i j df e (fun x => x = e2)) (hf : freshN st.bn e2.nk = true) (hst : st.app s.dst e2 = st2) (hK : RW P l st2 K) : RW P (s :: l) st K := RW_callV t q κ i j df hcb hsem md hk ksA ksO hop hgd h hd hb hf (hst ▸ hK)
theorem RW_takeVN {s : SOp} {l : List SOp} {st : St} {K : St → Prop} {x : Opd} {n : Nat} {agg : Bool} (E0 : Value → Eff) (S0 : Value → St) (hop : s.op = .load x n agg) (hh : s.h = 5) (hgd : s.gd = none) (h : takeVE st.F st.M s.key s.df s.ug x n agg (fun e => ∃ v, e = E0 v)) (hf : ∀ v, freshN st.bn (E0 v).nk = true) (hst : ∀ v, st.app s.dst (E0 v) = S0 v) (hK : ∀ v, RW P l (S0 v) K) : RW P (s :: l) st K := RW_takeV E0 hop hh hgd h hf fun v => hst v ▸ hK v
theorem RW_callGN {s : SOp} {l : List SOp} {st st2 : St} {K : St → Prop} {fo : Opd} {args : List (Opd × Option Nat)} {f : FuncId} {as : List Arg} {rs : List TV} {v : V} {gd : Tmp × Bool} {c : Bool} (hcb : callB P f = true) (hsem : SemX P f as [] rs []) (md : Bool) (hop : s.op = .call fo args) (hgd : s.gd = some gd) (hw : wantS st.F (some gd) = some c)
    (h : c = true → gus st.F c s.ug ∧ callP (unF s.ug st.F) st.M s.key fo args f as [] rs [] md [] [] [] (fun x => x = ⟨v, [], []⟩)) (hst : st.app s.dst ⟨.opt c v, [], []⟩ = st2) (hK : RW P l st2 K) (h14 : Nat.beq s.h 14 = false := by rfl) : RW P (s :: l) st K := RW_callG hcb hsem md hop hgd hw h (hst ▸ hK) h14
theorem DW_callGN {J : Option (Nat × Nat)} {s : SOp} {l : List SOp} {st st2 : St} {K : St → Prop} {fo : Opd} {args : List (Opd × Option Nat)} {f : FuncId} {as : List Arg} {rs : List TV} {v : V} {gd : Tmp × Bool} {c : Bool} (hcb : callB P f = true) (hsem : SemX P f as [] rs []) (md : Bool) (hop : s.op = .call fo args) (hgd : s.gd = some gd) (hw : wantS (onlyN s.lk st.F) (some gd) = some c)
    (h : c = true → gus (onlyN s.lk st.F) c s.ug ∧ callP (unF s.ug (onlyN s.lk st.F)) (onlyN s.rk st.M) s.key fo args f as [] rs [] md [] [] [] (fun x => x = ⟨v, [], []⟩)) (hst : st.app s.dst ⟨.opt c v, [], []⟩ = st2) (hK : DW P J l st2 K) : DW P J (s :: l) st K := DW_callG hcb hsem md hop hgd hw h (hst ▸ hK)
end
def dropL {β : Type} (ks : List Nat) : List (Nat × β) → List (Nat × β)
  | [] => []
  | (a, x) :: l => if memN a ks = true then dropL ks l else (a, x) :: dropL ks l
def St.drop (dt dm : List Nat) (st : St) : St := ⟨dropL dt st.fr, dropL dm st.ms, st.bn⟩
theorem CW_loopD {P : Program} [Inv P] (dt dm : List Nat) {α : Type} {c : SC} {Q : Ex → St → Prop} {st : St} (f : α → List (Nat × V)) (g : α → List (Nat × Mem)) (m : α → Nat) (I : α → Prop) (x0 : α) (ρ : List (Nat × Nat)) (h0 : fit ρ st ((St.drop dt dm st).set (f x0) (g x0))) (hi : I x0)
    (hr : ∀ x, I x → CW P c (lpQ (fun x => (St.drop dt dm st).set (f x) (g x)) m I (m x) Q) ((St.drop dt dm st).set (f x) (g x))) : CW P (.loop c) Q st := CW_loop (fun x => (St.drop dt dm st).set (f x) (g x)) m I x0 ρ h0 hi hr
attribute [go_sem] St.drop dropL
theorem tm_nil : tm [] = [] := rfl
theorem tm_cons (t : T) (l : List T) : tm (t :: l) = t :: l := rfl
attribute [go_sem] St.full roomR_len ovlE junkR St.dels St.frz frzFs frzMs V.frz V.frzL Mem.frz Nat.reduceSub cpyE cpyRE apzE cpsE clrE apsE appPE tm_nil tm_cons sd backE backVE takeVE flatBut dstN takeHE storeAE storeBE reV reVs reP rePs
def oT : Opd → List Nat
  | .t n => [n]
  | _ => []
def ooT : Option Opd → List Nat
  | some x => oT x
  | none => []
def osT : List Opd → List Nat
  | [] => []
  | x :: l => oT x ++ osT l
def AOp.tms : AOp → List Nat
  | .mv x => oT x
  | .not x => oT x
  | .neg x => oT x
  | .ext x _ => oT x
  | .fld x _ _ _ => oT x
  | .fad x _ => oT x
  | .nck x => oT x
  | .load x _ _ => oT x
  | .cvi _ x => oT x
  | .cid x => oT x
  | .cbs x => oT x
  | .csb x => oT x
  | .len x => oT x
  | .slen x => oT x
  | .cap x => oT x
  | .clr x _ => oT x
  | .box x => oT x
  | .isn _ x => oT x
  | .pick c a b => oT c ++ (oT a ++ oT b)
  | .bin _ x y => oT x ++ oT y
  | .eqa _ x y _ => oT x ++ oT y
  | .beq _ x y => oT x ++ oT y
  | .idx x y _ => oT x ++ oT y
  | .ixa x y _ _ => oT x ++ oT y
  | .six x y => oT x ++ oT y
  | .store x y _ => oT x ++ oT y
  | .app _ x y _ _ => oT x ++ oT y
  | .cpy _ x y _ => oT x ++ oT y
  | .apz x y _ _ => oT x ++ oT y
  | .mks x y _ _ => oT x ++ oT y
  | .sls x a b => oT x ++ (ooT a ++ ooT b)
  | .sll x a b c _ => oT x ++ (ooT a ++ (ooT b ++ ooT c))
  | .bld _ ps => osT (ps.map (·.2.2))
  | .bsl _ _ ps => osT (ps.map (·.2))
  | .mkf _ cs => osT cs
  | .mnx _ xs => osT xs
  | .call f as => oT f ++ osT (as.map (·.1))
  | .alloc _ => []
  | .bad => []
def insN (x : Nat) : List Nat → List Nat
  | [] => [x]
  | y :: l => match Nat.blt x y with
    | true => x :: y :: l
    | false => match Nat.beq x y with
      | true => y :: l
      | false => y :: insN x l
def uniN : List Nat → List Nat → List Nat
  | [], l => l
  | x :: xs, l => uniN xs (insN x l)
def remN (x : Nat) : List Nat → List Nat
  | [] => []
  | y :: l => match Nat.beq x y with
    | true => l
    | false => y :: remN x l
def hasN (x : Nat) : List Nat → Bool
  | [] => false
  | y :: l => match Nat.beq x y with
    | true => true
    | false => hasN x l
def subL : List Nat → List Nat → Bool
  | [], _ => true
  | x :: xs, l => match hasN x l with
    | true => subL xs l
    | false => false
def lookN (x : Nat) : List (Nat × List Nat) → List Nat
  | [] => []
  | (y, r) :: l => match Nat.beq x y with
    | true => r
    | false => lookN x l
def fixL (f : List Nat → SC × List Nat) : Nat → List Nat → SC × List Nat
  | 0, l => f l
  | n + 1, l => match f l with
    | (a, l2) => match subL l2 l with
      | true => (a, l)
      | false => fixL f n (uniN l2 l)
def lvO (s : SOp) (l : List Nat) : List Nat :=
  uniN s.op.tms (uniN (match s.gd with | some (t, _) => [t] | none => []) (match s.dst with | some d => remN d l | none => l))
def lvOs : List SOp → List Nat → List Nat
  | [], l => l
  | s :: ss, l => lvO s (lvOs ss l)
def lvC : SC → List Nat → List (Nat × List Nat) → List Nat → SC × List Nat
  | .skip, n, _, _ => (.skip, n)
  | .ret, _, _, r => (.ret, r)
  | .exit i, _, ex, _ => (.exit i, lookN i ex)
  | .reg d ops (some (_, ks)), n, _, _ => (.reg d ops (some (n, ks)), lvOs ops n)
  | .reg d ops none, n, _, _ => (.reg d ops (some (n, [])), lvOs ops n)
  | .seq a b, n, ex, r => match lvC b n ex r with
    | (b, lb) => match lvC a lb ex r with
      | (a, la) => (.seq a b, la)
  | .cond c a b, n, ex, r => match lvC a n ex r with
    | (a, la) => match lvC b n ex r with
      | (b, lb) => (.cond c a b, uniN (oT c) (uniN la lb))
  | .block id c, n, ex, r => match lvC c n ((id, n) :: ex) r with
    | (a, la) => (.block id a, la)
  | .loop c, _, ex, r => match fixL (fun l => lvC c l ex r) 6 [] with
    | (a, la) => (.loop a, la)
def tdN (P : Nat → Option TypeInfo) : TypeDesc → TypeDesc
  | .named _ u => match P u with
    | some i => i.desc
    | none => .bool
  | d => d
def tdG (P : Nat → Option TypeInfo) (t : TypeId) : TypeDesc := match P t with
  | some i => tdN P i.desc
  | none => .bool
def szG (P : Nat → Option TypeInfo) (t : TypeId) : Nat := match P t with
  | some i => i.size
  | none => 0
def byG (P : Nat → Option TypeInfo) (t : TypeId) : Nat := match P t with
  | some i => i.bytes
  | none => 0
def agG : TypeDesc → Bool
  | .struct _ => true
  | .array _ _ => true
  | _ => false
def repG (z : List V) : Nat → List V
  | 0 => []
  | n + 1 => z ++ repG z n
def zG (P : Nat → Option TypeInfo) : Nat → TypeId → List V
  | 0, _ => []
  | n + 1, t => match tdG P t with
    | .bool => [.bool false]
    | .int k => [.int k 0]
    | .string => [.str ByteArray.empty]
    | .slice _ => [.nil]
    | .pointer _ => [.lit (.pointer none)]
    | .struct fs => zGs (zG P n) fs.toList
    | .array len e => repG (zG P n e) len
    | _ => []
where zGs (f : TypeId → List V) : List Field → List V
  | [] => []
  | x :: l => f x.type ++ zGs f l
def flG (P : Nat → Option TypeInfo) : Nat → TypeId → List Nat
  | 0, _ => []
  | n + 1, t => match tdG P t with
    | .bool => [0]
    | .int _ => [1]
    | .string => [2]
    | .struct fs => flGs (flG P n) fs.toList
    | _ => []
where flGs (f : TypeId → List Nat) : List Field → List Nat
  | [] => []
  | x :: l => f x.type ++ flGs f l
def nthG {α : Type} : List α → Nat → Option α
  | [], _ => none
  | x :: _, 0 => some x
  | _ :: l, n + 1 => nthG l n
def bpG (P : Nat → Option TypeInfo) (fs : List Field) : List (Nat × Operand) → List (Nat × Nat × Opd)
  | [] => []
  | (i, o) :: l => match nthG fs i with
    | some f => (f.offset, szG P f.type, opd o) :: bpG P fs l
    | none => []
def baG (n : Nat) : List (Nat × Operand) → List (Nat × Nat × Opd)
  | [] => []
  | (i, o) :: l => (i * n, n, opd o) :: baG n l
def bsG : List (Nat × Operand) → List (Nat × Opd)
  | [] => []
  | (i, o) :: l => (i, opd o) :: bsG l
def opsG : List Operand → List Opd
  | [] => []
  | o :: l => opd o :: opsG l
def ptG (P : Nat → Option TypeInfo) (t : TypeId) : Option Nat := match tdG P t with
  | .pointer e => some (szG P e)
  | _ => none
def agsG (P : Nat → Option TypeInfo) : List Operand → List TypeId → List (Opd × Option Nat)
  | [], _ => []
  | _ :: _, [] => []
  | o :: os, t :: ts => (opd o, ptG P t) :: agsG P os ts
def slG : TypeDesc → TypeId
  | .slice e => e
  | _ => 0
def hdO : List Operand → Opd
  | x :: _ => opd x
  | [] => .no
def tlO : List Operand → List Operand
  | _ :: l => l
  | [] => []
def isS : TypeDesc → Bool
  | .string => true
  | _ => false
def isI : TypeDesc → Bool
  | .int _ => true
  | _ => false
def hdY (P : Nat → Option TypeInfo) : List TypeId → TypeDesc
  | t :: _ => tdG P t
  | [] => .bool
def tlY : List TypeId → List TypeId
  | _ :: l => l
  | [] => []
def bcG (P : Nat → Option TypeInfo) (b : Builtin) (args : List Operand) (tys : List TypeId) : AOp := match b with
  | .len => match isS (hdY P tys) with
    | true => .slen (hdO args)
    | false => .len (hdO args)
  | .cap => .cap (hdO args)
  | .min => .mnx false (opsG args)
  | .max => .mnx true (opsG args)
  | .append => match isI (hdY P (tlY tys)) with
    | true => .apz (hdO args) (hdO (tlO args)) (zG P 12 (slG (hdY P tys))) (byG P (slG (hdY P tys)))
    | false => .app (isS (hdY P (tlY tys))) (hdO args) (hdO (tlO args)) (szG P (slG (hdY P tys))) (byG P (slG (hdY P tys)))
  | .copy => .cpy (isS (hdY P (tlY tys))) (hdO args) (hdO (tlO args)) (szG P (slG (hdY P tys)))
  | .clear => .clr (hdO args) (zG P 12 (slG (hdY P tys)))
  | _ => .bad
def oG : Option Operand → Option Opd
  | some x => some (opd x)
  | none => none
def isNe : BinOp → Bool
  | .neq => true
  | _ => false
def cG (P : Nat → Option TypeInfo) : Op → AOp
  | .move x => .mv (opd x)
  | .assign x => .mv (opd x)
  | .pick c a b => .pick (opd c) (opd a) (opd b)
  | .binOp o t x y _ => match tdG P t with
    | .struct _ => .eqa (isNe o) (opd x) (opd y) (flG P 12 t)
    | .bool => .beq (isNe o) (opd x) (opd y)
    | .slice _ => .isn (isNe o) (opd x)
    | _ => .bin o (opd x) (opd y)
  | .unOp o _ x => match o with
    | .not => .not (opd x)
    | .neg => .neg (opd x)
    | _ => .bad
  | .extract x i => .ext (opd x) i
  | .field t x f => match tdG P t with
    | .struct fs => match nthG fs.toList f with
      | some d => .fld (opd x) d.offset (szG P d.type) (agG (tdG P d.type))
      | none => .bad
    | _ => .bad
  | .fieldAddr t x f => match tdG P t with
    | .struct fs => match nthG fs.toList f with
      | some d => .fad (opd x) d.offset
      | none => .bad
    | _ => .bad
  | .nilCheck x => .nck (opd x)
  | .indexAddr t x i => match tdG P t with
    | .slice e => .idx (opd x) (opd i) (szG P e)
    | .array len e => .ixa (opd x) (opd i) len (szG P e)
    | _ => .bad
  | .index _ x i => .six (opd x) (opd i)
  | .load t x => .load (opd x) (szG P t) (agG (tdG P t))
  | .store t x v => .store (opd x) (opd v) (szG P t)
  | .slice t x lo hi mx => match tdG P t with
    | .string => .sls (opd x) (oG lo) (oG hi)
    | .slice e => .sll (opd x) (oG lo) (oG hi) (oG mx) (szG P e)
    | _ => .bad
  | .build t parts => match tdG P t with
    | .struct fs => .bld (zG P 12 t) (bpG P fs.toList parts.toList)
    | .array _ e => .bld (zG P 12 t) (baG (szG P e) parts.toList)
    | _ => .bad
  | .buildSlice t len parts => .bsl (zG P 12 (slG (tdG P t))) len (bsG parts.toList)
  | .convert s d x => match tdG P s with
    | .int _ => match tdG P d with
      | .int k => .cvi k (opd x)
      | _ => .bad
    | .string => match tdG P d with
      | .string => .cid (opd x)
      | .slice _ => .csb (opd x)
      | _ => .bad
    | .slice _ => .cbs (opd x)
    | _ => .bad
  | .makeFunc fn _ caps => match fn with
    | .func f => .mkf f (opsG caps.toList)
    | _ => .bad
  | .call c => match c with
    | ⟨.value f, args, tys⟩ => .call (opd f) (agsG P args.toList tys.toList)
    | ⟨.builtin b, args, tys⟩ => bcG P b args.toList tys.toList
    | _ => .bad
  | .alloc t => .alloc (zG P 12 t)
  | .box _ x => .box (opd x)
  | .makeSlice t l c => .mks (opd l) (opd c) (zG P 12 (slG (tdG P t))) (byG P (slG (tdG P t)))
  | _ => .bad
def gdG (ops : List Oper) : Option (Nat × Bool) → Option (Tmp × Bool)
  | none => none
  | some (j, b) => match nthG ops j with
    | some o => match o.dst with
      | some t => some (t, b)
      | none => none
    | none => none
def lkG (ops : List Oper) (s : SOp) : List Nat := match s.gd with
  | some (t, _) => s.op.tms ++ [t]
  | none => s.op.tms
structure Hn where
  h : Option Nat
  key : Option Nat
  df : Option (Nat × Bool)
  ug : Option (List Nat)
def hnL (x : Nat) : List (Nat × Hn) → Hn
  | [] => ⟨none, none, none, none⟩
  | (y, r) :: l => match Nat.beq x y with
    | true => r
    | false => hnL x l
def drL (r i : Nat) : List (Nat × Nat × List Nat × List Nat) → List Nat × List Nat
  | [] => ([], [])
  | (y, j, a) :: l => match Nat.beq r y && Nat.beq i j with
    | true => a
    | false => drL r i l
def selO (o : Oper) : Nat := match o.dst with
  | some d => 2 * d + 2
  | none => match o.op with
    | .store _ (.tmp x) _ => 2 * x + 3
    | _ => 0
abbrev GEnv := List (Nat × Bool × Option Nat)
def geL (x : Nat) : GEnv → Bool × Option Nat
  | [] => (false, none)
  | (y, r) :: l => match Nat.beq x y with
    | true => r
    | false => geL x l
def geO (env : GEnv) : Operand → Bool × Option Nat
  | .tmp x => geL x env
  | _ => (false, none)
def slE (P : Nat → Option TypeInfo) (t : TypeId) : Option Nat := match tdG P t with
  | .slice e => some e
  | _ => none
def geU (P : Nat → Option TypeInfo) (env : GEnv) (o : Oper) : GEnv := match o.dst with
  | none => env
  | some d => match (match o.op with
      | .buildSlice _ _ _ => (true, none)
      | .call _ => (true, none)
      | .indexAddr t x _ => (match slE P t with
        | some e => (false, some e)
        | none => (false, (geO env x).2))
      | .fieldAddr _ x _ => (false, (geO env x).2)
      | .nilCheck x => (false, (geO env x).2)
      | .move x => (false, (geO env x).2)
      | .assign x => (false, (geO env x).2)
      | _ => ((false, none) : Bool × Option Nat)) with
    | (false, none) => env
    | r => (d, r) :: env
def dfG (P : Nat → Option TypeInfo) (tb : Nat → Bool → List T) (env : GEnv) : Op → List T
  | .indexAddr t _ _ => match slE P t with | some e => tb e false | none => []
  | .load _ x => match (geO env x).2 with | some e => tb e true | none => []
  | .store _ x _ => match (geO env x).2 with | some e => tb e true | none => []
  | .buildSlice t _ _ => match slE P t with | some e => tb e true | none => []
  | .makeSlice t _ _ => match slE P t with | some e => tb e true | none => []
  | .call c => match c.callee with
    | .builtin .clear => match c.argTypes.toList with
      | t :: _ => (match slE P t with | some e => tb e true | none => [])
      | [] => []
    | _ => []
  | _ => []
def hG (env : GEnv) : Op → Nat
  | .call c => match c.callee with
    | .builtin .append => match c.args.toList with
      | [_, y] => match (geO env y).1 with | true => 2 | false => 0
      | _ => 0
    | _ => 0
  | .binOp o t _ _ _ => match Nat.beq t 3 with
    | true => (match o with | .add => 1 | .sub => 1 | .mul => 1 | _ => 0)
    | false => 0
  | _ => 0
def kG (d : Option Nat) : Op → Nat
  | .alloc _ => 4096 * (d.getD 0 + 1)
  | .box _ _ => 4096 * (d.getD 0 + 1)
  | .buildSlice _ _ _ => 4096 * (d.getD 0 + 1)
  | .makeSlice _ _ _ => 4096 * (d.getD 0 + 1)
  | .call _ => 4096 * (d.getD 0 + 1)
  | _ => 0
def fltN (gt : List Nat) : List Nat → List Nat
  | [] => []
  | x :: l => match hasN x gt with
    | true => insN x (fltN gt l)
    | false => fltN gt l
def ugG (gt : List Nat) (s : SOp) : List Nat := match s.gd with
  | none => []
  | some _ => fltN gt (match s.op with | .pick c _ _ => oT c | op => op.tms)
def orD {α : Type} : Option α → α → α
  | some x, _ => x
  | none, y => y
def gO (P : Nat → Option TypeInfo) (nt : Nat) (ops : Array Oper) (draw : Bool) (tb : Nat → Bool → List T) (env : GEnv) (hs : List (Nat × Hn)) (dr : List (Nat × Nat × List Nat × List Nat)) (rid i : Nat) (gt : List Nat) (o : Oper) : SOp :=
  match gdG ops.toList o.guard, cG P o.op with
  | gd, op => match (⟨o.dst, op, gd, [], 0, 0, [], [], [], []⟩ : SOp) with
    | s => match hnL (selO o) hs, drL rid i dr with
      | ⟨h, key, df, ug⟩, (rk, wk) => ⟨o.dst, op, gd, (match draw with | true => o.looksAt ops | false => []), orD h (hG env o.op), orD key (kG o.dst o.op), (match df with | some (t, b) => tb t b | none => dfG P tb env o.op), orD ug (ugG gt s), rk, wk⟩
def gOs (P : Nat → Option TypeInfo) (nt : Nat) (ops : Array Oper) (draw : Bool) (tb : Nat → Bool → List T) (hs : List (Nat × Hn)) (dr : List (Nat × Nat × List Nat × List Nat)) (rid : Nat) (gt : List Nat) : List Oper → Nat → GEnv → List SOp × GEnv
  | [], _, env => ([], env)
  | o :: l, i, env => match gOs P nt ops draw tb hs dr rid gt l (i + 1) (geU P env o) with
    | (ss, e2) => (gO P nt ops draw tb env hs dr rid i gt o :: ss, e2)
def gtG : List Oper → List Nat
  | [] => []
  | o :: l => match o.guard, o.dst with
    | some _, some d => d :: gtG l
    | _, _ => gtG l
def gC (P : Nat → Option TypeInfo) (nt : Nat) (tb : Nat → Bool → List T) (hs : List (Nat × Hn)) (dr : List (Nat × Nat × List Nat × List Nat)) (dp : List (Nat × List Nat)) : Code → GEnv → SC × GEnv
  | .skip, e => (.skip, e)
  | .ret, e => (.ret, e)
  | .exit i, e => (.exit i, e)
  | .region id ops draw, e => match gOs P nt ops draw tb hs dr id (gtG ops.toList) ops.toList 0 e with
    | (ss, e2) => (.reg draw ss (some ([], lookN id dp)), e2)
  | .seq a b, e => match gC P nt tb hs dr dp a e with
    | (a, e) => match gC P nt tb hs dr dp b e with
      | (b, e) => (.seq a b, e)
  | .cond c a b, e => match gC P nt tb hs dr dp a e with
    | (a, e) => match gC P nt tb hs dr dp b e with
      | (b, e) => (.cond (opd c) a b, e)
  | .block id c, e => match gC P nt tb hs dr dp c e with
    | (a, e) => (.block id a, e)
  | .loop c, e => match gC P nt tb hs dr dp c e with
    | (a, e) => (.loop a, e)
  | _, e => (.skip, e)
def retG : List ResultVar → List Nat
  | [] => []
  | .tmp t :: l => insN t (retG l)
  | .cell t _ :: l => insN t (retG l)
def genF (P : Nat → Option TypeInfo) (fn : Func) (tb : Nat → Bool → List T) (hs : List (Nat × Hn)) (dr : List (Nat × Nat × List Nat × List Nat)) (dp : List (Nat × List Nat)) : SC :=
  match fn.body with
  | none => .skip
  | some c => match gC P fn.ntmps tb hs dr dp c [], retG fn.results.toList with
    | (sc, _), r => (lvC sc r [] r).1
def tyG (l : List (List TypeInfo)) (t : Nat) : Option TypeInfo := match nthG l (t / 16) with
  | some r => nthG r (t % 16)
  | none => none
attribute [go_sem ↓] reduceIte
theorem b1 : ∀ {a b : Bool}, ((!a) = b ↔ a = !b) := @Bool.not_eq_eq_eq_not
theorem b2 : (!true) = false := Bool.not_true
theorem b3 : (!false) = true := Bool.not_false
theorem b4 (p : Prop) [Decidable p] : (decide p = true) = p := decide_eq_true_eq
theorem b5 (p : Prop) [Decidable p] : decide p = false ↔ ¬p := decide_eq_false_iff_not
theorem b6 (a b : Bool) : ((a && b) = true) = (a = true ∧ b = true) := Bool.and_eq_true a b
theorem b7 (a b : Bool) : ((a || b) = true) = (a = true ∨ b = true) := Bool.or_eq_true a b
theorem int_res {k : IntKind} {a b : Int} (h : a = b) : [TV.one (T.int k a)] = [TV.one (T.int k b)] := by rw [h]
theorem bool_res {a b : Bool} (h : a = b) : [TV.one (T.bool a)] = [TV.one (T.bool b)] := by rw [h]
def plainO (s : SOp) : Bool := match s.op with
  | .call _ _ => false
  | .isn _ _ => false
  | .load _ _ _ => match s.h with | 5 => false | _ => true
  | _ => true
def plainL : List SOp → Bool
  | [] => true
  | s :: l => match plainO s with | true => plainL l | false => false
def preL : List SOp → List SOp
  | [] => []
  | s :: l => match plainO s with | true => s :: preL l | false => []
def posL : List SOp → List SOp
  | [] => []
  | s :: l => match plainO s with | true => posL l | false => s :: l
theorem pre_pos : ∀ l, preL l ++ posL l = l
  | [] => rfl
  | s :: l => by
    simp only [preL, posL]
    cases plainO s
    · rfl
    · simp only [List.cons_append, pre_pos l]
section
variable {P : Program} [Inv P]
theorem isR {l : List SOp} {lv : Option (List Nat × List Nat)} {b : SC} {Q : Ex → St → Prop} {st : St} (h : CW P (.seq (.reg false l lv) b) Q st) : CW P (.seq (.reg false l lv) b) Q st := h
theorem isRn {l : List SOp} {lv : Option (List Nat × List Nat)} {Q : Ex → St → Prop} {st : St} (h : CW P (.reg false l lv) Q st) : CW P (.reg false l lv) Q st := h
theorem isD {l : List SOp} {lv : Option (List Nat × List Nat)} {b : SC} {Q : Ex → St → Prop} {st : St} (h : CW P (.seq (.reg true l lv) b) Q st) : CW P (.seq (.reg true l lv) b) Q st := h
theorem isDn {l : List SOp} {lv : Option (List Nat × List Nat)} {Q : Ex → St → Prop} {st : St} (h : CW P (.reg true l lv) Q st) : CW P (.reg true l lv) Q st := h
theorem isRW {l : List SOp} {st : St} {K : St → Prop} (h : RW P l st K) : RW P l st K := h
theorem isDW {J : Option (Nat × Nat)} {l : List SOp} {st : St} {K : St → Prop} (h : DW P J l st K) : DW P J l st K := h
theorem wR {l : List SOp} {lv : Option (List Nat × List Nat)} {b : SC} {Q : Ex → St → Prop} {st : St} {st1 : St} (k : CW P b Q st1) (hn : plainL l = true := by rfl) (h : RW P l st (fun s => s.keep lv = st1) := by first | (simp only [go_sem, hA] <;> and_intros <;> first | with_reducible exact rfl | ((try clear kD); first | omega | with_reducible trivial | exact trivial | (intros; simp_all; done) | grind)) | (simp only [go_sem] <;> and_intros <;> first | with_reducible exact rfl | ((try clear kD); first | omega | with_reducible trivial | exact trivial | (intros; simp_all; done) | grind))) : CW P (.seq (.reg false l lv) b) Q st := W_reg h k
theorem wRn {l : List SOp} {lv : Option (List Nat × List Nat)} {Q : Ex → St → Prop} {st : St} {st1 : St} (k : Q .normal st1) (hn : plainL l = true := by rfl) (h : RW P l st (fun s => s.keep lv = st1) := by first | (simp only [go_sem, hA] <;> and_intros <;> first | with_reducible exact rfl | ((try clear kD); first | omega | with_reducible trivial | exact trivial | (intros; simp_all; done) | grind)) | (simp only [go_sem] <;> and_intros <;> first | with_reducible exact rfl | ((try clear kD); first | omega | with_reducible trivial | exact trivial | (intros; simp_all; done) | grind))) : CW P (.reg false l lv) Q st := W_regn h k
theorem wRe {l : List SOp} {lv : Option (List Nat × List Nat)} {b : SC} {Q : Ex → St → Prop} {st : St} (h : RW P l st (fun s => CW P b Q (s.keep lv))) : CW P (.seq (.reg false l lv) b) Q st := CW_seq (CW_reg h)
theorem wRne {l : List SOp} {lv : Option (List Nat × List Nat)} {Q : Ex → St → Prop} {st : St} (h : RW P l st (fun s => Q .normal (s.keep lv))) : CW P (.reg false l lv) Q st := CW_reg h
theorem Rp {l l2 m : List SOp} {s : SOp} {st st1 : St} {K : St → Prop} (k : RW P l2 st1 K) (hl : preL l = s :: m := by simp only [preL, plainO]; exact rfl) (e : posL l = l2 := by simp only [posL, plainO]; exact rfl) (h : RW P (s :: m) st (fun s => s = st1) := by first | (simp only [go_sem, hA] <;> and_intros <;> first | with_reducible exact rfl | ((try clear kD); first | omega | with_reducible trivial | exact trivial | (intros; simp_all; done) | grind)) | (simp only [go_sem] <;> and_intros <;> first | with_reducible exact rfl | ((try clear kD); first | omega | with_reducible trivial | exact trivial | (intros; simp_all; done) | grind))) : RW P l st K := by
  have hp := pre_pos l
  subst e
  have := RW_app (l := s :: m) (l2 := posL l) (RW_mono (fun s e => by subst e; exact k) h)
  rwa [← hl, hp] at this
theorem Re {lv : Option (List Nat × List Nat)} {b : SC} {Q : Ex → St → Prop} {st st2 : St} (k : CW P b Q st2) (e : st.keep lv = st2 := by first | (simp only [go_sem, hA]; exact rfl) | (simp only [go_sem]; exact rfl)) : RW P [] st (fun s => CW P b Q (s.keep lv)) := by subst e; exact k
theorem Rne {lv : Option (List Nat × List Nat)} {Q : Ex → St → Prop} {st st2 : St} (k : Q .normal st2) (e : st.keep lv = st2 := by first | (simp only [go_sem, hA]; exact rfl) | (simp only [go_sem]; exact rfl)) : RW P [] st (fun s => Q .normal (s.keep lv)) := by subst e; exact k
theorem kR {s : SOp} {l : List SOp} {st st2 : St} {K : St → Prop} {fo : Opd} {args : List (Opd × Option Nat)} {f : FuncId} {as : List Arg} {L : List Ob} {rs : List TV} {L' : List Ob} {e : Eff} (hsem : SemX P f as L rs L') (k : RW P l st2 K) (hcb : callB P f = true := by kernel_rfl) (hop : s.op = .call fo args := by exact rfl) (hgd : s.gd = none := by exact rfl) (h : callP st.F st.M s.key fo args f as L rs L' true [] [] [] (fun x => x = e) := by first | (simp only [go_sem, hA] <;> and_intros <;> first | with_reducible exact rfl | ((try clear kD); first | omega | with_reducible trivial | exact trivial | (intros; simp_all; done) | grind)) | (simp only [go_sem] <;> and_intros <;> first | with_reducible exact rfl | ((try clear kD); first | omega | with_reducible trivial | exact trivial | (intros; simp_all; done) | grind))) (hf : freshN st.bn e.nk = true := by first | rfl | (first | (simp only [go_sem, hA]; exact rfl) | (simp only [go_sem]; exact rfl))) (hst : st.app s.dst e = st2 := by first | (simp only [go_sem, hA]; exact rfl) | (simp only [go_sem]; exact rfl)) : RW P (s :: l) st K := RW_callN hcb hsem true [] [] [] hop hgd h hf hst k
theorem kRk (hk ksA ksO : List Nat) {s : SOp} {l : List SOp} {st st2 : St} {K : St → Prop} {fo : Opd} {args : List (Opd × Option Nat)} {f : FuncId} {as : List Arg} {L : List Ob} {rs : List TV} {L' : List Ob} {e : Eff} (hsem : SemX P f as L rs L') (k : RW P l st2 K) (hcb : callB P f = true := by kernel_rfl) (hop : s.op = .call fo args := by exact rfl) (hgd : s.gd = none := by exact rfl) (h : callP st.F st.M s.key fo args f as L rs L' true hk ksA ksO (fun x => x = e) := by first | (simp only [go_sem, hA] <;> and_intros <;> first | with_reducible exact rfl | ((try clear kD); first | omega | with_reducible trivial | exact trivial | (intros; simp_all; done) | grind)) | (simp only [go_sem] <;> and_intros <;> first | with_reducible exact rfl | ((try clear kD); first | omega | with_reducible trivial | exact trivial | (intros; simp_all; done) | grind))) (hf : freshN st.bn e.nk = true := by first | rfl | (first | (simp only [go_sem, hA]; exact rfl) | (simp only [go_sem]; exact rfl))) (hst : st.app s.dst e = st2 := by first | (simp only [go_sem, hA]; exact rfl) | (simp only [go_sem]; exact rfl)) : RW P (s :: l) st K := RW_callN hcb hsem true hk ksA ksO hop hgd h hf hst k
theorem kRg {s : SOp} {l : List SOp} {st st2 : St} {K : St → Prop} {fo : Opd} {args : List (Opd × Option Nat)} {f : FuncId} {as : List Arg} {rs : List TV} {v : V} {gd : Tmp × Bool} {c : Bool} (hsem : SemX P f as [] rs []) (k : RW P l st2 K) (hcb : callB P f = true := by kernel_rfl) (hop : s.op = .call fo args := by exact rfl) (hgd : s.gd = some gd := by exact rfl) (hw : wantS st.F (some gd) = some c := by first | (simp only [go_sem, hA]; exact rfl) | (simp only [go_sem]; exact rfl))
    (h : c = true → gus st.F c s.ug ∧ callP (unF s.ug st.F) st.M s.key fo args f as [] rs [] true [] [] [] (fun x => x = ⟨v, [], []⟩) := by intro hg; first | (simp only [go_sem, hA] <;> and_intros <;> first | with_reducible exact rfl | ((try clear kD); first | omega | with_reducible trivial | exact trivial | (intros; simp_all; done) | grind)) | (simp only [go_sem] <;> and_intros <;> first | with_reducible exact rfl | ((try clear kD); first | omega | with_reducible trivial | exact trivial | (intros; simp_all; done) | grind))) (hst : st.app s.dst ⟨.opt c v, [], []⟩ = st2 := by first | (simp only [go_sem, hA]; exact rfl) | (simp only [go_sem]; exact rfl)) (h14 : Nat.beq s.h 14 = false := by rfl) : RW P (s :: l) st K := RW_callGN hcb hsem true hop hgd hw h hst k h14
theorem wD {l : List SOp} {lv : Option (List Nat × List Nat)} {b : SC} {Q : Ex → St → Prop} {st : St} {st1 : St} (k : CW P b Q st1) (hn : plainL l = true := by rfl) (hJ : jOf l = none := by rfl) (h : DW P none l st (fun s => s.keep lv = st1) := by first | (simp only [go_sem, hA] <;> and_intros <;> first | with_reducible exact rfl | ((try clear kD); first | omega | with_reducible trivial | exact trivial | (intros; simp_all; done) | grind)) | (simp only [go_sem] <;> and_intros <;> first | with_reducible exact rfl | ((try clear kD); first | omega | with_reducible trivial | exact trivial | (intros; simp_all; done) | grind))) : CW P (.seq (.reg true l lv) b) Q st := W_drw hJ h k
theorem wDn {l : List SOp} {lv : Option (List Nat × List Nat)} {Q : Ex → St → Prop} {st : St} {st1 : St} (k : Q .normal st1) (hn : plainL l = true := by rfl) (hJ : jOf l = none := by rfl) (h : DW P none l st (fun s => s.keep lv = st1) := by first | (simp only [go_sem, hA] <;> and_intros <;> first | with_reducible exact rfl | ((try clear kD); first | omega | with_reducible trivial | exact trivial | (intros; simp_all; done) | grind)) | (simp only [go_sem] <;> and_intros <;> first | with_reducible exact rfl | ((try clear kD); first | omega | with_reducible trivial | exact trivial | (intros; simp_all; done) | grind))) : CW P (.reg true l lv) Q st := W_drwn hJ h k
theorem wDe {J : Option (Nat × Nat)} {l : List SOp} {lv : Option (List Nat × List Nat)} {b : SC} {Q : Ex → St → Prop} {st : St} (h : DW P J l st (fun s => CW P b Q (s.keep lv))) (hJ : jOf l = J := by simp only [jOf, hdN]; exact rfl) (hj : okJ J st.M := by first | exact trivial | (simp only [go_sem]; done) | (simp only [go_sem]; exact rfl)) : CW P (.seq (.reg true l lv) b) Q st := CW_seq (CW_drwJ hJ hj h)
theorem wDne {J : Option (Nat × Nat)} {l : List SOp} {lv : Option (List Nat × List Nat)} {Q : Ex → St → Prop} {st : St} (h : DW P J l st (fun s => Q .normal (s.keep lv))) (hJ : jOf l = J := by simp only [jOf, hdN]; exact rfl) (hj : okJ J st.M := by first | exact trivial | (simp only [go_sem]; done) | (simp only [go_sem]; exact rfl)) : CW P (.reg true l lv) Q st := CW_drwJ hJ hj h
theorem Dp {J : Option (Nat × Nat)} {l l2 m : List SOp} {s : SOp} {st st1 : St} {K : St → Prop} (k : DW P J l2 st1 K) (hl : preL l = s :: m := by simp only [preL, plainO]; exact rfl) (e : posL l = l2 := by simp only [posL, plainO]; exact rfl) (h : DW P J (s :: m) st (fun s => s = st1) := by first | (simp only [go_sem, hA] <;> and_intros <;> first | with_reducible exact rfl | ((try clear kD); first | omega | with_reducible trivial | exact trivial | (intros; simp_all; done) | grind)) | (simp only [go_sem] <;> and_intros <;> first | with_reducible exact rfl | ((try clear kD); first | omega | with_reducible trivial | exact trivial | (intros; simp_all; done) | grind))) : DW P J l st K := by
  have hp := pre_pos l
  subst e
  have := DW_app (l := s :: m) (l2 := posL l) (DW_mono (fun s e => by subst e; exact k) h)
  rwa [← hl, hp] at this
theorem De {J : Option (Nat × Nat)} {lv : Option (List Nat × List Nat)} {b : SC} {Q : Ex → St → Prop} {st st2 : St} (k : CW P b Q st2) (e : st.keep lv = st2 := by first | (simp only [go_sem, hA]; exact rfl) | (simp only [go_sem]; exact rfl)) : DW P J [] st (fun s => CW P b Q (s.keep lv)) := by subst e; exact k
theorem Dne {J : Option (Nat × Nat)} {lv : Option (List Nat × List Nat)} {Q : Ex → St → Prop} {st st2 : St} (k : Q .normal st2) (e : st.keep lv = st2 := by first | (simp only [go_sem, hA]; exact rfl) | (simp only [go_sem]; exact rfl)) : DW P J [] st (fun s => Q .normal (s.keep lv)) := by subst e; exact k
theorem kD {J : Option (Nat × Nat)} {s : SOp} {l : List SOp} {st st2 : St} {K : St → Prop} {fo : Opd} {args : List (Opd × Option Nat)} {f : FuncId} {as : List Arg} {L : List Ob} {rs : List TV} {L' : List Ob} {e : Eff} (hsem : SemX P f as L rs L') (k : DW P J l st2 K) (hcb : callB P f = true := by kernel_rfl) (hop : s.op = .call fo args := by exact rfl) (hgd : s.gd = none := by exact rfl) (h : callP (onlyN s.lk st.F) (onlyN s.rk st.M) s.key fo args f as L rs L' true [] [] [] (fun x => x = e) := by first | (simp only [go_sem, hA] <;> and_intros <;> first | with_reducible exact rfl | ((try clear kD); first | omega | with_reducible trivial | exact trivial | (intros; simp_all; done) | grind)) | (simp only [go_sem] <;> and_intros <;> first | with_reducible exact rfl | ((try clear kD); first | omega | with_reducible trivial | exact trivial | (intros; simp_all; done) | grind))) (h11n : ¬ s.h = 11 := by decide) (hj : keepS J s e.wm := by first | exact trivial | (simp only [go_sem]; done) | (simp only [go_sem]; exact rfl)) (hf : (freshN st.bn e.nk && (subN (e.wm.map (·.1)) s.wk && subN e.nk s.wk)) = true := by first | rfl | (first | (simp only [go_sem, hA]; exact rfl) | (simp only [go_sem]; exact rfl))) (hst : st.app s.dst e = st2 := by first | (simp only [go_sem, hA]; exact rfl) | (simp only [go_sem]; exact rfl)) : DW P J (s :: l) st K := DW_callN hcb hsem true [] [] [] hop hgd h11n hj h hf hst k
theorem kDk (hk ksA ksO : List Nat) {J : Option (Nat × Nat)} {s : SOp} {l : List SOp} {st st2 : St} {K : St → Prop} {fo : Opd} {args : List (Opd × Option Nat)} {f : FuncId} {as : List Arg} {L : List Ob} {rs : List TV} {L' : List Ob} {e : Eff} (hsem : SemX P f as L rs L') (k : DW P J l st2 K) (hcb : callB P f = true := by kernel_rfl) (hop : s.op = .call fo args := by exact rfl) (hgd : s.gd = none := by exact rfl) (h : callP (onlyN s.lk st.F) (onlyN s.rk st.M) s.key fo args f as L rs L' true hk ksA ksO (fun x => x = e) := by first | (simp only [go_sem, hA] <;> and_intros <;> first | with_reducible exact rfl | ((try clear kD); first | omega | with_reducible trivial | exact trivial | (intros; simp_all; done) | grind)) | (simp only [go_sem] <;> and_intros <;> first | with_reducible exact rfl | ((try clear kD); first | omega | with_reducible trivial | exact trivial | (intros; simp_all; done) | grind))) (h11n : ¬ s.h = 11 := by decide) (hj : keepS J s e.wm := by first | exact trivial | (simp only [go_sem]; done) | (simp only [go_sem]; exact rfl)) (hf : (freshN st.bn e.nk && (subN (e.wm.map (·.1)) s.wk && subN e.nk s.wk)) = true := by first | rfl | (first | (simp only [go_sem, hA]; exact rfl) | (simp only [go_sem]; exact rfl))) (hst : st.app s.dst e = st2 := by first | (simp only [go_sem, hA]; exact rfl) | (simp only [go_sem]; exact rfl)) : DW P J (s :: l) st K := DW_callN hcb hsem true hk ksA ksO hop hgd h11n hj h hf hst k
theorem kDg {J : Option (Nat × Nat)} {s : SOp} {l : List SOp} {st st2 : St} {K : St → Prop} {fo : Opd} {args : List (Opd × Option Nat)} {f : FuncId} {as : List Arg} {rs : List TV} {v : V} {gd : Tmp × Bool} {c : Bool} (hsem : SemX P f as [] rs []) (k : DW P J l st2 K) (hcb : callB P f = true := by kernel_rfl) (hop : s.op = .call fo args := by exact rfl) (hgd : s.gd = some gd := by exact rfl) (hw : wantS (onlyN s.lk st.F) (some gd) = some c := by first | (simp only [go_sem, hA]; exact rfl) | (simp only [go_sem]; exact rfl))
    (h : c = true → gus (onlyN s.lk st.F) c s.ug ∧ callP (unF s.ug (onlyN s.lk st.F)) (onlyN s.rk st.M) s.key fo args f as [] rs [] true [] [] [] (fun x => x = ⟨v, [], []⟩) := by intro hg; first | (simp only [go_sem, hA] <;> and_intros <;> first | with_reducible exact rfl | ((try clear kD); first | omega | with_reducible trivial | exact trivial | (intros; simp_all; done) | grind)) | (simp only [go_sem] <;> and_intros <;> first | with_reducible exact rfl | ((try clear kD); first | omega | with_reducible trivial | exact trivial | (intros; simp_all; done) | grind))) (hst : st.app s.dst ⟨.opt c v, [], []⟩ = st2 := by first | (simp only [go_sem, hA]; exact rfl) | (simp only [go_sem]; exact rfl)) : DW P J (s :: l) st K := DW_callGN hcb hsem true hop hgd hw h hst k
theorem kOv {s : SOp} {l : List SOp} {st st2 : St} {K : St → Prop} {fo x y : Opd} {p q : Option Nat} {f : FuncId} (hO : OvlOk P f) (k : RW P l st2 K) (hop : s.op = .call fo [(x, p), (y, q)] := by exact rfl) (hgd : s.gd = none := by exact rfl) (hf : ev st.F fo = some (.fn f []) := by exact rfl) (h : ovlE st.F st.M x y := by first | (simp only [go_sem, hA] <;> and_intros <;> first | with_reducible exact rfl | ((try clear kD); first | omega | with_reducible trivial | exact trivial | (intros; simp_all; done) | grind)) | (simp only [go_sem] <;> and_intros <;> first | with_reducible exact rfl | ((try clear kD); first | omega | with_reducible trivial | exact trivial | (intros; simp_all; done) | grind))) (hst : st.app s.dst ⟨.bool false, [], []⟩ = st2 := by first | (simp only [go_sem, hA]; exact rfl) | (simp only [go_sem]; exact rfl)) : RW P (s :: l) st K := by subst hst; exact RW_ovl hO hop hgd hf h k
theorem cC {c : Opd} {a b : SC} {Q : Ex → St → Prop} {st : St} {t : Bool} {p q : Prop} (h1 : p → CW P a Q st) (h2 : q → CW P b Q st) (hc : ev st.F c = some (.bool t) := by first | (simp only [go_sem, hA]; exact rfl) | (simp only [go_sem]; exact rfl)) (hp : (t = true) = p := by first | (simp only [b1, b2, b3, b4, b5, b6, b7]; exact rfl) | exact rfl) (hq : (t = false) = q := by first | (simp only [b1, b2, b3, b4, b5, b6, b7]; exact rfl) | exact rfl) : CW P (.cond c a b) Q st := CW_cond hc (fun e => h1 (hp ▸ e)) (fun e => h2 (hq ▸ e))
theorem cF {c : Opd} {a b : SC} {Q : Ex → St → Prop} {st : St} (h : CW P b Q st) (hc : ev st.F c = some (.bool false) := by first | (simp only [go_sem, hA]; done) | (simp only [go_sem]; done) | (simp only [go_sem]; rfl)) : CW P (.cond c a b) Q st := CW_cond hc (fun e => by cases e) (fun _ => h)
theorem cT {c : Opd} {a b : SC} {Q : Ex → St → Prop} {st : St} (h : CW P a Q st) (hc : ev st.F c = some (.bool true) := by first | (simp only [go_sem, hA]; done) | (simp only [go_sem]; done) | (simp only [go_sem]; rfl)) : CW P (.cond c a b) Q st := CW_cond hc (fun _ => h) (fun e => by cases e)
theorem D {A B : Prop} (k : B) (h : B → A := by
  intro kD
  repeat (first
    | ((with_reducible refine isR ?_); first | refine wR ?_ | refine wRe ?_)
    | ((with_reducible refine isRn ?_); first | refine wRn ?_ | refine wRne ?_)
    | ((with_reducible refine isRW ?_); first | refine Rp ?_ | refine Re ?_ | refine Rne ?_)
    | with_reducible refine sq_n ?_ | with_reducible refine CW_assoc ?_ | with_reducible refine CW_skip ?_ | with_reducible refine CW_ret ?_ | with_reducible refine sq_r ?_ | with_reducible refine CW_block ?_
    | with_reducible refine bk_n ?_ | with_reducible refine CW_exit ?_ | with_reducible refine bk_i ?_ | ((with_reducible refine bk_o ?_ ?_); rfl) | with_reducible refine bk_r ?_ | with_reducible refine sq_e ?_ | with_reducible refine lp_e ?_ | with_reducible refine lp_r ?_
    | ((with_reducible refine isD ?_); first | refine wD ?_ | refine wDe ?_)
    | ((with_reducible refine isDn ?_); first | refine wDn ?_ | refine wDne ?_)
    | ((with_reducible refine isDW ?_); first | refine Dp ?_ | refine De ?_ | refine Dne ?_)
    | with_reducible refine CW_seq ?_)
  exact kD) : A := h k
theorem E {A B : Prop} (k : B) (h : B → A := by
  first
  | (intro kD; first | simp only [go_sem, hA] | simp only [go_sem]
     first | exact int_res kD | exact bool_res kD | exact kD)
  | (intro kD; have k2 : True := kD; first | (simp only [go_sem, hA]; done) | (simp only [go_sem]; done))) : A := h k
theorem L {α : Type} {c : SC} {Q : Ex → St → Prop} {st : St} {st2 : α → St} (f : α → List (Nat × V)) (g : α → List (Nat × Mem)) (m : α → Nat) (I : α → Prop) (x0 : α) (ρ : List (Nat × Nat))
    (hr : ∀ x, I x → CW P c (lpQ (fun x => st.set (f x) (g x)) m I (m x) Q) (st2 x)) (h0 : fit ρ st (st.set (f x0) (g x0)) := by first | (simp only [go_sem, hA] <;> and_intros <;> first | with_reducible exact rfl | ((try clear kD); first | omega | with_reducible trivial | exact trivial | (intros; simp_all; done) | grind)) | (simp only [go_sem] <;> and_intros <;> first | with_reducible exact rfl | ((try clear kD); first | omega | with_reducible trivial | exact trivial | (intros; simp_all; done) | grind))) (hi : I x0 := by first | exact Nat.zero_le _ | (simp; done) | omega) (e : ∀ x, st.set (f x) (g x) = st2 x := by intro x; first | (simp only [go_sem, hA]; exact rfl) | (simp only [go_sem]; exact rfl)) : CW P (.loop c) Q st :=
  CW_loopS f g m I x0 ρ h0 hi fun x hx => e x ▸ hr x hx
theorem Ld (dt dm : List Nat) {α : Type} {c : SC} {Q : Ex → St → Prop} {st : St} {st2 : α → St} (f : α → List (Nat × V)) (g : α → List (Nat × Mem)) (m : α → Nat) (I : α → Prop) (x0 : α) (ρ : List (Nat × Nat))
    (hr : ∀ x, I x → CW P c (lpQ (fun x => (St.drop dt dm st).set (f x) (g x)) m I (m x) Q) (st2 x)) (h0 : fit ρ st ((St.drop dt dm st).set (f x0) (g x0)) := by first | (simp only [go_sem, hA] <;> and_intros <;> first | with_reducible exact rfl | ((try clear kD); first | omega | with_reducible trivial | exact trivial | (intros; simp_all; done) | grind)) | (simp only [go_sem] <;> and_intros <;> first | with_reducible exact rfl | ((try clear kD); first | omega | with_reducible trivial | exact trivial | (intros; simp_all; done) | grind))) (hi : I x0 := by first | exact Nat.zero_le _ | (simp; done) | omega) (e : ∀ x, (St.drop dt dm st).set (f x) (g x) = st2 x := by intro x; first | (simp only [go_sem, hA]; exact rfl) | (simp only [go_sem]; exact rfl)) : CW P (.loop c) Q st :=
  CW_loopD dt dm f g m I x0 ρ h0 hi fun x hx => e x ▸ hr x hx
end
theorem N {α : Type} {S : α → St} {m : α → Nat} {I : α → Prop} {n : Nat} {Q : Ex → St → Prop} {st : St} (x : α) (ρ : List (Nat × Nat)) (h : fit ρ st (S x) := by first | (simp only [go_sem, hA] <;> and_intros <;> first | with_reducible exact rfl | ((try clear kD); first | omega | with_reducible trivial | exact trivial | (intros; simp_all; done) | grind)) | (simp only [go_sem] <;> and_intros <;> first | with_reducible exact rfl | ((try clear kD); first | omega | with_reducible trivial | exact trivial | (intros; simp_all; done) | grind))) (hi : I x := by omega) (hm : m x < n := by omega) : lpQ S m I n Q .normal st := lp_next x ρ h hi hm
def OkG (P : Program) (fn : Func) (sc : SC) : Prop := ∃ c, fn.body = some c ∧ compC P fn.ntmps c = some sc.er ∧ drawB c sc = true
def rvG (P : Nat → Option TypeInfo) : List ResultVar → List RV
  | [] => []
  | .tmp t :: l => .t t :: rvG P l
  | .cell a t :: l => .c a (szG P t) (agG (tdG P t)) :: rvG P l
structure PostL (w : World) (fz : Nat → Prop) (cells : List T) (e : Ending) (w' : World) (v : Value) (fz' So' : Nat → Prop) : Prop where
  ret : e = .returned v
  os : w'.os = w.os
  tape : w'.tape = w.tape
  output : w'.output = w.output
  size : w.heap.size ≤ w'.heap.size
  same : ∀ b, b < w.heap.size → w'.heap[b]? = w.heap[b]?
  fz1 : ∀ b, fz b → fz' b
  fz2 : ∀ b, fz' b → b < w'.heap.size ∧ (fz b ∨ w.heap.size ≤ b)
  own : ∀ b, So' b → b < w'.heap.size ∧ ¬ fz' b ∧ w.heap.size ≤ b
  obs : ObRep w' fz' (.var cells) So' v
def LayX (P : Program) [Inv P] (f : FuncId) (as : List Arg) (cells : List T) : Prop :=
  ∀ (w : World) (fz : Nat → Prop) (vs : List Value), Inv.I P w → (∀ b, fz b → b < w.heap.size) → ARepL w fz [] as (fun _ => False) vs →
    Calls P f (List.toArray vs) w fun e w' => ∃ v fz' So', PostL w fz cells e w' v fz' So'
def layE (F : Nat → Option V) (M : Nat → Option Mem) (cells : List T) : List RV → Prop
  | [.t n] => match F n with
    | some (.vptr d 0) => match M d with
      | some (.var cs) => match toTs cells M cs with
        | some (ts, ks) => ts = cells ∧ distN ks = true
        | none => False
      | _ => False
    | _ => False
  | _ => False
def endL (rvs : List RV) (cells : List T) : Ex → St → Prop
  | .exit _, _ => False
  | _, st => layE st.F st.M cells rvs
theorem endL_ok {P : Program} {E : Env} {fn : Func} {rvs : List RV} {cells : List T} {st : St} {a : Act} {w' : World} (hr : cmpR P fn.results.toList = some rvs) (hwr : ∀ b, ¬ E.wr b) (h : endL rvs cells .ret st) (hs : Simm E fn.ntmps st a w') :
    a.defers = [] ∧ ∃ v, (results fn a.tmps).run P w' = .ok v w' ∧ ∃ fz' So', PostL E.w0 E.fz cells (.returned v) w' v fz' So' := by
  obtain ⟨g, hs⟩ := hs
  simp only [endL] at h
  unfold layE at h
  split at h
  · rename_i n
    split at h
    · rename_i d hF
      split at h
      · rename_i cs hM
        split at h
        · rename_i ts ks hT
          obtain ⟨rfl, hd⟩ := h
          obtain ⟨b, cur, e, hbv, hb, hrep⟩ := hs.mem _ _ hM
          obtain ⟨t1, t2⟩ := toTs_ok (s := st.sf) hs hrep hT (distN_nodup hd)
          have hfr := hs.frame n _ hF
          simp only [VRep] at hfr
          obtain ⟨b', hbv', hv⟩ := hfr
          rw [hbv] at hbv'
          cases hbv'
          have hres : fn.results.toList = [.tmp n] := by
            generalize fn.results.toList = l at hr
            cases l with
            | nil => simp [cmpR] at hr
            | cons x l =>
              cases x with
              | tmp t =>
                simp only [cmpR, Option.map_eq_some_iff] at hr
                obtain ⟨l2, h1, h2⟩ := hr
                simp only [List.cons.injEq, RV.t.injEq] at h2
                obtain ⟨rfl, rfl⟩ := h2
                cases l with
                | nil => rfl
                | cons y l =>
                  cases y with
                  | tmp t2 => simp [cmpR] at h1
                  | cell c ty =>
                    simp only [cmpR] at h1
                    split at h1 <;> simp at h1
              | cell c ty =>
                simp only [cmpR] at hr
                split at hr <;> simp at hr
          have hown : ∀ x, (∃ k ∈ ks, g.fp k x) ∨ x = b → ∃ k, Own g k x := fun x hx => by
            rcases hx with ⟨k, _, hk⟩ | rfl
            · exact ⟨k, .inr hk⟩
            · exact ⟨_, .inl hbv⟩
          refine ⟨hs.defers, a.tmps.getD n undef, ?_, g.fz, fun x => (∃ k ∈ ks, g.fp k x) ∨ x = b, ⟨rfl, hs.os, hs.tape, hs.output, hs.size, fun x hx => hs.same x hx (hwr x), hs.fz1, fun x hx => ⟨hs.fzlt x hx, (hs.fz2 x hx).imp id fun h => h.resolve_left (hwr x)⟩, fun x hx => ?_, ?_⟩⟩
          · have hrun : ([ResultVar.tmp n].mapM fun
                | .tmp t => pure (a.tmps.getD t undef)
                | .cell x t => do loadVar t (← asAddr (a.tmps.getD x undef)) : Go.Sem (List Value)).run P w' = .ok [a.tmps.getD n undef] w' := by
              rw [List.mapM_cons]
              simp only [Sem.run_bind, Sem.run_pure, Result.andThen_ok]
              rfl
            unfold results
            have e : fn.results = List.toArray fn.results.toList := by simp
            rw [e, List.mapM_toArray, map_eq_pure_bind]
            simp only [Sem.run_bind]
            rw [hres]
            refine (congrArg (fun r => Result.andThen (Result.andThen r _) _) hrun).trans ?_
            simp only [Result.andThen_ok, Sem.run_pure]
            rfl
          · obtain ⟨k, hk⟩ := hown x hx
            exact ⟨(hs.ownlt k x hk).1, hs.ownfz k x hk, ((hs.ownlt k x hk).2).resolve_left (hwr x)⟩
          · refine ⟨b, cur, e, hv, .inr rfl, hb, t1.sub fun x hx => ⟨.inl hx, fun ee => ?_⟩⟩
            subst ee
            obtain ⟨k, hk, hf⟩ := hx
            have := hs.disj k d x (.inr hf) (.inl hbv)
            subst this
            exact (hs.kind k (by rw [hbv]; simp)).2 x hf
        · exact h.elim
      · exact h.elim
    · exact h.elim
  · exact h.elim
theorem LayX.of_code {P : Program} [Inv P] {f : FuncId} {fn : Func} {c : Code} {sc : SC} {as : List Arg} {cells : List T} {rvs : List RV} (hf : P.funcs[f]? = some fn) (hb : fn.body = some c) (hsc : compC P fn.ntmps c = some sc.er) (hd : drawB c sc = true) (hr : cmpR P fn.results.toList = some rvs)
    (hn : as.length ≤ fn.ntmps) (has : as.length < 200) (hok2 : ∀ c ∈ as, argOk c)
    (h : CW P sc (endL rvs cells) (initS as [])) : LayX P f as cells := by
  intro w fz vs hI hfz ha
  let E : Env := ⟨w, fun b => False ∨ False, fz, [], []⟩
  have hE : EnvOk P E := ⟨hI, fun b hb => by rcases hb with hb | hb <;> exact hb.elim⟩
  have h0 : Simm E fn.ntmps (initS as []) _ w := Sim.init (nt := fn.ntmps) (Sa := fun _ => False) (So := fun _ => False) hfz (fun b hb => by rcases hb with hb | hb <;> exact hb.elim) (fun _ h _ => h.elim) ha (by simp only [ObRepL]) (by simp) hok2 (by rw [ha.length]; exact hn) has
  refine calls_of_wp hf hb (wp_mono (CW_ok hE hsc hd h h0) ?_)
  intro e a w' he
  have fin : ∀ st, endL rvs cells .ret st → Simm E fn.ntmps st a w' → a.defers = [] ∧ ∃ v, (results fn a.tmps).run P w' = .ok v w' ∧ ∃ v' fz' So', PostL w fz cells (.returned v) w' v' fz' So' := by
    intro st h1 h2
    obtain ⟨d, v, hv, fz', So', q⟩ := endL_ok (E := E) hr (fun b hb => by rcases hb with hb | hb <;> exact hb.elim) h1 h2
    exact ⟨d, v, hv, v, fz', So', q⟩
  cases e <;> simp only [postC] at he
  · obtain ⟨st, h1, h2⟩ := he
    exact fin st h1 h2
  · obtain ⟨st, h1, h2⟩ := he
    exact h1.elim
  · obtain ⟨st, h1, h2⟩ := he
    exact fin st h1 h2
def layF (key : Nat) (cells : List T) : Eff :=
  ⟨.vptr key 0, (key, some (.var (ownVL (key + 1) cells))) :: (ownML (key + 1) cells).map (fun x => (x.1, some x.2)), key :: (ownML (key + 1) cells).map (·.1)⟩
theorem op_lay {P : Program} [Inv P] {E : Env} {nt : Nat} {o : Oper} {fo : Operand} {args : Array Operand} {tys : Array TypeId} {F : Nat → Option V} {M : Nat → Option Mem} {f : FuncId} {caps xs : List V} {as : List Arg} {cells : List T} {p : Prop} {key : Nat}
    (hE : EnvOk P E) (ho : o.op = .call ⟨.value fo, args, tys⟩) (hd : dstOk nt o.dst) (hcb : callB P f = true) (hsem : LayX P f as cells) (hf : ev F (opd fo) = some (.fn f caps)) (hx : evL F (args.toList.map opd) = some xs)
    (hg : giveAs false [] [] M as (xs ++ caps) = some (p, [])) (hp : p) : EffS P E nt o F M (layF key cells) := by
  intro s hsub hfr g a w hs K Q hK
  have h0 : Sim E nt ⟨F, M, s.B⟩ g a w := hs.less hsub.1 hsub.2 fun _ h => h
  obtain ⟨vs, hvs, hrun⟩ := enter_ok (s := ⟨F, M, s.B⟩) h0 ho hf hx hcb
  unfold Oper.wp
  rw [hrun, Oper.upon_enter]
  have hI := hE.now hs
  obtain ⟨o2, _⟩ := giveAs_ok (s := ⟨F, M, s.B⟩) h0 (hk := []) (hs := []) (fun i k hi => by simp at hi) hvs hg hp rfl
  have efp : FP g [] = fun _ => False := by
    funext b
    simp [FP]
  rw [efp] at o2
  refine (hsem w (fzC false [] g) vs hI (fun b hb => ?_) o2).mono fun e w' ⟨v, fz', So', hq⟩ => ?_
  · rcases hb with hb | ⟨hb, _⟩
    · exact hs.fzlt b hb
    · cases hb
  · have hret := hq.ret
    subst hret
    have hpost : Post P w (fzC false [] g) (fun _ => False) [] [] [] (.returned (.tuple #[])) w' (.tuple #[]) fz' So' (fun _ => False) :=
      ⟨rfl, hq.os, hq.tape, hq.output, hq.size, fun b hb _ => hq.same b hb, hq.fz1, fun b hb => ⟨(hq.fz2 b hb).1, (hq.fz2 b hb).2.imp id .inr⟩,
        fun b hb => by
          rcases hb with hb | hb
          · exact ⟨(hq.own b hb).1, (hq.own b hb).2.1, .inr (hq.own b hb).2.2⟩
          · exact hb.elim,
        fun _ _ h => h, ⟨[], by simp only [RRepL], by simp⟩, by simp only [ObRepL]⟩
    obtain ⟨g1, Si, s1, x1, hfz1, u1, _⟩ := hs.after (md := false) (bad := []) (ks := []) (hk := []) (hs := []) (S := fun _ => False) rfl (fun k => by simp [memN]) (fun k hk => by simp at hk) (fun i k hi => by simp at hi) (fun b hb => hb.elim) (show szOk s.M [] [] by simp only [szOk]) hpost
    have conv : ∀ b, fz' b → g1.fz b := fun b hb => (hfz1 b).2 ⟨hb, fun hX => by cases hX.1⟩
    obtain ⟨b, cur, el, hv, hSb, hh, hc⟩ := hq.obs
    have hc1 : OwL w' g1.fz cells (fun x => So' x ∧ x ≠ b) cur.toList := hc.mono (Nat.le_refl _) (fun b _ hb => ⟨conv b hb, rfl⟩) (fun _ h => h) (fun _ _ _ => rfl)
    have nkF : ∀ x, x = key ∨ x ∈ (ownML (key + 1) cells).map (·.1) → ¬ s.B x := fun x hx => hfr x (by simp only [layF, List.mem_cons]; exact hx)
    obtain ⟨g2, s2, x2, r2, f2, b2, o3, _⟩ := s1.distL (k := key + 1) hc1 (fun x hx => u1 x hx.1) (fun x hx => nkF x (.inr hx))
    have hun : Un E g2 w' b := (u1 b hSb).mono f2 o3 (fun hb => hb.2 rfl)
    obtain ⟨g3, s3, x3, bv3, _⟩ := s2.adopt (k := key) (fun hb => by
      rcases hb with hb | hb
      · have := ownML_key hb; omega
      · exact nkF key (.inl rfl) hb) hun hh r2
    have s4 : Sim E nt ⟨s.F, (s.app o.dst (layF key cells)).M, (s.app o.dst (layF key cells)).B⟩ g3 a w' := by
      refine s3.less (fun _ _ h => h) (fun k m hm => ?_) (fun k hb => ?_)
      · simp only [SF.app, layF, look, look_mapS] at hm
        simp only [SF.ext]
        by_cases e1 : k = key
        · simp only [if_pos e1] at hm ⊢
          exact hm
        · simp only [if_neg e1] at hm ⊢
          cases e2 : look k (ownML (key + 1) cells) with
          | some m2 =>
            rw [e2] at hm
            simpa using hm
          | none =>
            rw [e2] at hm
            simpa using hm
      · simp only [SF.ext, SF.app, layF, List.mem_cons] at hb ⊢
        rcases hb with hb | hb | hb
        · exact .inl (.inl hb)
        · exact .inl (.inr hb)
        · exact .inr hb
    have hrv : VRep w' g3 (.vptr key 0) v := by
      simp only [VRep]
      exact ⟨b, bv3, hv⟩
    have hput := s4.put (d := o.dst) hd hrv
    refine hK g3 _ w' ?_
    have e1 : s.app o.dst (layF key cells) = SF.put ⟨s.F, (s.app o.dst (layF key cells)).M, (s.app o.dst (layF key cells)).B⟩ o.dst (layF key cells).val := by
      cases o.dst <;> rfl
    rw [e1]
    exact hput
def layP (F : Nat → Option V) (M : Nat → Option Mem) (key : Nat) (fo : Opd) (args : List (Opd × Option Nat)) (f : FuncId) (as : List Arg) (cells : List T) (K : Eff → Prop) : Prop :=
  match ev F fo, evL F (args.map (·.1)) with
  | some (.fn f' caps), some xs => f' = f ∧ match giveAs false [] [] M as (xs ++ caps) with
    | some (p, []) => p ∧ K (layF key cells)
    | _ => False
  | _, _ => False
theorem layP_of {P : Program} [Inv P] {F : Nat → Option V} {M : Nat → Option Mem} {dst : Option Tmp} {key : Nat} {fo : Opd} {args : List (Opd × Option Nat)} {f : FuncId} {as : List Arg} {cells : List T} {K : Eff → Prop} (hcb : callB P f = true) (hsem : LayX P f as cells)
    (h : layP F M key fo args f as cells K) : callE P F M dst key fo args K .mk := by
  unfold layP at h
  split at h
  · rename_i f' caps xs h1 h2
    obtain ⟨rfl, h⟩ := h
    split at h
    · rename_i p h3
      obtain ⟨hp, hK⟩ := h
      refine ⟨_, hK, fun E nt o hE hc hdst hd => ?_⟩
      obtain ⟨fo', args', tys, e1, e2, rfl⟩ := cmp_call hc
      rw [argL_fst e2] at h2
      exact op_lay hE e1 hd hcb hsem h1 h2 h3 hp
    · exact h.elim
  · exact h.elim
theorem RW_lay {P : Program} [Inv P] {s : SOp} {l : List SOp} {st : St} {K : St → Prop} {fo : Opd} {args : List (Opd × Option Nat)} {f : FuncId} {as : List Arg} {cells : List T} {e : Eff} (hcb : callB P f = true) (hsem : LayX P f as cells) (hop : s.op = .call fo args) (hgd : s.gd = none)
    (h : layP st.F st.M s.key fo args f as cells (fun x => x = e)) (hf : freshN st.bn e.nk = true) (hK : RW P l (st.app s.dst e) K) : RW P (s :: l) st K := by
  simp only [RW, hgd, stepE, hop]
  refine layP_of hcb hsem ?_
  unfold layP at *
  split at h
  · obtain ⟨h1, h2⟩ := h
    refine ⟨h1, ?_⟩
    split at h2
    · obtain ⟨a1, rfl⟩ := h2
      exact ⟨a1, hf, hK⟩
    · exact h2.elim
  · exact h.elim
theorem kLay {P : Program} [Inv P] {s : SOp} {l : List SOp} {st st2 : St} {K : St → Prop} {fo : Opd} {args : List (Opd × Option Nat)} {f : FuncId} {as : List Arg} {cells : List T} {e : Eff} (hsem : LayX P f as cells) (k : RW P l st2 K) (hcb : callB P f = true := by kernel_rfl) (hop : s.op = .call fo args := by exact rfl) (hgd : s.gd = none := by exact rfl)
    (h : layP st.F st.M s.key fo args f as cells (fun x => x = e) := by first | (simp only [go_sem, hA] <;> and_intros <;> first | with_reducible exact rfl | ((try clear kD); first | omega | with_reducible trivial | exact trivial | (intros; simp_all; done) | grind)) | (simp only [go_sem] <;> and_intros <;> first | with_reducible exact rfl | ((try clear kD); first | omega | with_reducible trivial | exact trivial | (intros; simp_all; done) | grind)))
    (hf : freshN st.bn e.nk = true := by first | rfl | (first | (simp only [go_sem, hA]; exact rfl) | (simp only [go_sem]; exact rfl))) (hst : st.app s.dst e = st2 := by first | (simp only [go_sem, hA]; exact rfl) | (simp only [go_sem]; exact rfl)) : RW P (s :: l) st K := by
  subst hst
  exact RW_lay hcb hsem hop hgd h hf k
attribute [go_sem] layP layF layE endL
theorem kRq (md : Bool) (hk ksA ksO : List Nat) {P : Program} [Inv P] {s : SOp} {l : List SOp} {st st2 : St} {K : St → Prop} {fo : Opd} {args : List (Opd × Option Nat)} {f : FuncId} {as : List Arg} {L : List Ob} {rs : List TV} {L' : List Ob} {e : Eff} {p : Prop} (hsem : p → SemX P f as L rs L') (k : RW P l st2 K) (hcb : callB P f = true := by kernel_rfl) (hop : s.op = .call fo args := by exact rfl) (hgd : s.gd = none := by exact rfl)
    (h : callP st.F st.M s.key fo args f as L rs L' md hk ksA ksO (fun x => x = e) := by first | (simp only [go_sem, hA] <;> and_intros <;> first | with_reducible exact rfl | ((try clear kD); first | omega | with_reducible trivial | exact trivial | (intros; simp_all; done) | grind)) | (simp only [go_sem] <;> and_intros <;> first | with_reducible exact rfl | ((try clear kD); first | omega | with_reducible trivial | exact trivial | (intros; simp_all; done) | grind))) (hf : freshN st.bn e.nk = true := by first | rfl | (first | (simp only [go_sem, hA]; exact rfl) | (simp only [go_sem]; exact rfl))) (hst : st.app s.dst e = st2 := by first | (simp only [go_sem, hA]; exact rfl) | (simp only [go_sem]; exact rfl)) (hp : p := by first | omega | assumption | (and_intros <;> first | omega | assumption | decide | (simp; done) | (simp; omega) | grind)) : RW P (s :: l) st K := RW_callN hcb (hsem hp) md hk ksA ksO hop hgd h hf hst k
theorem kDq (md : Bool) (hk ksA ksO : List Nat) {P : Program} [Inv P] {J : Option (Nat × Nat)} {s : SOp} {l : List SOp} {st st2 : St} {K : St → Prop} {fo : Opd} {args : List (Opd × Option Nat)} {f : FuncId} {as : List Arg} {L : List Ob} {rs : List TV} {L' : List Ob} {e : Eff} {p : Prop} (hsem : p → SemX P f as L rs L') (k : DW P J l st2 K) (hcb : callB P f = true := by kernel_rfl) (hop : s.op = .call fo args := by exact rfl) (hgd : s.gd = none := by exact rfl)
    (h : callP (onlyN s.lk st.F) (onlyN s.rk st.M) s.key fo args f as L rs L' md hk ksA ksO (fun x => x = e) := by first | (simp only [go_sem, hA] <;> and_intros <;> first | with_reducible exact rfl | ((try clear kD); first | omega | with_reducible trivial | exact trivial | (intros; simp_all; done) | grind)) | (simp only [go_sem] <;> and_intros <;> first | with_reducible exact rfl | ((try clear kD); first | omega | with_reducible trivial | exact trivial | (intros; simp_all; done) | grind))) (h11n : ¬ s.h = 11 := by decide) (hj : keepS J s e.wm := by first | exact trivial | (simp only [go_sem]; done) | (simp only [go_sem]; exact rfl)) (hf : (freshN st.bn e.nk && (subN (e.wm.map (·.1)) s.wk && subN e.nk s.wk)) = true := by first | rfl | (first | (simp only [go_sem, hA]; exact rfl) | (simp only [go_sem]; exact rfl))) (hst : st.app s.dst e = st2 := by first | (simp only [go_sem, hA]; exact rfl) | (simp only [go_sem]; exact rfl)) (hp : p := by first | omega | assumption | (and_intros <;> first | omega | assumption | decide | (simp; done) | (simp; omega) | grind)) : DW P J (s :: l) st K := DW_callN hcb (hsem hp) md hk ksA ksO hop hgd h11n hj h hf hst k
theorem kGc (md : Bool) (hk ksA ksO : List Nat) {P : Program} [Inv P] {s : SOp} {l : List SOp} {st st1 st0 : St} {K : St → Prop} {fo : Opd} {args : List (Opd × Option Nat)} {f : FuncId} {as : List Arg} {L : List Ob} {rs : List TV} {L' : List Ob} {e : Eff} {gd : Tmp × Bool} {c : Bool} {p p1 p0 : Prop} (hsem : p → SemX P f as L rs L') (k1 : p1 → RW P l st1 K) (k0 : p0 → RW P l st0 K)
    (hcb : callB P f = true := by kernel_rfl) (hop : s.op = .call fo args := by exact rfl) (hgd : s.gd = some gd := by exact rfl) (h14 : s.h = 14 := by rfl) (hw : wantS st.F (some gd) = some c := by first | (simp only [go_sem, hA]; exact rfl) | (simp only [go_sem]; exact rfl))
    (h : c = true → gus st.F c s.ug ∧ callP (unF s.ug st.F) st.M s.key fo args f as L rs L' md hk ksA ksO (fun x => x = e) := by intro hg; first | (simp only [go_sem, hA] <;> and_intros <;> first | with_reducible exact rfl | ((try clear kD); first | omega | with_reducible trivial | exact trivial | (intros; simp_all; done) | grind)) | (simp only [go_sem] <;> and_intros <;> first | with_reducible exact rfl | ((try clear kD); first | omega | with_reducible trivial | exact trivial | (intros; simp_all; done) | grind))) (hf : freshN st.bn e.nk = true := by first | rfl | (first | (simp only [go_sem, hA]; exact rfl) | (simp only [go_sem]; exact rfl))) (hst1 : st.app s.dst ⟨.opt true e.val, e.wm, e.nk⟩ = st1 := by first | (simp only [go_sem, hA]; exact rfl) | (simp only [go_sem]; exact rfl)) (hst0 : st.app s.dst ⟨.opt false .undef, [], []⟩ = st0 := by first | (simp only [go_sem, hA]; exact rfl) | (simp only [go_sem]; exact rfl))
    (hp1 : (c = true) = p1 := by first | (simp only [b1, b2, b3, b4, b5, b6, b7]; exact rfl) | exact rfl) (hp0 : (c = false) = p0 := by first | (simp only [b1, b2, b3, b4, b5, b6, b7]; exact rfl) | exact rfl) (hp : p1 → p := by intro hg; first | omega | assumption | (and_intros <;> first | omega | assumption | decide | (simp; done) | (simp; omega) | grind)) : RW P (s :: l) st K :=
  RW_callGC hcb (fun hc => hsem (hp (hp1 ▸ hc))) md hk ksA ksO hop hgd h14 hw h hf hst1 hst0 (fun hc => k1 (hp1 ▸ hc)) (fun hc => k0 (hp0 ▸ hc))
theorem opd_eqs : opd (.tmp 0) = .t 0 ∧ opd (.const (.pointer none)) = .pn ∧ opd (.func 0) = .f 0 ∧ opd (.const .nilIface) = .nif := ⟨opd.eq_1 0, opd.eq_7, opd.eq_8 0, opd.eq_6⟩
end Go.H
end
section
set_option linter.unusedVariables false
set_option linter.unusedSimpArgs false
namespace Go.H
open Go
def TV.shr : TV → TV
  | .one t => .one t.shr
  | .agg ts => .agg (T.shrL ts)
def TV.shrs : List TV → List TV
  | [] => []
  | t :: ts => t.shr :: TV.shrs ts
theorem T.ro_shr (t : T) : t.shr.ro = t.shr := by cases t <;> simp only [T.shr, T.ro]
theorem shr_ownL {w : World} {fz : Nat → Prop} : ∀ {ts : List T} {S : Nat → Prop} {vs : List Value}, RoL w fz (T.shrL ts) vs → OwL w fz (T.shrL ts) S vs
  | [], S, vs, h => by simpa only [T.shrL, OwL, RoL] using h
  | t :: ts, S, vs, h => by
    simp only [T.shrL, OwL, RoL] at h ⊢
    obtain ⟨u, us, e, h1, h2⟩ := h
    refine ⟨u, us, fun _ => False, fun _ => False, e, fun b hb => hb.elim, fun b hb => hb.elim, ?_, shr_ownL h2⟩
    have := ro_own (fz := fz) (S := fun _ => False) h1 (.inl fun b hb => hb)
    rwa [T.ro_shr] at this
theorem RRep.shr {w : World} {fz fz2 : Nat → Prop} (hf : ∀ b, fz b → fz2 b) : ∀ {r : TV} {S S' : Nat → Prop} {v : Value}, (∀ b, S b → fz2 b) → RRep w fz r S v → RRep w fz2 r.shr S' v
  | .one t, S, S', v, hs, h => by
    simp only [TV.shr, RRep] at h ⊢
    have := ro_own (fz := fz2) (S := S') (RoT.shr (OwT.ro hf (fun b _ hb => hs b hb) h)) (.inl fun b hb => hb)
    rwa [T.ro_shr] at this
  | .agg ts, S, S', v, hs, h => by
    simp only [TV.shr, RRep] at h ⊢
    obtain ⟨us, e, h⟩ := h
    exact ⟨us, e, shr_ownL (RoL.shr (OwL.ro hf (fun b _ hb => hs b hb) h))⟩
theorem RRepL.shr {w : World} {fz fz2 : Nat → Prop} (hf : ∀ b, fz b → fz2 b) : ∀ {rs : List TV} {S S' : Nat → Prop} {vs : List Value}, (∀ b, S b → fz2 b) → RRepL w fz rs S vs → RRepL w fz2 (TV.shrs rs) S' vs
  | [], S, S', vs, hs, h => by simpa only [TV.shrs, RRepL] using h
  | r :: rs, S, S', vs, hs, h => by
    simp only [TV.shrs, RRepL] at h ⊢
    obtain ⟨u, us, S1, S2, e, h1, h2, h3, h4⟩ := h
    exact ⟨u, us, fun _ => False, fun _ => False, e, fun b hb => hb.elim, fun b hb => hb.elim, h3.shr hf (fun b hb => hs b (h1 b hb).1), RRepL.shr hf (fun b hb => hs b (h2 b hb)) h4⟩
theorem SemX_shr {P : Program} [Inv P] {f : FuncId} {as : List Arg} {L : List Ob} {rs : List TV} {L' : List Ob} (h : SemX P f as L rs L') {rs2 : List TV} (e : TV.shrs rs = rs2) : SemX P f as L rs2 L' := by
  subst e
  intro w fz Sa So hs vs hI h1 h2 h3 h4 h5
  refine (h w fz Sa So hs vs hI h1 h2 h3 h4 h5).mono fun en w' ⟨v, fz', Sr, So', hp⟩ => ?_
  refine ⟨v, fun b => fz' b ∨ Sr b, fun _ => False, So', ?_⟩
  refine ⟨hp.ret, hp.os, hp.tape, hp.output, hp.size, hp.same, fun b hb => .inl (hp.fz1 b hb), fun b hb => ?_, fun b hb => ?_, fun b hb => hb.elim, ?_, hp.obs.mono (fun b hb => .inl hb)⟩
  · rcases hb with hb | hb
    · exact hp.fz2 b hb
    · obtain ⟨a1, _, a3⟩ := hp.own b (.inl hb)
      exact ⟨a1, .inr a3⟩
  · rcases hb with hb | hb
    · exact hb.elim
    · obtain ⟨a1, a2, a3⟩ := hp.own b (.inr hb)
      exact ⟨a1, fun hx => by rcases hx with hx | hx; exact a2 hx; exact hp.dis b hx hb, a3⟩
  · obtain ⟨us, hr, hv⟩ := hp.res
    exact ⟨us, RRepL.shr (fun b hb => .inl hb) (fun b hb => .inr hb) hr, hv⟩
end Go.H
end
