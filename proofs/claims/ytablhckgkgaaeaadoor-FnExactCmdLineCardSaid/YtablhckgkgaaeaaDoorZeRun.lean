/- A part of E, an interpreter of Go code on trees, proved sound over the model for every program. No condition beyond what each theorem states. -/
import Derived.Test.YtablhckgkgaaeaaDoorZeBody
set_option linter.unusedSimpArgs false
set_option linter.unusedVariables false
namespace Go.E
open Go

/-! ### Runs of operations, told by a computation; what is left to show stands in a list -/

def allP : List Prop → Prop
  | [] => True
  | [p] => p
  | p :: ps => p ∧ allP ps

theorem allP_cons {p : Prop} {ps : List Prop} : allP (p :: ps) ↔ p ∧ allP ps := by
  cases ps with
  | nil => simp [allP]
  | cons q qs => simp only [allP]
theorem allP_append {ps qs : List Prop} : allP (ps ++ qs) ↔ allP ps ∧ allP qs := by
  induction ps with
  | nil => simp [allP]
  | cons p ps ih => simp only [List.cons_append, allP_cons, ih, and_assoc]

/-- A string's byte. -/
def bt (s : ByteArray) (i : Int) : Int := if h : i.toNat < s.size then ((s[i.toNat]'h).toNat : Int) else 0

def binC (op : BinOp) (x y : V) : Option (V × List Prop) :=
  match x, y with
  | .int k a, .int k' b =>
    match op with
    | .quo => if k = k' then some (.int k (k.wrap (a.tdiv b)), [b ≠ 0]) else none
    | .rem => if k = k' then some (.int k (a.tmod b), [b ≠ 0]) else none
    | .shl => some (.int k (k.wrap (a * 2 ^ (min b.toNat k.bits))), [0 ≤ b])
    | .shr => some (.int k (a.fdiv (2 ^ (min b.toNat k.bits))), [0 ≤ b])
    | op => if k = k' then (match cmpI op a b with
        | some c => some (.bool c, [])
        | none => match intI op k a b with
          | some n => some (.int k n, [])
          | none => none) else none
  | .str a, .str b =>
    match op with
    | .add => some (.str (a ++ b), [a.size + b.size ≤ 9223372036854775807])
    | op => match cmpS op a b with
      | some c => some (.bool c, [])
      | none => none
  | _, _ => none

theorem binC_ok {op : BinOp} {x y z : V} {ps : List Prop} (h : binC op x y = some (z, ps)) (hp : allP ps) : binV op x y = some z := by
  unfold binC at h
  split at h
  · rename_i k a k' b
    split at h
    · split at h
      · rename_i hk; subst hk; cases h
        have hb : b ≠ 0 := hp
        simp [binV, shI, cmpI, intI, hb]
      · cases h
    · split at h
      · rename_i hk; subst hk; cases h
        have hb : b ≠ 0 := hp
        simp [binV, shI, cmpI, intI, hb]
      · cases h
    · cases h
      have hb : (0 : Int) ≤ b := hp
      have hb' : ¬ b < 0 := by omega
      simp [binV, shI, hb']
    · cases h
      have hb : (0 : Int) ≤ b := hp
      have hb' : ¬ b < 0 := by omega
      simp [binV, shI, hb']
    · rename_i h1 h2 h3 h4
      split at h
      · rename_i hk; subst hk
        split at h
        · rename_i c hc
          cases h
          have : shI op k a b = none := by cases op <;> simp [shI, cmpI] at hc ⊢
          simp [binV, this, hc]
        · rename_i hc
          split at h
          · rename_i n hn
            cases h
            have : shI op k a b = none := by cases op <;> simp [shI] at h3 h4 ⊢
            simp [binV, this, hc, hn]
          · cases h
      · cases h
  · rename_i a b
    split at h
    · cases h
      have hb : a.size + b.size ≤ 9223372036854775807 := hp
      simp [binV, hb]
    · rename_i hop
      split at h
      · rename_i c hc
        cases h
        cases op <;> simp only [binV, hc, Option.map_some]
        exact absurd rfl hop
      · cases h
  · cases h

def idxC (P : Program) (st : St) (t : TypeId) (x i : V) : Option (V × List Prop) :=
  match P.underlying t, x, i with
  | some (.slice e), .sl dep sz rows, .int _ n => if tySz P e = some sz then some (.rptr dep (rows.getD n.toNat []) 0, [0 ≤ n ∧ n < rows.length]) else none
  | some (.slice e), .ref κ off len, .int _ n =>
    match look κ st.as with
    | some A => if tySz P e = some A.sz then some (.eptr κ (off + n.toNat) 0, [0 ≤ n ∧ n < len]) else none
    | none => none
  | some (.array len e), .vptr d j, .int _ n =>
    match tySz P e with
    | some s => some (.vptr d (j + n.toNat * s), [0 ≤ n ∧ n < len])
    | none => none
  | _, _, _ => none

theorem idxC_ok {P : Program} {st : St} {t : TypeId} {x i z : V} {ps : List Prop} (h : idxC P st t x i = some (z, ps)) (hp : allP ps) : idxV P st t x i = some z := by
  unfold idxC at h
  unfold idxV
  split at h
  · rename_i e dep sz rows k n hu
    split at h
    · rename_i hs
      cases h
      have hp' : 0 ≤ n ∧ n < rows.length := hp
      simp only [hu, hs, hp', true_and, and_true, and_self, if_true]
      have hlt : n.toNat < rows.length := by omega
      simp [List.getD_eq_getElem?_getD, hlt]
    · cases h
  · rename_i e κ off len k n hu
    split at h
    · rename_i A hA
      split at h
      · rename_i hs
        cases h
        have hp' : 0 ≤ n ∧ n < len := hp
        simp [hu, hA, hs, hp']
      · cases h
    · cases h
  · rename_i len e d j k n hu
    split at h
    · rename_i s hs
      cases h
      have hp' : 0 ≤ n ∧ n < len := hp
      simp [hu, hs, hp']
    · cases h
  · cases h

def bndC (st : St) (df : Nat) : Option Operand → Option (Nat × List Prop)
  | none => some (df, [])
  | some o => match evO st o with
    | some (.int _ n) => some (n.toNat, [0 ≤ n])
    | _ => none

theorem bndC_ok {st : St} {df : Nat} {o : Option Operand} {n : Nat} {ps : List Prop} (h : bndC st df o = some (n, ps)) (hp : allP ps) : bnd st df o = some n := by
  unfold bndC at h
  unfold bnd
  split at h
  · cases h; rfl
  · rename_i o
    dsimp only
    split at h
    · rename_i k m hm
      cases h
      have : (0 : Int) ≤ m := hp
      simp [hm, this]
    · cases h

def sliceC (P : Program) (st : St) (t : TypeId) (x : V) (lo hi mx : Option Operand) : Option (V × List Prop) :=
  match P.underlying t, x, mx with
  | some .string, .str s, none =>
    match bndC st 0 lo, bndC st s.size hi with
    | some (l, p), some (h, q) => some (.str (s.extract l h), p ++ (q ++ [l ≤ h ∧ h ≤ s.size]))
    | _, _ => none
  | some (.slice e), .sl dep sz rows, none =>
    match bndC st 0 lo, bndC st rows.length hi with
    | some (l, p), some (h, q) => if tySz P e = some sz then some (.sl dep sz ((rows.take h).drop l), p ++ (q ++ [l ≤ h ∧ h ≤ rows.length])) else none
    | _, _ => none
  | some (.slice e), .ref κ off len, none =>
    match bndC st 0 lo, bndC st len hi, look κ st.as with
    | some (l, p), some (h, q), some A => if tySz P e = some A.sz then some (.ref κ (off + l) (h - l), p ++ (q ++ [l ≤ h ∧ h ≤ len])) else none
    | _, _, _ => none
  | some (.slice e), x, _ => match sliceV P st t x lo hi mx with
    | some y => some (y, [])
    | none => none
  | _, _, _ => none

theorem sliceC_ok {P : Program} {st : St} {t : TypeId} {x z : V} {lo hi mx : Option Operand} {ps : List Prop} (h : sliceC P st t x lo hi mx = some (z, ps)) (hp : allP ps) : sliceV P st t x lo hi mx = some z := by
  unfold sliceC at h
  split at h
  · rename_i s hu
    split at h
    · rename_i l p hh q h1 h2
      cases h
      rw [allP_append, allP_append] at hp
      have hb : l ≤ hh ∧ hh ≤ s.size := hp.2.2
      unfold sliceV
      simp [hu, bndC_ok h1 hp.1, bndC_ok h2 hp.2.1, hb]
    · cases h
  · rename_i e dep sz rows hu
    split at h
    · rename_i l p hh q h1 h2
      split at h
      · rename_i hs
        cases h
        rw [allP_append, allP_append] at hp
        have hb : l ≤ hh ∧ hh ≤ rows.length := hp.2.2
        unfold sliceV
        simp only [hu, bndC_ok h1 hp.1, bndC_ok h2 hp.2.1, hb, hs, and_self, if_true]
      · cases h
    · cases h
  · rename_i e κ off len hu
    split at h
    · rename_i l p hh q A h1 h2 hA
      split at h
      · rename_i hs
        cases h
        rw [allP_append, allP_append] at hp
        have hb : l ≤ hh ∧ hh ≤ len := hp.2.2
        unfold sliceV
        simp only [hu, bndC_ok h1 hp.1, bndC_ok h2 hp.2.1, hA, hb, hs, and_self, if_true]
      · cases h
    · cases h
  · split at h
    · rename_i y hy
      cases h
      exact hy
    · cases h
  · cases h

/-- What a quiet operation tells, and what is left to show. -/
def opC (P : Program) (st : St) (s : SOp) : Option (V × List Prop) :=
  match s.op with
  | .binOp op _ x y _ => match evO st x, evO st y with | some x, some y => binC op x y | _, _ => none
  | .indexAddr t x i => match evO st x, evO st i with | some x, some i => idxC P st t x i | _, _ => none
  | .slice t x lo hi mx => match evO st x with | some x => sliceC P st t x lo hi mx | none => none
  | .index t x i => match P.underlying t, evO st x, evO st i with
    | some .string, some (.str s), some (.int _ n) => some (.int .u8 (bt s n), [0 ≤ n ∧ n < s.size])
    | _, _, _ => none
  | _ => match opV P st s with
    | some x => some (x, [])
    | none => none

theorem opC_ok {P : Program} {st : St} {s : SOp} {x : V} {ps : List Prop} (h : opC P st s = some (x, ps)) (hp : allP ps) : opV P st s = some x := by
  unfold opC at h
  split at h
  · rename_i op t a b t' e
    split at h
    · rename_i x' y' h1 h2
      unfold opV
      rw [e]; dsimp only
      unfold calcV
      have : s.oper.op = .binOp op t a b t' := e
      rw [this]; dsimp only
      rw [h1, h2]
      exact binC_ok h hp
    · cases h
  · rename_i t a b e
    split at h
    · rename_i x' y' h1 h2
      unfold opV
      rw [e]; dsimp only
      rw [h1, h2]
      exact idxC_ok h hp
    · cases h
  · rename_i t a lo hi mx e
    split at h
    · rename_i x' h1
      unfold opV
      rw [e]; dsimp only
      rw [h1]
      exact sliceC_ok h hp
    · cases h
  · rename_i t a b e
    split at h
    · rename_i str k n hu h1 h2
      cases h
      have hp' : 0 ≤ n ∧ n < str.size := hp
      unfold opV
      rw [e]; dsimp only
      unfold calcV
      have : s.oper.op = .index t a b := e
      rw [this]; dsimp only
      rw [hu, h1, h2]
      have hlt : n.toNat < str.size := by omega
      simp only [hp'.1, hlt, and_self, dite_true, bt]
    · cases h
  · split at h
    · rename_i y hy
      cases h
      exact hy
    · cases h

/-- What must hold of the operands that may not be there. -/
def under (oc : Option Bool) (p : Prop) : Prop :=
  match oc with
  | none => p
  | some c => c = true → p

def optP (oc : Option Bool) : V → List Prop
  | .opt c' _ => [under oc (c' = true)]
  | _ => []

def unwP (oc : Option Bool) (fr : List (Nat × V)) : List Tmp → List Prop
  | [] => []
  | t :: ts => match look t fr with
    | some x => optP oc x ++ unwP oc fr ts
    | none => unwP oc fr ts

def ocB : Option Bool → Bool
  | none => true
  | some c => c

theorem under_ok {oc : Option Bool} {p : Prop} (h : under oc p) (hc : ocB oc = true) : p := by
  cases oc with
  | none => exact h
  | some c => exact h hc

theorem optP_ok {oc : Option Bool} {x : V} (h : allP (optP oc x)) (hc : ocB oc = true) : x.uc = true := by
  cases x with
  | opt c' y => exact under_ok (p := c' = true) h hc
  | _ => rfl

theorem unwP_ok {oc : Option Bool} {fr : List (Nat × V)} (hc : ocB oc = true) : ∀ {ts : List Tmp}, allP (unwP oc fr ts) → unwC fr ts = true
  | [], _ => rfl
  | t :: ts, h => by
    unfold unwP at h
    unfold unwC
    cases hl : look t fr with
    | none => rw [hl] at h; exact unwP_ok hc h
    | some x =>
      rw [hl] at h
      simp only [allP_append] at h
      simp only [optP_ok h.1 hc, unwP_ok hc h.2, Bool.and_self]

def undP (oc : Option Bool) (ps : List Prop) : List Prop :=
  match oc with
  | none => ps
  | some c => ps.map fun p => c = true → p

theorem undP_ok {oc : Option Bool} (hc : ocB oc = true) : ∀ {ps : List Prop}, allP (undP oc ps) → allP ps := by
  intro ps h
  cases oc with
  | none => exact h
  | some c =>
    induction ps with
    | nil => trivial
    | cons p ps ih =>
      simp only [undP, List.map_cons, allP_cons] at h ih ⊢
      exact ⟨h.1 hc, ih h.2⟩

def pickC (P : Program) (st : St) (oc : Option Bool) (ty : TypeId) (q a b : Operand) : Option (V × List Prop) :=
  match evO st q, evT P st ty a, evT P st ty b with
  | some q, some x, some y =>
    match q.uw with
    | .bool t => match mergeV t x.uw y.uw with
      | some z => some (z, optP oc q ++ ((optP oc x).map (fun p => t = true → p) ++ (optP oc y).map (fun p => t = false → p)))
      | none => none
    | _ => none
  | _, _, _ => none

theorem optP_imp {oc : Option Bool} {x : V} {r : Prop} (h : allP ((optP oc x).map fun p => r → p)) (hc : ocB oc = true) (hr : r) : x.uc = true := by
  cases x with
  | opt c' y => exact under_ok (p := c' = true) ((h : r → under oc (c' = true)) hr) hc
  | _ => rfl

def quietC (P : Program) (st : St) (oc : Option Bool) (s : SOp) : Option (V × List Prop) :=
  match s.op with
  | .pick q a b => pickC P st oc s.ty q a b
  | .call ⟨.value _, _, _⟩ => none
  | .buildSlice t len parts => match buildSliceF P { st with fr := unwF st.fr (opTmps s) } t len parts.toList with
    | some x => some (x, unwP oc st.fr (opTmps s))
    | none => none
  | _ => match opC P { st with fr := unwF st.fr (opTmps s) } s with
    | some (x, ps) => some (x, unwP oc st.fr (opTmps s) ++ undP oc ps)
    | none => none

theorem quietC_ok {P : Program} [Inv P] {st : St} {oc : Option Bool} {s : SOp} {x : V} {ps : List Prop} (h : quietC P st oc s = some (x, ps)) (hp : allP ps) {K : V → Prop} (hK : K x) : quietS P st (ocB oc) s K := by
  unfold quietC at h
  unfold quietS
  split at h
  · rename_i q a b e
    rw [e]; dsimp only
    unfold pickC at h
    unfold pickW
    split at h
    · rename_i q' x' y' h1 h2 h3
      rw [h1, h2, h3]; dsimp only
      split at h
      · rename_i t ht
        rw [ht]; dsimp only
        split at h
        · rename_i z hz
          cases h
          rw [allP_append, allP_append] at hp
          rw [hz]
          exact ⟨fun hc => optP_ok hp.1 hc, fun hc ht => optP_imp hp.2.1 hc ht, fun hc ht => optP_imp hp.2.2 hc ht, hK⟩
        · cases h
      · cases h
    · cases h
  · cases h
  · rename_i t len parts e
    split at h
    · rename_i y hy
      cases h
      rw [e]; dsimp only
      refine ⟨fun hc => unwP_ok hc hp, ?_⟩
      unfold quietW
      rw [e]; dsimp only
      rw [hy]
      exact hK
    · cases h
  · rename_i hnp hnc hnb
    split at h
    · rename_i y qs hy
      cases h
      rw [allP_append] at hp
      split
      · rename_i q a b e; exact absurd e (hnp q a b)
      · refine ⟨fun hc => unwP_ok hc hp.1, ?_⟩
        unfold quietW
        split
        · rename_i f args tys e; exact absurd e (hnc f args tys)
        · rename_i t len parts e; exact absurd e (hnb t len parts)
        · exact ⟨x, fun hc => opC_ok hy (undP_ok hc hp.2), hK⟩
    · cases h

/-- One operation. -/
def isBS (s : SOp) : Bool :=
  match s.op with
  | .buildSlice .. => true
  | _ => false

def frzB (fz : List Tmp) (s : SOp) : Bool :=
  match s.dst with
  | some t => fz.contains t
  | none => true

def stepC (P : Program) (d : Bool) (fz : List Tmp) (s : SOp) (st : St) : Option (St × List Prop) :=
  match s.gd with
  | none =>
    if s.loud || (isBS s && !d && !(frzB fz s)) then (if d then none else (match louV P st s with | some st' => some (st', []) | none => none))
    else if dstOk st.nt s.dst then (match quietC P st none s with | some (x, ps) => some (st.put s.dst x, ps) | none => none) else none
  | some g =>
    match wantS st (some g) with
    | some c => if s.loud then none else if dstOk st.nt s.dst then (match quietC P st (some c) s with | some (x, ps) => some (st.put s.dst (.opt c x), ps) | none => none) else none
    | none => none

def runC (P : Program) (d : Bool) (fz : List Tmp) : Nat → List SOp → St → Option (St × List Prop)
  | 0, _, st => some (st, [])
  | n + 1, s :: l, st => match stepC P d fz s st with
    | some (st1, ps) => match runC P d fz n l st1 with
      | some (st2, qs) => some (st2, ps ++ qs)
      | none => none
    | none => none
  | _ + 1, [], _ => none

theorem stepW_lou {P : Program} [Inv P] {st st' : St} {s : SOp} {K : St → Prop} (h : louV P st s = some st') (hK : K st') : stepW P st s K := by
  unfold louV at h
  unfold stepW
  split at h
  · rw [h]; exact hK
  · rw [h]; exact hK
  · rw [h]; exact hK
  · rw [h]; exact .inl hK
  · cases h

theorem stepW_quiet {P : Program} [Inv P] {st : St} {s : SOp} {K : St → Prop} (hl : s.loud = false) (hd : dstOk st.nt s.dst = true) (h : quietS P st true s fun x => K (st.put s.dst x)) : stepW P st s K := by
  unfold stepW
  unfold SOp.loud at hl
  split <;> first | exact ⟨hd, h⟩ | exact .inr ⟨hd, h⟩ | (rename_i e; rw [e] at hl; exact absurd hl (by simp))

theorem stepC_RW {P : Program} [Inv P] {fz : List Tmp} {s : SOp} {l : List SOp} {st st' : St} {ps : List Prop} {K : St → Prop} (h : stepC P false fz s st = some (st', ps)) (hp : allP ps) (hK : RW P l st' K) : RW P (s :: l) st K := by
  unfold stepC at h
  unfold RW
  split at h
  · rename_i hg
    rw [hg]; dsimp only
    split at h
    · simp only [Bool.false_eq_true, if_false] at h
      split at h
      · rename_i st2 h2
        cases h
        exact stepW_lou h2 hK
      · cases h
    · rename_i hl
      split at h
      · rename_i hd
        split at h
        · rename_i x qs hx
          cases h
          exact stepW_quiet (by simp only [Bool.or_eq_true, not_or, Bool.not_eq_true] at hl; exact hl.1) hd (quietC_ok hx hp hK)
        · cases h
      · cases h
  · rename_i g hg
    rw [hg]; dsimp only
    split at h
    · rename_i c hw
      rw [hw]; dsimp only
      split at h
      · cases h
      · rename_i hl
        rw [if_neg hl]
        split at h
        · rename_i hd
          split at h
          · rename_i x qs hx
            cases h
            exact ⟨hd, quietC_ok hx hp hK⟩
          · cases h
        · cases h
    · cases h

theorem stepC_DW {P : Program} [Inv P] {fz : List Tmp} {s : SOp} {l : List SOp} {st st' : St} {ps : List Prop} {K : St → Prop} (h : stepC P true fz s st = some (st', ps)) (hp : allP ps) (hK : DW P l st' K) : DW P (s :: l) st K := by
  unfold stepC at h
  unfold DW
  split at h
  · rename_i hg
    rw [hg]; dsimp only
    split at h
    · cases h
    · rename_i hl
      split at h
      · rename_i hd
        split at h
        · rename_i x qs hx
          cases h
          exact ⟨hd, quietC_ok (oc := none) hx hp hK⟩
        · cases h
      · cases h
  · rename_i g hg
    rw [hg]; dsimp only
    split at h
    · rename_i c hw
      rw [hw]; dsimp only
      split at h
      · cases h
      · split at h
        · rename_i hd
          split at h
          · rename_i x qs hx
            cases h
            exact ⟨hd, quietC_ok hx hp hK⟩
          · cases h
        · cases h
    · cases h

/-- The walk of a region, drawn or not. -/
def XW (P : Program) [Inv P] (d : Bool) (l : List SOp) (st : St) (K : St → Prop) : Prop :=
  match d with
  | true => DW P l st K
  | false => RW P l st K

theorem runC_XW {P : Program} [Inv P] {d : Bool} {fz : List Tmp} {K : St → Prop} : ∀ {n : Nat} {l : List SOp} {st st' : St} {ps : List Prop}, runC P d fz n l st = some (st', ps) → allP ps → XW P d (l.drop n) st' K → XW P d l st K
  | 0, l, st, st', ps, h, _, hK => by
    simp only [runC, Option.some.injEq, Prod.mk.injEq] at h
    obtain ⟨rfl, rfl⟩ := h
    simpa using hK
  | n + 1, [], st, st', ps, h, _, _ => by cases h
  | n + 1, s :: l, st, st', ps, h, hp, hK => by
    simp only [runC] at h
    split at h
    · rename_i st1 ps1 h1
      split at h
      · rename_i st2 qs h2
        cases h
        rw [allP_append] at hp
        have := runC_XW h2 hp.2 (K := K) (by simpa using hK)
        cases d with
        | true => exact stepC_DW h1 hp.1 this
        | false => exact stepC_RW h1 hp.1 this
      · cases h
    · cases h

def runSt (P : Program) (d : Bool) (fz : List Tmp) (n : Nat) (l : List SOp) (st : St) : St :=
  match runC P d fz n l st with
  | some (s, _) => s
  | none => st

theorem run_XW {P : Program} [Inv P] {d : Bool} {K : St → Prop} {l : List SOp} {st : St} (fz : List Tmp) (n : Nat) {ps : List Prop} (h : (match runC P d fz n l st with | some (_, ps) => some ps | none => none) = some ps) (hp : allP ps) (hK : XW P d (l.drop n) (runSt P d fz n l st) K) : XW P d l st K := by
  cases hr : runC P d fz n l st with
  | none => rw [hr] at h; cases h
  | some r =>
    obtain ⟨st', ps'⟩ := r
    rw [hr] at h
    cases h
    unfold runSt at hK
    rw [hr] at hK
    exact runC_XW hr hp hK

/-! Calls. -/

structure CallInfo where
  c : Option Bool
  f : FuncId
  ts : List TV
  pm : Bool
  dst : Option Tmp
  ps : List Prop

def callC (P : Program) (l : List SOp) (st : St) : Option CallInfo :=
  match l with
  | [] => none
  | s :: _ =>
    match s.op with
    | .call ⟨.value fo, args, tys⟩ =>
      match wantS st s.gd with
      | some c =>
        let oc := match s.gd with | none => none | some _ => some c
        let st' : St := { st with fr := unwF st.fr (opTmps s) }
        match callArgs P st' ⟨.value fo, args, tys⟩ with
        | some (f, xs) => match roAll P st' xs with
          | some ts => if callable P f && dstOk st.nt s.dst then some ⟨oc, f, ts, V.permL (xs.map (·.1)), s.dst, unwP oc st.fr (opTmps s)⟩ else none
          | none => none
        | none => none
      | none => none
    | _ => none

def optV (oc : Option Bool) (x : V) : V :=
  match oc with
  | none => x
  | some c => .opt c x

/-- A call: its contract is put in. -/
theorem callC_XW {P : Program} [Inv P] {d : Bool} {K : St → Prop} {l : List SOp} {st : St} {i : CallInfo} {rs : List TV} (h : callC P l st = some i) (hp : allP i.ps) (hs : under i.c (SemR P i.f i.ts rs)) (hpm : (i.pm || rs.all TV.allOwn) = true)
    (hK : XW P d (l.drop 1) (st.put i.dst (optV i.c (retV rs))) K) : XW P d l st K := by
  unfold callC at h
  cases l with
  | nil => cases h
  | cons s l =>
    simp only at h
    split at h
    · rename_i fo args tys e
      split at h
      · rename_i c hw
        split at h
        · rename_i f xs hc
          split at h
          · rename_i ts ht
            split at h
            · rename_i hcd
              cases h
              simp only [Bool.and_eq_true] at hcd
              simp only [Bool.or_eq_true] at hpm
              have hl : s.loud = false := by unfold SOp.loud; rw [e]
              have core : ∀ (oc : Option Bool) (K' : V → Prop), allP (unwP oc st.fr (opTmps s)) → under oc (SemR P f ts rs) → K' (retV rs) → quietS P st (ocB oc) s K' := by
                intro oc K' h1 h2 h3
                unfold quietS
                rw [e]; dsimp only
                refine ⟨fun hc' => unwP_ok hc' h1, ?_⟩
                unfold quietW
                rw [e]; dsimp only
                unfold callW
                rw [hc]; dsimp only
                rw [ht]
                exact ⟨hcd.1, rs, fun hc' => under_ok h2 hc', hpm, h3⟩
              have hK' : XW P d l (st.put s.dst (optV (match s.gd with | none => none | some _ => some c) (retV rs))) K := by simpa using hK
              cases hg : s.gd with
              | none =>
                simp only [hg] at hp hs hK'
                cases d with
                | true =>
                  unfold XW DW
                  rw [hg]
                  exact ⟨hcd.2, core none _ hp hs hK'⟩
                | false =>
                  unfold XW RW
                  rw [hg]
                  exact stepW_quiet hl hcd.2 (core none _ hp hs hK')
              | some g =>
                simp only [hg] at hp hs hK' hw
                cases d with
                | true =>
                  unfold XW DW
                  rw [hg]; dsimp only
                  rw [hw]
                  exact ⟨hcd.2, core (some c) _ hp hs hK'⟩
                | false =>
                  unfold XW RW
                  rw [hg]; dsimp only
                  rw [hw]; dsimp only
                  rw [if_neg (by rw [hl]; exact Bool.false_ne_true)]
                  exact ⟨hcd.2, core (some c) _ hp hs hK'⟩
            · cases h
          · cases h
        · cases h
      · cases h
    · cases h

/-! Code, piece by piece. -/

theorem CW_reg {P : Program} [Inv P] {d : Bool} {ops : List SOp} {Q : Ex → St → Prop} {st : St} (h : XW P d ops st (Kept (Q .normal))) : CW P (.reg d ops) Q st := by
  cases d <;> exact h
theorem CW_seq {P : Program} [Inv P] {a b : SC} {Q : Ex → St → Prop} {st : St} (h : CW P a (fun e st' => match e with | .normal => CW P b Q st' | e => Q e st') st) : CW P (.seq a b) Q st := h
theorem CW_seq_reg {P : Program} [Inv P] {d : Bool} {ops : List SOp} {b : SC} {Q : Ex → St → Prop} {st : St} (h : XW P d ops st (Kept (CW P b Q))) : CW P (.seq (.reg d ops) b) Q st := by
  cases d <;> exact h
theorem XW_end {P : Program} [Inv P] {d : Bool} {K : St → Prop} {l : List SOp} {st st' : St} {ts : List Tmp} {dv ka : List Key} (hl : l.isEmpty = true) (hk : st.keep ts dv ka = some st') (hK : K st') : XW P d l st (Kept K) := by
  have : l = [] := by simpa using hl
  subst this
  cases d <;> exact .inr ⟨ts, dv, ka, st', hk, hK⟩
theorem CW_cond {P : Program} [Inv P] {c : Operand} {a b : SC} {Q : Ex → St → Prop} {st : St} {t : Bool} (hc : evO st c = some (.bool t)) (h1 : t = true → CW P a Q st) (h2 : t = false → CW P b Q st) : CW P (.cond c a b) Q st := by
  unfold CW
  rw [hc]
  exact ⟨h1, h2⟩
theorem CW_cond_seq {P : Program} [Inv P] {c : Operand} {a b x : SC} {Q : Ex → St → Prop} {st : St} {t : Bool} (hc : evO st c = some (.bool t)) (h1 : t = true → CW P (.seq a x) Q st) (h2 : t = false → CW P (.seq b x) Q st) : CW P (.seq (.cond c a b) x) Q st := by
  unfold CW
  unfold CW
  rw [hc]
  exact ⟨h1, h2⟩
theorem CW_assoc {P : Program} [Inv P] {a b c : SC} {Q : Ex → St → Prop} {st : St} (h : CW P (.seq a (.seq b c)) Q st) : CW P (.seq (.seq a b) c) Q st := by
  have e : (fun (e : Ex) (st' : St) => match e with | .normal => CW P b (fun e st' => match e with | .normal => CW P c Q st' | e => Q e st') st' | e => (match e with | .normal => CW P c Q st' | e => Q e st')) =
      fun (e : Ex) (st' : St) => match e with | .normal => CW P (.seq b c) Q st' | e => Q e st' := by
    funext e st'
    cases e <;> rfl
  show CW P a (fun (e : Ex) (st' : St) => match e with | .normal => CW P b (fun e st' => match e with | .normal => CW P c Q st' | e => Q e st') st' | e => (match e with | .normal => CW P c Q st' | e => Q e st')) st
  rw [e]
  exact h
theorem CW_skip_seq {P : Program} [Inv P] {b : SC} {Q : Ex → St → Prop} {st : St} (h : CW P b Q st) : CW P (.seq .skip b) Q st := h
theorem CW_ret_seq {P : Program} [Inv P] {b : SC} {Q : Ex → St → Prop} {st : St} (h : Q .ret st) : CW P (.seq .ret b) Q st := h
theorem CW_ret {P : Program} [Inv P] {Q : Ex → St → Prop} {st : St} (h : Q .ret st) : CW P .ret Q st := h
theorem CW_skip {P : Program} [Inv P] {Q : Ex → St → Prop} {st : St} (h : Q .normal st) : CW P .skip Q st := h
theorem CW_exit {P : Program} [Inv P] {i : Nat} {Q : Ex → St → Prop} {st : St} (h : Q (.exit i) st) : CW P (.exit i) Q st := h
theorem CW_exit_seq {P : Program} [Inv P] {i : Nat} {b : SC} {Q : Ex → St → Prop} {st : St} (h : Q (.exit i) st) : CW P (.seq (.exit i) b) Q st := h
theorem endW_ret {P : Program} [Inv P] {res : List ResultVar} {rs : List TV} {st : St} (h : collV P st res = some rs) : endW P res rs .ret st := h

end Go.E
