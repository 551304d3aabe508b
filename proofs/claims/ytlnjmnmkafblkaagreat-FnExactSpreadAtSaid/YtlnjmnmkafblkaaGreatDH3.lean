/- A part of an engine that carries Go code out on trees of values, proved sound over the model for every program. No condition beyond what each theorem states. -/
import Derived.Test.YtlnjmnmkafblkaaGreatDH2
import Derived.Attr
import Derived.KernelRfl
section
set_option linter.unusedSimpArgs false
set_option linter.unusedVariables false
namespace Go.H
open Go
section
variable {P : Program} [Inv P]
theorem valE_mono {F : Nat → Option V} {M : Nat → Option Mem} {h : Nat} {df : List T} {op : AOp} {K K' : Eff → Prop} (hk : ∀ e, K e → K' e) (hh : valE F M h df op K) : valE F M h df op K' := by
  unfold valE at *
  split at hh
  · exact ⟨hh.1, hk _ hh.2⟩
  · exact hh
theorem srcE_mono {F : Nat → Option V} {M : Nat → Option Mem} {h : Nat} {str : Bool} {y : Opd} {sz : Nat} {K K' : List (List T) → List Nat → Prop} (hk : ∀ a b, K a b → K' a b) (hh : srcE F M h str y sz K) : srcE F M h str y sz K' := by
  unfold srcE at *
  split at hh
  · exact ⟨hh.1, hk _ _ hh.2⟩
  · exact hk _ _ hh
  · exact ⟨hh.1, hh.2.1, hh.2.2.1, hk _ _ hh.2.2.2⟩
  · split at hh
    · refine ⟨hh.1, hh.2.1, ?_⟩
      have h3 := hh.2.2
      split at h3
      · exact ⟨h3.1, hk _ _ h3.2⟩
      · exact ⟨h3.1, hk _ _ h3.2⟩
    · exact hh
  · exact hh
theorem bornE_mono {F : Nat → Option V} {M : Nat → Option Mem} {key : Nat} {df : List T} {op : AOp} {K K' : Eff → Prop} (hk : ∀ e, K e → K' e) (hh : bornE F M key df op K) : bornE F M key df op K' := by
  unfold bornE at *
  split at hh
  · exact ⟨hh.1, hk _ hh.2⟩
  · exact ⟨hh.1, hk _ hh.2⟩
  · exact hh
theorem stepE_mono {s : SOp} {F : Nat → Option V} {M : Nat → Option Mem} {K K' : Eff → Prop} (hk : ∀ e, K e → K' e) (hh : stepE P s F M K) : stepE P s F M K' := by
  unfold stepE at *
  split at hh
  · split at hh
    · unfold takeE at *
      split at hh
      · split at hh
        · refine ⟨hh.1, hh.2.1, ?_⟩
          have h3 := hh.2.2
          split at h3
          · exact hk _ h3
          · exact h3.elim
        · exact hh
      · exact hh
    · unfold takeHE at *
      split at hh
      · split at hh
        · refine ⟨hh.1, hh.2.1, ?_⟩
          have h3 := hh.2.2
          split at h3
          · exact hk _ h3
          · exact h3.elim
        · exact hh
      · exact hh
    · exact valE_mono hk hh
  · split at hh
    · unfold storeAE at *
      split at hh
      · split at hh
        · obtain ⟨h1, h2, h3, h4, h5, h6, h7, h9, h8⟩ := hh
          exact ⟨h1, h2, h3, h4, h5, h6, h7, h9, hk _ h8⟩
        · exact hh
      · exact hh
    unfold storeE at *
    split at hh
    · split at hh
      · exact ⟨hh.1, hh.2.1, hh.2.2.1, hh.2.2.2.1, hk _ hh.2.2.2.2⟩
      · exact hh
    · split at hh
      · obtain ⟨h1, h2, h3, h4, h5, h6, h7, h8⟩ := hh
        exact ⟨h1, h2, h3, h4, h5, h6, h7, hk _ h8⟩
      · exact hh
    · exact hh
  · unfold bslE at *
    split at hh
    · split at hh
      · exact ⟨hh.1, hh.2.1, hk _ hh.2.2⟩
      · exact hh
    · exact hh
  · unfold mksE at *
    split at hh
    · obtain ⟨h1, h2, h3, h4, h5⟩ := hh
      exact ⟨h1, h2, h3, h4, hk _ h5⟩
    · exact hh
  · unfold boxE at *
    split at hh
    · exact ⟨hh.1, hh.2.1, hk _ hh.2.2⟩
    · exact hh
  · exact hk _ hh
  · unfold appE at *
    split at hh
    · exact srcE_mono (fun a b h => ⟨h.1, h.2.1, hk _ h.2.2⟩) hh
    · split at hh
      · exact ⟨hh.1, hh.2.1, srcE_mono (fun a b h => ⟨h.1, h.2.1, h.2.2.1, hk _ h.2.2.2⟩) hh.2.2⟩
      · exact hh
    · exact hh
  · unfold callE at *
    obtain ⟨e, h1, h2⟩ := hh
    exact ⟨e, hk _ h1, h2⟩
  · split at hh
    · exact bornE_mono hk hh
    · exact valE_mono hk hh
  · split at hh
    · exact bornE_mono hk hh
    · exact valE_mono hk hh
  · exact valE_mono hk hh
theorem guardE_mono {s : SOp} {c : Bool} {F : Nat → Option V} {M : Nat → Option Mem} {K K' : V → Prop} (hk : ∀ e, K e → K' e) (hh : guardE P s c F M K) : guardE P s c F M K' := by
  unfold guardE at *
  split at hh
  · obtain ⟨v, h1, h2⟩ := hh
    exact ⟨v, h1, hk _ h2⟩
  · split at hh
    · exact ⟨hh.1, hk _ hh.2⟩
    · exact hh
theorem takeVE_mono {F : Nat → Option V} {M : Nat → Option Mem} {key n : Nat} {df : List T} {q : List Nat} {x : Opd} {agg : Bool} {K K' : Eff → Prop} (hk : ∀ e, K e → K' e) (hh : takeVE F M key df q x n agg K) : takeVE F M key df q x n agg K' := by
  unfold takeVE at *
  split at hh
  · split at hh
    · obtain ⟨h1, h2, h3, h4, h5⟩ := hh
      refine ⟨h1, h2, h3, h4, ?_⟩
      split at h5
      · exact fun v => hk _ (h5 v)
      · exact h5.elim
    · exact hh
  · exact hh
theorem isnW_mono {F : Nat → Option V} {M : Nat → Option Mem} {ng : Bool} {x : Opd} {K K' : Bool → Prop} (hk : ∀ b, K b → K' b) (h : isnW F M ng x K) : isnW F M ng x K' := by
  unfold isnW at *
  split at h
  · exact fun b => hk _ (h b)
  · exact ⟨h.1, fun b hb => hk _ (h.2 b hb)⟩
  · exact ⟨h.1, fun b hb => hk _ (h.2 b hb)⟩
  · exact h
theorem RW_mono : ∀ {l : List SOp} {st : St} {K K' : St → Prop}, (∀ s, K s → K' s) → RW P l st K → RW P l st K'
  | [], st, K, K', hk, h => hk _ h
  | s :: l, st, K, K', hk, h => by
    simp only [RW] at *
    split at h
    · split at h
      · exact isnW_mono (fun b h => RW_mono hk h) h
      · split at h
        · exact takeVE_mono (fun e h => ⟨h.1, RW_mono hk h.2⟩) h
        · exact stepE_mono (fun e h => ⟨h.1, RW_mono hk h.2⟩) h
      · exact stepE_mono (fun e h => ⟨h.1, RW_mono hk h.2⟩) h
    · split at h
      · exact guardE_mono (fun v h => RW_mono hk h) h
      · exact h
theorem RW_app : ∀ {l l2 : List SOp} {st : St} {K : St → Prop}, RW P l st (fun st' => RW P l2 st' K) → RW P (l ++ l2) st K
  | [], l2, st, K, h => h
  | s :: l, l2, st, K, h => by
    simp only [RW, List.cons_append] at *
    split at h
    · split at h
      · exact isnW_mono (fun b h => RW_app h) h
      · split at h
        · exact takeVE_mono (fun e h => ⟨h.1, RW_app h.2⟩) h
        · exact stepE_mono (fun e h => ⟨h.1, RW_app h.2⟩) h
      · exact stepE_mono (fun e h => ⟨h.1, RW_app h.2⟩) h
    · split at h
      · exact guardE_mono (fun v h => RW_app h) h
      · exact h
theorem RW_cut (n : Nat) {l : List SOp} {st st1 : St} {K : St → Prop} (h : RW P (l.take n) st (fun s => s = st1)) (hK : RW P (l.drop n) st1 K) : RW P l st K := by
  have := RW_app (l := l.take n) (l2 := l.drop n) (RW_mono (fun s e => by subst e; exact hK) h)
  rwa [List.take_append_drop] at this
theorem W_reg {l : List SOp} {lv : Option (List Nat × List Nat)} {b : SC} {Q : Ex → St → Prop} {st st1 : St} (h : RW P l st (fun s => s.keep lv = st1)) (hK : CW P b Q st1) : CW P (.seq (.reg false l lv) b) Q st := by
  refine CW_seq (CW_reg (RW_mono (fun s e => ?_) h))
  subst e
  exact hK
theorem W_regn {l : List SOp} {lv : Option (List Nat × List Nat)} {Q : Ex → St → Prop} {st st1 : St} (h : RW P l st (fun s => s.keep lv = st1)) (hK : Q .normal st1) : CW P (.reg false l lv) Q st := by
  refine CW_reg (RW_mono (fun s e => ?_) h)
  subst e
  exact hK
theorem RW_call {s : SOp} {l : List SOp} {st : St} {K : St → Prop} {fo : Opd} {args : List (Opd × Option Nat)} {f : FuncId} {as : List Arg} {L : List Ob} {rs : List TV} {L' : List Ob} {e : Eff} (hcb : callB P f = true) (hsem : SemX P f as L rs L') (md : Bool) (hk ksA ksO : List Nat) (hop : s.op = .call fo args) (hgd : s.gd = none)
    (h : callP st.F st.M s.key fo args f as L rs L' md hk ksA ksO (fun x => x = e)) (hf : freshN st.bn e.nk = true) (hK : RW P l (st.app s.dst e) K) : RW P (s :: l) st K := by
  simp only [RW, hgd, stepE, hop]
  refine callE_of hcb hsem md hk ksA ksO ?_
  unfold callP at *
  split at h
  · obtain ⟨h1, h2⟩ := h
    refine ⟨h1, ?_⟩
    split at h2
    · obtain ⟨a1, a2, a3, a4, a5, a6, a7, a8, a9, a10, rfl⟩ := h2
      exact ⟨a1, a2, a3, a4, a5, a6, a7, a8, a9, a10, hf, hK⟩
    · exact h2.elim
  · exact h.elim
end
end Go.H
end
section
set_option linter.unusedSimpArgs false
namespace Go.H
open Go
attribute [go_sem] bornE bornL T.esz hdT tlT zTs tvL tv1 tvH tvTl obL obTl ss sx sh sk sxk sg rg isnW St.F St.M CW RW stepE guardE valE valO qO ev evL initS obML argMs argM argVs argV cV cVc cVL cML cM ownV ownM ownVL ownML T.toV T.toVL initF List.map List.append List.append_nil List.nil_append List.cons_append look St.app updM St.keep keepM delMs freshN wantS unF gus memN Option.map V.un V.gu mergeU binO arith endX collR resV collO obLen giveV V.toT V.toT0 distN Option.bind partV liveD callP giveAs giveA giveC giveCs giveT giveTs roT roTs okD giveOs shOk tvOks tvOk obOks szOk callF retV tvVs tvV tvMs tvM lentM lentN List.length if_false if_true true_and and_true or_true true_or Bool.and_self Bool.and_true Bool.true_and decide_true implies_true imp_self and_self beq_true Bool.cond_false_right ge_iff_le List.take List.drop List.getElem?_cons_zero List.getElem?_cons_succ Arg.ro
end Go.H
end
section
set_option linter.unusedSimpArgs false
set_option linter.unusedVariables false
namespace Go.H
open Go
section
variable {P : Program} [Inv P]
theorem sq_n {b : SC} {Q : Ex → St → Prop} {st : St} (h : CW P b Q st) : seqQ P b Q .normal st := h
theorem sq_e {b : SC} {Q : Ex → St → Prop} {st : St} {i : Nat} (h : Q (.exit i) st) : seqQ P b Q (.exit i) st := h
theorem sq_r {b : SC} {Q : Ex → St → Prop} {st : St} (h : Q .ret st) : seqQ P b Q .ret st := h
theorem bk_n {id : Nat} {Q : Ex → St → Prop} {st : St} (h : Q .normal st) : blkQ id Q .normal st := h
theorem bk_i {id : Nat} {Q : Ex → St → Prop} {st : St} (h : Q .normal st) : blkQ id Q (.exit id) st := by simp only [blkQ, if_true]; exact h
theorem bk_o {id i : Nat} {Q : Ex → St → Prop} {st : St} (hn : Nat.beq i id = false) (h : Q (.exit i) st) : blkQ id Q (.exit i) st := by
  have : i ≠ id := fun e => by subst e; simp at hn
  simp only [blkQ, if_neg this]; exact h
theorem bk_r {id : Nat} {Q : Ex → St → Prop} {st : St} (h : Q .ret st) : blkQ id Q .ret st := h
theorem lp_e {α : Type} {S : α → St} {m : α → Nat} {I : α → Prop} {n : Nat} {Q : Ex → St → Prop} {st : St} {i : Nat} (h : Q (.exit i) st) : lpQ S m I n Q (.exit i) st := h
theorem lp_r {α : Type} {S : α → St} {m : α → Nat} {I : α → Prop} {n : Nat} {Q : Ex → St → Prop} {st : St} (h : Q .ret st) : lpQ S m I n Q .ret st := h
theorem CW_eq {c : SC} {Q : Ex → St → Prop} {st st' : St} (e : st = st') (h : CW P c Q st') : CW P c Q st := e ▸ h
theorem DW_mono : ∀ {l : List SOp} {st : St} {K K' : St → Prop}, (∀ s, K s → K' s) → DW P l st K → DW P l st K'
  | [], st, K, K', hk, h => hk _ h
  | s :: l, st, K, K', hk, h => by
    simp only [DW] at *
    split at h
    · exact stepE_mono (fun e h => ⟨h.1, h.2.1, h.2.2.1, DW_mono hk h.2.2.2⟩) h
    · split at h
      · exact guardE_mono (fun v h => DW_mono hk h) h
      · exact h
theorem DW_app : ∀ {l l2 : List SOp} {st : St} {K : St → Prop}, DW P l st (fun st' => DW P l2 st' K) → DW P (l ++ l2) st K
  | [], l2, st, K, h => h
  | s :: l, l2, st, K, h => by
    simp only [DW, List.cons_append] at *
    split at h
    · exact stepE_mono (fun e h => ⟨h.1, h.2.1, h.2.2.1, DW_app h.2.2.2⟩) h
    · split at h
      · exact guardE_mono (fun v h => DW_app h) h
      · exact h
theorem DW_cut (n : Nat) {l : List SOp} {st st1 : St} {K : St → Prop} (h : DW P (l.take n) st (fun s => s = st1)) (hK : DW P (l.drop n) st1 K) : DW P l st K := by
  have := DW_app (l := l.take n) (l2 := l.drop n) (DW_mono (fun s e => by subst e; exact hK) h)
  rwa [List.take_append_drop] at this
theorem W_drw {l : List SOp} {lv : Option (List Nat × List Nat)} {b : SC} {Q : Ex → St → Prop} {st st1 : St} (h : DW P l st (fun s => s.keep lv = st1)) (hK : CW P b Q st1) : CW P (.seq (.reg true l lv) b) Q st := by
  refine CW_seq (CW_drw (DW_mono (fun s e => ?_) h))
  subst e
  exact hK
theorem W_drwn {l : List SOp} {lv : Option (List Nat × List Nat)} {Q : Ex → St → Prop} {st st1 : St} (h : DW P l st (fun s => s.keep lv = st1)) (hK : Q .normal st1) : CW P (.reg true l lv) Q st := by
  refine CW_drw (DW_mono (fun s e => ?_) h)
  subst e
  exact hK
theorem DW_call {s : SOp} {l : List SOp} {st : St} {K : St → Prop} {fo : Opd} {args : List (Opd × Option Nat)} {f : FuncId} {as : List Arg} {L : List Ob} {rs : List TV} {L' : List Ob} {e : Eff} (hcb : callB P f = true) (hsem : SemX P f as L rs L') (md : Bool) (hk ksA ksO : List Nat) (hop : s.op = .call fo args) (hgd : s.gd = none)
    (h : callP (onlyN s.lk st.F) (onlyN s.rk st.M) s.key fo args f as L rs L' md hk ksA ksO (fun x => x = e)) (hf : (freshN st.bn e.nk && (subN (e.wm.map (·.1)) s.wk && subN e.nk s.wk)) = true) (hK : DW P l (st.app s.dst e) K) : DW P (s :: l) st K := by
  simp only [DW, hgd, stepE, hop]
  refine callE_of hcb hsem md hk ksA ksO ?_
  simp only [Bool.and_eq_true] at hf
  obtain ⟨hf1, hf2, hf3⟩ := hf
  unfold callP at *
  split at h
  · obtain ⟨h1, h2⟩ := h
    refine ⟨h1, ?_⟩
    split at h2
    · obtain ⟨a1, a2, a3, a4, a5, a6, a7, a8, a9, a10, rfl⟩ := h2
      exact ⟨a1, a2, a3, a4, a5, a6, a7, a8, a9, a10, hf1, hf2, hf3, hK⟩
    · exact h2.elim
  · exact h.elim
def setL {β : Type} (k : Nat) (y : β) : List (Nat × β) → List (Nat × β)
  | [] => [(k, y)]
  | (a, x) :: l => if k = a then (k, y) :: l else (a, x) :: setL k y l
def setLs {β : Type} : List (Nat × β) → List (Nat × β) → List (Nat × β)
  | [], l => l
  | (k, y) :: ys, l => setLs ys (setL k y l)
def St.set (st : St) (fs : List (Nat × V)) (ms : List (Nat × Mem)) : St := ⟨setLs fs st.fr, setLs ms st.ms, st.bn⟩
theorem CW_loopS {α : Type} {c : SC} {Q : Ex → St → Prop} {st : St} (f : α → List (Nat × V)) (g : α → List (Nat × Mem)) (m : α → Nat) (I : α → Prop) (x0 : α) (ρ : List (Nat × Nat)) (h0 : fit ρ st (st.set (f x0) (g x0))) (hi : I x0)
    (hr : ∀ x, I x → CW P c (lpQ (fun x => st.set (f x) (g x)) m I (m x) Q) (st.set (f x) (g x))) : CW P (.loop c) Q st := CW_loop (fun x => st.set (f x) (g x)) m I x0 ρ h0 hi hr
end
attribute [go_sem] setL setLs St.set fit lentB injN fitF fitM V.inK V.inKL Dep.inK V.ren V.renL Dep.ren rn DW onlyN subN bslE appE srcE fillO toTs chunk liveO V.cells List.replicate List.flatten storeE takeE mksE boxE delM Nat.le_refl List.take_length Bool.not_false Nat.zero_add false_or or_false List.set List.all
end Go.H
end
section
set_option linter.unusedSimpArgs false
set_option linter.unusedVariables false
namespace Go.H
open Go
def sd (d : Option Nat) (h key : Nat) (df : List T) (op : AOp) : SOp := ⟨d, op, none, [], h, key, df, [], [], []⟩
section
variable {P : Program} {E : Env} {nt : Nat} {s : SF} {g : Gh} {a : Act} {w : World}
theorem Sim.back (hs : Sim E nt s g a w) {κ i j key : Nat} {A A' : Arr} {r : List T} {v : Value} (hA : s.M κ = some (.arr A)) (hv : VRep w g (.hm κ A.ver i j key A'.rows.length) v) (hB : s.M key = some (.arr A')) (hne : κ ≠ key) (hr : A.rows[i]? = some r) (hj : j < A.sz) :
    ∃ g', Sim E nt ⟨s.F, fun x => if x = κ then some (.arr ⟨A.sz, A.rows.set i (r.take j ++ [.sl true A'.sz A'.rows] ++ r.drop (j + 1)), A.ver + 1, A.cap⟩) else if x = key then none else s.M x, fun x => x = κ ∨ s.B x⟩ g' a w := by
  obtain ⟨b', cap', cur, e, hab', hfp, hh, hfit, hlc, hmx, hrow, hrl, _⟩ := row_cells (hs.mem κ _ hA) hr
  obtain ⟨base, cap, habk, htopk, hownk, hck⟩ := hs.mem key _ hB
  have htop : g.top κ = A.ver := by obtain ⟨_, _, _, h, _⟩ := hs.mem κ _ hA; exact h
  have hcapc : ∀ c, A.cap = some c → c = cap' := by
    obtain ⟨_, _, hab3, _, _, h⟩ := hs.mem κ _ hA
    rw [hab'] at hab3
    cases hab3
    exact h
  simp only [VRep] at hv
  obtain ⟨⟨base2, cap2, sz2, hab2, hl2, hv2⟩, _, hcell⟩ := hv
  rw [habk] at hab2
  cases hab2
  obtain ⟨b, cap3, sz3, hab3, hfp3, hlt3, hc3⟩ := hcell (by simp only [live]; exact htop.symm)
  rw [hab'] at hab3
  cases hab3
  obtain ⟨hi, _⟩ := List.getElem?_eq_some_iff.1 hr
  have hoff : i * A.sz + j + 1 ≤ A.rows.length * A.sz := by
    have h3 : (i + 1) * A.sz ≤ A.rows.length * A.sz := Nat.mul_le_mul_right _ hi
    rw [Nat.add_mul] at h3
    omega
  have hcv : cur.toList[i * A.sz + j]? = some v := by
    simp only [World.cell?, hh] at hc3
    simpa using hc3
  have hown' : OwL w g.fz [.sl true A'.sz A'.rows] (g.fp key) [v] := by
    simp only [OwL]
    refine ⟨v, [], g.fp key, fun _ => False, rfl, fun b hb => ⟨hb, fun h => h⟩, fun b h => h.elim, ?_, rfl⟩
    rw [hv2]
    exact hownk
  have hrows' := hrow.put (w' := w) (ts := [.sl true A'.sz A'.rows]) hr (by simp; omega : j + [T.sl true A'.sz A'.rows].length ≤ A.sz) (Nat.le_refl _) (fun c hc hf => rfl) (fun c hc _ => rfl) hown' (fun x hx hx2 => hne (hs.disj κ key x (.inr hx2.1) (.inr hx)))
  have hL : (cur.toList.take (A.rows.length * A.sz)).take (i * A.sz + j) ++ [v] ++ (cur.toList.take (A.rows.length * A.sz)).drop (i * A.sz + j + 1) = cur.toList.take (A.rows.length * A.sz) := by
    have h1 : (cur.toList.take (A.rows.length * A.sz))[i * A.sz + j]? = some v := by
      rw [List.getElem?_take, if_pos (by omega)]; exact hcv
    obtain ⟨h2, h3⟩ := List.getElem?_eq_some_iff.1 h1
    rw [List.append_assoc, ← h3, List.singleton_append, List.getElem_cons_drop, List.take_append_drop]
  have hnew : OwT w g.fz (.sl true A.sz (A.rows.set i (r.take j ++ [.sl true A'.sz A'.rows] ++ r.drop (j + 1)))) (fun x => g.fp κ x ∨ g.fp key x) (.slice (some ⟨b', 0, none⟩) (A.rows.set i (r.take j ++ [.sl true A'.sz A'.rows] ++ r.drop (j + 1))).length cap') := by
    simp only [OwT]
    refine ⟨_, cap', by simp, by simpa using hlc, hmx, .inr ⟨b', cur, e, rfl, .inl hfp, hh, hfit, ?_⟩⟩
    rw [List.length_set]
    simp only [List.length_singleton] at hrows'
    rw [hL] at hrows'
    exact hrows'.sub fun x hx => by
      rcases hx with hx | hx
      · exact ⟨.inl hx.1, hx.2⟩
      · exact ⟨.inr hx, fun ee => by subst ee; exact hne (hs.disj κ key x (.inr hfp) (.inr hx))⟩
  obtain ⟨g', h', _⟩ := hs.setArr (w' := w) κ [key] (A := ⟨A.sz, A.rows.set i (r.take j ++ [.sl true A'.sz A'.rows] ++ r.drop (j + 1)), A.ver + 1, A.cap⟩) (S := fun x => g.fp κ x ∨ g.fp key x) (base := some ⟨b', 0, none⟩) (cap := cap')
    rfl rfl rfl (Nat.le_refl _) (.inl ⟨A, hA, hab', rfl⟩) (fun x hx => by simp at hx; subst hx; exact ⟨Ne.symm hne, A', hB⟩) (fun c hc hn1 hn2 => rfl)
    (fun c hc => by
      rcases hc with hc | hc
      · exact ⟨(hs.ownlt κ c (.inr hc)).1, .inl hc⟩
      · exact ⟨(hs.ownlt key c (.inr hc)).1, .inr (.inl ⟨key, by simp, hc⟩)⟩) hnew hcapc
  exact ⟨g', by simpa using h'⟩
theorem Sim.backV (hs : Sim E nt s g a w) {κ i j key : Nat} {A A' : Arr} {r : List T} {v u0 : Value} (hA : s.M κ = some (.arr A)) (hv : VRep w g (.hv key A'.rows.length v) u0) (hB : s.M key = some (.arr A')) (hne : κ ≠ key) (hr : A.rows[i]? = some r) (hjv : r[j]? = some (.val v)) :
    ∃ g', Sim E nt ⟨s.F, fun x => if x = κ then some (.arr ⟨A.sz, A.rows.set i (r.take j ++ [.sl true A'.sz A'.rows] ++ r.drop (j + 1)), A.ver + 1, A.cap⟩) else if x = key then none else s.M x, fun x => x = κ ∨ s.B x⟩ g' a w := by
  obtain ⟨b', cap', cur, e, hab', hfp, hh, hfit, hlc, hmx, hrow, hrl, _⟩ := row_cells (hs.mem κ _ hA) hr
  obtain ⟨base, cap, habk, htopk, hownk, hck⟩ := hs.mem key _ hB
  have htop : g.top κ = A.ver := by obtain ⟨_, _, _, h, _⟩ := hs.mem κ _ hA; exact h
  have hcapc : ∀ c, A.cap = some c → c = cap' := by
    obtain ⟨_, _, hab3, _, _, h⟩ := hs.mem κ _ hA
    rw [hab'] at hab3
    cases hab3
    exact h
  simp only [VRep] at hv
  obtain ⟨rfl, base2, cap2, sz2, hab2, hl2, hv2⟩ := hv
  rw [habk] at hab2
  cases hab2
  have hj : j < A.sz := by
    obtain ⟨h, _⟩ := List.getElem?_eq_some_iff.1 hjv
    omega
  obtain ⟨hi, _⟩ := List.getElem?_eq_some_iff.1 hr
  have hoff : i * A.sz + j + 1 ≤ A.rows.length * A.sz := by
    have h3 : (i + 1) * A.sz ≤ A.rows.length * A.sz := Nat.mul_le_mul_right _ hi
    rw [Nat.add_mul] at h3
    omega
  have hcv : cur.toList[i * A.sz + j]? = some u0 := by
    obtain ⟨_, _, u, _, _, hcell, hown, _⟩ := hrow.pick hr hjv
    simp only [OwT] at hown
    subst hown
    rw [List.getElem?_take] at hcell
    split at hcell
    · exact hcell
    · cases hcell
  have hown' : OwL w g.fz [.sl true A'.sz A'.rows] (g.fp key) [u0] := by
    simp only [OwL]
    refine ⟨u0, [], g.fp key, fun _ => False, rfl, fun b hb => ⟨hb, fun h => h⟩, fun b h => h.elim, ?_, rfl⟩
    rw [hv2]
    exact hownk
  have hrows' := hrow.put (w' := w) (ts := [.sl true A'.sz A'.rows]) hr (by simp; omega : j + [T.sl true A'.sz A'.rows].length ≤ A.sz) (Nat.le_refl _) (fun c hc hf => rfl) (fun c hc _ => rfl) hown' (fun x hx hx2 => hne (hs.disj κ key x (.inr hx2.1) (.inr hx)))
  have hL : (cur.toList.take (A.rows.length * A.sz)).take (i * A.sz + j) ++ [u0] ++ (cur.toList.take (A.rows.length * A.sz)).drop (i * A.sz + j + 1) = cur.toList.take (A.rows.length * A.sz) := by
    have h1 : (cur.toList.take (A.rows.length * A.sz))[i * A.sz + j]? = some u0 := by
      rw [List.getElem?_take, if_pos (by omega)]; exact hcv
    obtain ⟨h2, h3⟩ := List.getElem?_eq_some_iff.1 h1
    rw [List.append_assoc, ← h3, List.singleton_append, List.getElem_cons_drop, List.take_append_drop]
  have hnew : OwT w g.fz (.sl true A.sz (A.rows.set i (r.take j ++ [.sl true A'.sz A'.rows] ++ r.drop (j + 1)))) (fun x => g.fp κ x ∨ g.fp key x) (.slice (some ⟨b', 0, none⟩) (A.rows.set i (r.take j ++ [.sl true A'.sz A'.rows] ++ r.drop (j + 1))).length cap') := by
    simp only [OwT]
    refine ⟨_, cap', by simp, by simpa using hlc, hmx, .inr ⟨b', cur, e, rfl, .inl hfp, hh, hfit, ?_⟩⟩
    rw [List.length_set]
    simp only [List.length_singleton] at hrows'
    rw [hL] at hrows'
    exact hrows'.sub fun x hx => by
      rcases hx with hx | hx
      · exact ⟨.inl hx.1, hx.2⟩
      · exact ⟨.inr hx, fun ee => by subst ee; exact hne (hs.disj κ key x (.inr hfp) (.inr hx))⟩
  obtain ⟨g', h', _⟩ := hs.setArr (w' := w) κ [key] (A := ⟨A.sz, A.rows.set i (r.take j ++ [.sl true A'.sz A'.rows] ++ r.drop (j + 1)), A.ver + 1, A.cap⟩) (S := fun x => g.fp κ x ∨ g.fp key x) (base := some ⟨b', 0, none⟩) (cap := cap')
    rfl rfl rfl (Nat.le_refl _) (.inl ⟨A, hA, hab', rfl⟩) (fun x hx => by simp at hx; subst hx; exact ⟨Ne.symm hne, A', hB⟩) (fun c hc hn1 hn2 => rfl)
    (fun c hc => by
      rcases hc with hc | hc
      · exact ⟨(hs.ownlt κ c (.inr hc)).1, .inl hc⟩
      · exact ⟨(hs.ownlt key c (.inr hc)).1, .inr (.inl ⟨key, by simp, hc⟩)⟩) hnew hcapc
  exact ⟨g', by simpa using h'⟩
def dstN : Option Tmp → Nat → Bool
  | some d, t => !Nat.beq d t
  | none, _ => true
theorem dstN_ok {d : Option Tmp} {t : Nat} (h : dstN d t = true) : d ≠ some t := by
  intro e
  subst e
  simp [dstN] at h
theorem EffS.back {o : Oper} {F : Nat → Option V} {M : Nat → Option Mem} {e : Eff} (he : EffS P E nt o F M e) {t κ i j key : Nat} {A A' : Arr} {df : List T} (hF : F t = some (.hm κ A.ver i j key A'.rows.length)) (hM : M κ = some (.arr A)) (hw : look κ e.wm = none) (hk : look key e.wm = some (some (.arr A'))) (hne : κ ≠ key) (hi : i < A.rows.length) (hj : j < A.sz) (hd : o.dst ≠ some t) :
    EffS P E nt o F M ⟨e.val, (κ, some (.arr ⟨A.sz, A.rows.set i ((A.rows.getD i df).take j ++ [.sl true A'.sz A'.rows] ++ (A.rows.getD i df).drop (j + 1)), A.ver + 1, A.cap⟩)) :: (key, none) :: e.wm, e.nk⟩ := by
  intro s hsub hnk g a w hs K Q hK
  refine he s hsub hnk g a w hs K Q fun g' a' w' h' => ?_
  have hMκ : (s.app o.dst e).M κ = some (.arr A) := by
    simp only [SF.app, hw]; exact hsub.2 _ _ hM
  have hMk : (s.app o.dst e).M key = some (.arr A') := by
    simp only [SF.app, hk]
  have hFt : (s.app o.dst e).F t = some (.hm κ A.ver i j key A'.rows.length) := by
    cases hdd : o.dst with
    | none => simp only [SF.app]; exact hsub.1 _ _ hF
    | some d =>
      have : t ≠ d := fun ee => hd (by rw [hdd, ee])
      simp only [SF.app, SF.put, if_neg this]; exact hsub.1 _ _ hF
  obtain ⟨g2, h2⟩ := h'.back hMκ (h'.frame t _ hFt) hMk hne (getD_some (df := df) hi) hj
  refine hK g2 a' w' ?_
  refine { h2.memEq (M' := (s.app o.dst ⟨e.val, (κ, some (.arr ⟨A.sz, A.rows.set i ((A.rows.getD i df).take j ++ [.sl true A'.sz A'.rows] ++ (A.rows.getD i df).drop (j + 1)), A.ver + 1, A.cap⟩)) :: (key, none) :: e.wm, e.nk⟩).M) (B' := (s.app o.dst e).B) (funext fun y => ?_) (fun y => ?_) with }
  · simp only [SF.app, look]
    by_cases e1 : y = κ
    · subst e1; simp
    · by_cases e2 : y = key
      · subst e2; simp [e1]
      · simp [e1, e2]
  · constructor
    · rintro (rfl | h)
      · exact (h'.arrK hMκ).2
      · exact h
    · exact .inr
theorem EffS.backV {o : Oper} {F : Nat → Option V} {M : Nat → Option Mem} {e : Eff} (he : EffS P E nt o F M e) {t q κ i j key len : Nat} {A A' : Arr} {df : List T} {cells : List V} {v : Value} (hF : F t = some (.agg cells)) (hq : cells[q]? = some (.hv key len v)) (hl : A'.rows.length = len) (hM : M key = some (.arr A')) (hkn : look key e.wm = none) (hk : look κ e.wm = some (some (.arr A))) (hne : κ ≠ key) (hi : i < A.rows.length) (hj : (A.rows.getD i df)[j]? = some (.val v)) (hd : o.dst ≠ some t) :
    EffS P E nt o F M ⟨e.val, (κ, some (.arr ⟨A.sz, A.rows.set i ((A.rows.getD i df).take j ++ [.sl true A'.sz A'.rows] ++ (A.rows.getD i df).drop (j + 1)), A.ver + 1, A.cap⟩)) :: (key, none) :: e.wm, e.nk⟩ := by
  intro s hsub hnk g a w hs K Q hK
  refine he s hsub hnk g a w hs K Q fun g' a' w' h' => ?_
  have hMκ : (s.app o.dst e).M κ = some (.arr A) := by
    simp only [SF.app, hk]
  have hMk : (s.app o.dst e).M key = some (.arr A') := by
    simp only [SF.app, hkn]; exact hsub.2 _ _ hM
  have hFt : (s.app o.dst e).F t = some (.agg cells) := by
    cases hdd : o.dst with
    | none => simp only [SF.app]; exact hsub.1 _ _ hF
    | some d =>
      have : t ≠ d := fun ee => hd (by rw [hdd, ee])
      simp only [SF.app, SF.put, if_neg this]; exact hsub.1 _ _ hF
  have hv0 := h'.frame t _ hFt
  simp only [VRep] at hv0
  obtain ⟨cs, _, hcs⟩ := hv0
  obtain ⟨u0, _, hu0⟩ := hcs.get hq
  subst hl
  obtain ⟨g2, h2⟩ := h'.backV hMκ hu0 hMk hne (getD_some (df := df) hi) hj
  refine hK g2 a' w' ?_
  refine { h2.memEq (M' := (s.app o.dst ⟨e.val, (κ, some (.arr ⟨A.sz, A.rows.set i ((A.rows.getD i df).take j ++ [.sl true A'.sz A'.rows] ++ (A.rows.getD i df).drop (j + 1)), A.ver + 1, A.cap⟩)) :: (key, none) :: e.wm, e.nk⟩).M) (B' := (s.app o.dst e).B) (funext fun y => ?_) (fun y => ?_) with }
  · simp only [SF.app, look]
    by_cases e1 : y = κ
    · subst e1; simp
    · by_cases e2 : y = key
      · subst e2; simp [e1]
      · simp [e1, e2]
  · constructor
    · rintro (rfl | h)
      · exact (h'.arrK hMκ).2
      · exact h
    · exact .inr
def backVE (F : Nat → Option V) (M : Nat → Option Mem) (t q κ i j : Nat) (df : List T) (e : Eff) (K : Eff → Prop) : Prop :=
  match F t with
  | some (.agg cells) => match cells[q]? with
    | some (.hv key len v) => match look κ e.wm, M key, look key e.wm with
      | some (some (.arr A)), some (.arr A'), none => A'.rows.length = len ∧ κ ≠ key ∧ i < A.rows.length ∧ (A.rows.getD i df)[j]? = some (.val v) ∧ K ⟨e.val, (κ, some (.arr ⟨A.sz, A.rows.set i ((A.rows.getD i df).take j ++ [.sl true A'.sz A'.rows] ++ (A.rows.getD i df).drop (j + 1)), A.ver + 1, A.cap⟩)) :: (key, none) :: e.wm, e.nk⟩
      | _, _, _ => False
    | _ => False
  | _ => False
def backE (F : Nat → Option V) (M : Nat → Option Mem) (t : Nat) (df : List T) (e : Eff) (K : Eff → Prop) : Prop :=
  match F t with
  | some (.hm κ n i j key len) => match M κ, look key e.wm, look κ e.wm with
    | some (.arr A), some (some (.arr A')), none => A.ver = n ∧ A'.rows.length = len ∧ κ ≠ key ∧ i < A.rows.length ∧ j < A.sz ∧ K ⟨e.val, (κ, some (.arr ⟨A.sz, A.rows.set i ((A.rows.getD i df).take j ++ [.sl true A'.sz A'.rows] ++ (A.rows.getD i df).drop (j + 1)), A.ver + 1, A.cap⟩)) :: (key, none) :: e.wm, e.nk⟩
    | _, _, _ => False
  | _ => False
end
section
variable {P : Program} [Inv P]
theorem RW_callB (t : Nat) (df : List T) {s : SOp} {l : List SOp} {st : St} {K : St → Prop} {fo : Opd} {args : List (Opd × Option Nat)} {f : FuncId} {as : List Arg} {L : List Ob} {rs : List TV} {L' : List Ob} {e e2 : Eff} (hcb : callB P f = true) (hsem : SemX P f as L rs L') (md : Bool) (hk ksA ksO : List Nat) (hop : s.op = .call fo args) (hgd : s.gd = none)
    (h : callP st.F st.M s.key fo args f as L rs L' md hk ksA ksO (fun x => x = e)) (hd : dstN s.dst t = true) (hb : backE st.F st.M t df e (fun x => x = e2)) (hf : freshN st.bn e2.nk = true) (hK : RW P l (st.app s.dst e2) K) : RW P (s :: l) st K := by
  simp only [RW, hgd, stepE, hop]
  unfold backE at hb
  split at hb
  · rename_i κ n i j key len hF
    split at hb
    · rename_i A A' hM hke hkn
      obtain ⟨rfl, rfl, b3, b4, b5, rfl⟩ := hb
      have h0 : callE P st.F st.M s.dst s.key fo args (fun x => x = e) .mk := by
        refine callE_of hcb hsem md hk ksA ksO ?_
        exact h
      obtain ⟨e', rfl, he⟩ := h0
      refine ⟨_, ⟨hf, hK⟩, fun E nt o h1 h2 h3 h4 => (he E nt o h1 h2 h3 h4).back hF hM hkn hke b3 b4 b5 ?_⟩
      rw [h3]
      exact dstN_ok hd
    · exact hb.elim
  · exact hb.elim
theorem RW_callV (t q κ i j : Nat) (df : List T) {s : SOp} {l : List SOp} {st : St} {K : St → Prop} {fo : Opd} {args : List (Opd × Option Nat)} {f : FuncId} {as : List Arg} {L : List Ob} {rs : List TV} {L' : List Ob} {e e2 : Eff} (hcb : callB P f = true) (hsem : SemX P f as L rs L') (md : Bool) (hk ksA ksO : List Nat) (hop : s.op = .call fo args) (hgd : s.gd = none)
    (h : callP st.F st.M s.key fo args f as L rs L' md hk ksA ksO (fun x => x = e)) (hd : dstN s.dst t = true) (hb : backVE st.F st.M t q κ i j df e (fun x => x = e2)) (hf : freshN st.bn e2.nk = true) (hK : RW P l (st.app s.dst e2) K) : RW P (s :: l) st K := by
  simp only [RW, hgd, stepE, hop]
  unfold backVE at hb
  split at hb
  · rename_i cells hF
    split at hb
    · rename_i key len v hq
      split at hb
      · rename_i A A' hke hM hkn
        obtain ⟨b1, b2, b3, b4, rfl⟩ := hb
        have h0 : callE P st.F st.M s.dst s.key fo args (fun x => x = e) .mk := by
          refine callE_of hcb hsem md hk ksA ksO ?_
          exact h
        obtain ⟨e', rfl, he⟩ := h0
        refine ⟨_, ⟨hf, hK⟩, fun E nt o h1 h2 h3 h4 => (he E nt o h1 h2 h3 h4).backV hF hq b1 hM hkn hke b2 b3 b4 ?_⟩
        rw [h3]
        exact dstN_ok hd
      · exact hb.elim
    · exact hb.elim
  · exact hb.elim
theorem RW_takeV {s : SOp} {l : List SOp} {st : St} {K : St → Prop} {x : Opd} {n : Nat} {agg : Bool} (E0 : Value → Eff) (hop : s.op = .load x n agg) (hh : s.h = 5) (hgd : s.gd = none) (h : takeVE st.F st.M s.key s.df s.ug x n agg (fun e => ∃ v, e = E0 v)) (hf : ∀ v, freshN st.bn (E0 v).nk = true) (hK : ∀ v, RW P l (st.app s.dst (E0 v)) K) : RW P (s :: l) st K := by
  simp only [RW, hgd, hop, hh]
  refine takeVE_mono (fun e he => ?_) h
  obtain ⟨v, rfl⟩ := he
  exact ⟨hf v, hK v⟩
theorem RW_isn {s : SOp} {l : List SOp} {st : St} {K : St → Prop} {ng : Bool} {x : Opd} (Q : Bool → Prop) (hop : s.op = .isn ng x) (hgd : s.gd = none) (h : isnW st.F st.M ng x Q) (hK : ∀ b, Q b → RW P l (st.app s.dst ⟨.bool b, [], []⟩) K) : RW P (s :: l) st K := by
  simp only [RW, hgd, hop]
  exact isnW_mono hK h
theorem RW_ls {l l' : List SOp} {st : St} {K : St → Prop} (e : l = l') (h : RW P l' st K) : RW P l st K := e ▸ h
theorem DW_ls {l l' : List SOp} {st : St} {K : St → Prop} (e : l = l') (h : DW P l' st K) : DW P l st K := e ▸ h
theorem RW_nil {st : St} {K : St → Prop} (h : K st) : RW P [] st K := h
theorem RW_callG {s : SOp} {l : List SOp} {st : St} {K : St → Prop} {fo : Opd} {args : List (Opd × Option Nat)} {f : FuncId} {as : List Arg} {rs : List TV} {v : V} {gd : Tmp × Bool} {c : Bool} (hcb : callB P f = true) (hsem : SemX P f as [] rs []) (md : Bool) (hop : s.op = .call fo args) (hgd : s.gd = some gd) (hw : wantS st.F (some gd) = some c)
    (h : c = true → gus st.F c s.ug ∧ callP (unF s.ug st.F) st.M s.key fo args f as [] rs [] md [] [] [] (fun x => x = ⟨v, [], []⟩)) (hK : RW P l (st.app s.dst ⟨.opt c v, [], []⟩) K) : RW P (s :: l) st K := by
  simp only [RW, hgd, hw, guardE, hop]
  exact ⟨v, fun hc => ⟨(h hc).1, callE_of hcb hsem md [] [] [] (h hc).2⟩, hK⟩
theorem DW_callG {s : SOp} {l : List SOp} {st : St} {K : St → Prop} {fo : Opd} {args : List (Opd × Option Nat)} {f : FuncId} {as : List Arg} {rs : List TV} {v : V} {gd : Tmp × Bool} {c : Bool} (hcb : callB P f = true) (hsem : SemX P f as [] rs []) (md : Bool) (hop : s.op = .call fo args) (hgd : s.gd = some gd) (hw : wantS (onlyN s.lk st.F) (some gd) = some c)
    (h : c = true → gus (onlyN s.lk st.F) c s.ug ∧ callP (unF s.ug (onlyN s.lk st.F)) (onlyN s.rk st.M) s.key fo args f as [] rs [] md [] [] [] (fun x => x = ⟨v, [], []⟩)) (hK : DW P l (st.app s.dst ⟨.opt c v, [], []⟩) K) : DW P (s :: l) st K := by
  simp only [DW, hgd, hw, guardE, hop]
  exact ⟨v, fun hc => ⟨(h hc).1, callE_of hcb hsem md [] [] [] (h hc).2⟩, hK⟩
end
section
variable {P : Program} [Inv P]
theorem RW_callN {s : SOp} {l : List SOp} {st st2 : St} {K : St → Prop} {fo : Opd} {args : List (Opd × Option Nat)} {f : FuncId} {as : List Arg} {L : List Ob} {rs : List TV} {L' : List Ob} {e : Eff} (hcb : callB P f = true) (hsem : SemX P f as L rs L') (md : Bool) (hk ksA ksO : List Nat) (hop : s.op = .call fo args) (hgd : s.gd = none)
    (h : callP st.F st.M s.key fo args f as L rs L' md hk ksA ksO (fun x => x = e)) (hf : freshN st.bn e.nk = true) (hst : st.app s.dst e = st2) (hK : RW P l st2 K) : RW P (s :: l) st K := RW_call hcb hsem md hk ksA ksO hop hgd h hf (hst ▸ hK)
theorem DW_callN {s : SOp} {l : List SOp} {st st2 : St} {K : St → Prop} {fo : Opd} {args : List (Opd × Option Nat)} {f : FuncId} {as : List Arg} {L : List Ob} {rs : List TV} {L' : List Ob} {e : Eff} (hcb : callB P f = true) (hsem : SemX P f as L rs L') (md : Bool) (hk ksA ksO : List Nat) (hop : s.op = .call fo args) (hgd : s.gd = none)
    (h : callP (onlyN s.lk st.F) (onlyN s.rk st.M) s.key fo args f as L rs L' md hk ksA ksO (fun x => x = e)) (hf : (freshN st.bn e.nk && (subN (e.wm.map (·.1)) s.wk && subN e.nk s.wk)) = true) (hst : st.app s.dst e = st2) (hK : DW P l st2 K) : DW P (s :: l) st K := DW_call hcb hsem md hk ksA ksO hop hgd h hf (hst ▸ hK)
theorem RW_callBN (t : Nat) (df : List T) {s : SOp} {l : List SOp} {st st2 : St} {K : St → Prop} {fo : Opd} {args : List (Opd × Option Nat)} {f : FuncId} {as : List Arg} {L : List Ob} {rs : List TV} {L' : List Ob} {e e2 : Eff} (hcb : callB P f = true) (hsem : SemX P f as L rs L') (md : Bool) (hk ksA ksO : List Nat) (hop : s.op = .call fo args) (hgd : s.gd = none)
    (h : callP st.F st.M s.key fo args f as L rs L' md hk ksA ksO (fun x => x = e)) (hd : dstN s.dst t = true) (hb : backE st.F st.M t df e (fun x => x = e2)) (hf : freshN st.bn e2.nk = true) (hst : st.app s.dst e2 = st2) (hK : RW P l st2 K) : RW P (s :: l) st K := RW_callB t df hcb hsem md hk ksA ksO hop hgd h hd hb hf (hst ▸ hK)
theorem RW_callVN (t q κ i j : Nat) (df : List T) {s : SOp} {l : List SOp} {st st2 : St} {K : St → Prop} {fo : Opd} {args : List (Opd × Option Nat)} {f : FuncId} {as : List Arg} {L : List Ob} {rs : List TV} {L' : List Ob} {e e2 : Eff} (hcb : callB P f = true) (hsem : SemX P f as L rs L') (md : Bool) (hk ksA ksO : List Nat) (hop : s.op = .call fo args) (hgd : s.gd = none)
    (h : callP st.F st.M s.key fo args f as L rs L' md hk ksA ksO (fun x => x = e)) (hd : dstN s.dst t = true) (hb : backVE st.F st.M t q κ i j df e (fun x => x = e2)) (hf : freshN st.bn e2.nk = true) (hst : st.app s.dst e2 = st2) (hK : RW P l st2 K) : RW P (s :: l) st K := RW_callV t q κ i j df hcb hsem md hk ksA ksO hop hgd h hd hb hf (hst ▸ hK)
theorem RW_takeVN {s : SOp} {l : List SOp} {st : St} {K : St → Prop} {x : Opd} {n : Nat} {agg : Bool} (E0 : Value → Eff) (S0 : Value → St) (hop : s.op = .load x n agg) (hh : s.h = 5) (hgd : s.gd = none) (h : takeVE st.F st.M s.key s.df s.ug x n agg (fun e => ∃ v, e = E0 v)) (hf : ∀ v, freshN st.bn (E0 v).nk = true) (hst : ∀ v, st.app s.dst (E0 v) = S0 v) (hK : ∀ v, RW P l (S0 v) K) : RW P (s :: l) st K := RW_takeV E0 hop hh hgd h hf fun v => hst v ▸ hK v
theorem RW_callGN {s : SOp} {l : List SOp} {st st2 : St} {K : St → Prop} {fo : Opd} {args : List (Opd × Option Nat)} {f : FuncId} {as : List Arg} {rs : List TV} {v : V} {gd : Tmp × Bool} {c : Bool} (hcb : callB P f = true) (hsem : SemX P f as [] rs []) (md : Bool) (hop : s.op = .call fo args) (hgd : s.gd = some gd) (hw : wantS st.F (some gd) = some c)
    (h : c = true → gus st.F c s.ug ∧ callP (unF s.ug st.F) st.M s.key fo args f as [] rs [] md [] [] [] (fun x => x = ⟨v, [], []⟩)) (hst : st.app s.dst ⟨.opt c v, [], []⟩ = st2) (hK : RW P l st2 K) : RW P (s :: l) st K := RW_callG hcb hsem md hop hgd hw h (hst ▸ hK)
theorem DW_callGN {s : SOp} {l : List SOp} {st st2 : St} {K : St → Prop} {fo : Opd} {args : List (Opd × Option Nat)} {f : FuncId} {as : List Arg} {rs : List TV} {v : V} {gd : Tmp × Bool} {c : Bool} (hcb : callB P f = true) (hsem : SemX P f as [] rs []) (md : Bool) (hop : s.op = .call fo args) (hgd : s.gd = some gd) (hw : wantS (onlyN s.lk st.F) (some gd) = some c)
    (h : c = true → gus (onlyN s.lk st.F) c s.ug ∧ callP (unF s.ug (onlyN s.lk st.F)) (onlyN s.rk st.M) s.key fo args f as [] rs [] md [] [] [] (fun x => x = ⟨v, [], []⟩)) (hst : st.app s.dst ⟨.opt c v, [], []⟩ = st2) (hK : DW P l st2 K) : DW P (s :: l) st K := DW_callG hcb hsem md hop hgd hw h (hst ▸ hK)
end
def dropL {β : Type} (ks : List Nat) : List (Nat × β) → List (Nat × β)
  | [] => []
  | (a, x) :: l => if memN a ks = true then dropL ks l else (a, x) :: dropL ks l
def St.drop (dt dm : List Nat) (st : St) : St := ⟨dropL dt st.fr, dropL dm st.ms, st.bn⟩
theorem CW_loopD {P : Program} [Inv P] (dt dm : List Nat) {α : Type} {c : SC} {Q : Ex → St → Prop} {st : St} (f : α → List (Nat × V)) (g : α → List (Nat × Mem)) (m : α → Nat) (I : α → Prop) (x0 : α) (ρ : List (Nat × Nat)) (h0 : fit ρ st ((St.drop dt dm st).set (f x0) (g x0))) (hi : I x0)
    (hr : ∀ x, I x → CW P c (lpQ (fun x => (St.drop dt dm st).set (f x) (g x)) m I (m x) Q) ((St.drop dt dm st).set (f x) (g x))) : CW P (.loop c) Q st := CW_loop (fun x => (St.drop dt dm st).set (f x) (g x)) m I x0 ρ h0 hi hr
attribute [go_sem] St.drop dropL
theorem tm_nil : tm [] = [] := rfl
theorem tm_cons (t : T) (l : List T) : tm (t :: l) = t :: l := rfl
attribute [go_sem] tm_nil tm_cons sd backE backVE takeVE flatBut dstN takeHE storeAE reV reVs reP rePs
end Go.H
end
section
set_option linter.unusedSimpArgs false
set_option linter.unusedVariables false
namespace Go.H
open Go
def oT : Opd → List Nat
  | .t n => [n]
  | _ => []
def ooT : Option Opd → List Nat
  | some x => oT x
  | none => []
def osT : List Opd → List Nat
  | [] => []
  | x :: l => oT x ++ osT l
def AOp.tms : AOp → List Nat
  | .mv x => oT x
  | .not x => oT x
  | .neg x => oT x
  | .ext x _ => oT x
  | .fld x _ _ _ => oT x
  | .fad x _ => oT x
  | .nck x => oT x
  | .load x _ _ => oT x
  | .cvi _ x => oT x
  | .cid x => oT x
  | .cbs x => oT x
  | .csb x => oT x
  | .len x => oT x
  | .slen x => oT x
  | .cap x => oT x
  | .clr x _ => oT x
  | .box x => oT x
  | .isn _ x => oT x
  | .pick c a b => oT c ++ (oT a ++ oT b)
  | .bin _ x y => oT x ++ oT y
  | .eqa _ x y _ => oT x ++ oT y
  | .beq _ x y => oT x ++ oT y
  | .idx x y _ => oT x ++ oT y
  | .ixa x y _ _ => oT x ++ oT y
  | .six x y => oT x ++ oT y
  | .store x y _ => oT x ++ oT y
  | .app _ x y _ _ => oT x ++ oT y
  | .cpy _ x y _ => oT x ++ oT y
  | .mks x y _ _ => oT x ++ oT y
  | .sls x a b => oT x ++ (ooT a ++ ooT b)
  | .sll x a b c _ => oT x ++ (ooT a ++ (ooT b ++ ooT c))
  | .bld _ ps => osT (ps.map (·.2.2))
  | .bsl _ _ ps => osT (ps.map (·.2))
  | .mkf _ cs => osT cs
  | .mnx _ xs => osT xs
  | .call f as => oT f ++ osT (as.map (·.1))
  | .alloc _ => []
  | .bad => []
def insN (x : Nat) : List Nat → List Nat
  | [] => [x]
  | y :: l => match Nat.blt x y with
    | true => x :: y :: l
    | false => match Nat.beq x y with
      | true => y :: l
      | false => y :: insN x l
def uniN : List Nat → List Nat → List Nat
  | [], l => l
  | x :: xs, l => uniN xs (insN x l)
def remN (x : Nat) : List Nat → List Nat
  | [] => []
  | y :: l => match Nat.beq x y with
    | true => l
    | false => y :: remN x l
def hasN (x : Nat) : List Nat → Bool
  | [] => false
  | y :: l => match Nat.beq x y with
    | true => true
    | false => hasN x l
def subL : List Nat → List Nat → Bool
  | [], _ => true
  | x :: xs, l => match hasN x l with
    | true => subL xs l
    | false => false
def lookN (x : Nat) : List (Nat × List Nat) → List Nat
  | [] => []
  | (y, r) :: l => match Nat.beq x y with
    | true => r
    | false => lookN x l
def fixL (f : List Nat → SC × List Nat) : Nat → List Nat → SC × List Nat
  | 0, l => f l
  | n + 1, l => match f l with
    | (a, l2) => match subL l2 l with
      | true => (a, l)
      | false => fixL f n (uniN l2 l)
def lvO (s : SOp) (l : List Nat) : List Nat :=
  uniN s.op.tms (uniN (match s.gd with | some (t, _) => [t] | none => []) (match s.dst with | some d => remN d l | none => l))
def lvOs : List SOp → List Nat → List Nat
  | [], l => l
  | s :: ss, l => lvO s (lvOs ss l)
def lvC : SC → List Nat → List (Nat × List Nat) → List Nat → SC × List Nat
  | .skip, n, _, _ => (.skip, n)
  | .ret, _, _, r => (.ret, r)
  | .exit i, _, ex, _ => (.exit i, lookN i ex)
  | .reg d ops (some (_, ks)), n, _, _ => (.reg d ops (some (n, ks)), lvOs ops n)
  | .reg d ops none, n, _, _ => (.reg d ops (some (n, [])), lvOs ops n)
  | .seq a b, n, ex, r => match lvC b n ex r with
    | (b, lb) => match lvC a lb ex r with
      | (a, la) => (.seq a b, la)
  | .cond c a b, n, ex, r => match lvC a n ex r with
    | (a, la) => match lvC b n ex r with
      | (b, lb) => (.cond c a b, uniN (oT c) (uniN la lb))
  | .block id c, n, ex, r => match lvC c n ((id, n) :: ex) r with
    | (a, la) => (.block id a, la)
  | .loop c, _, ex, r => match fixL (fun l => lvC c l ex r) 6 [] with
    | (a, la) => (.loop a, la)
def tdN (P : Nat → Option TypeInfo) : TypeDesc → TypeDesc
  | .named _ u => match P u with
    | some i => i.desc
    | none => .bool
  | d => d
def tdG (P : Nat → Option TypeInfo) (t : TypeId) : TypeDesc := match P t with
  | some i => tdN P i.desc
  | none => .bool
def szG (P : Nat → Option TypeInfo) (t : TypeId) : Nat := match P t with
  | some i => i.size
  | none => 0
def byG (P : Nat → Option TypeInfo) (t : TypeId) : Nat := match P t with
  | some i => i.bytes
  | none => 0
def agG : TypeDesc → Bool
  | .struct _ => true
  | .array _ _ => true
  | _ => false
def repG (z : List V) : Nat → List V
  | 0 => []
  | n + 1 => z ++ repG z n
def zG (P : Nat → Option TypeInfo) : Nat → TypeId → List V
  | 0, _ => []
  | n + 1, t => match tdG P t with
    | .bool => [.bool false]
    | .int k => [.int k 0]
    | .string => [.str ByteArray.empty]
    | .slice _ => [.nil]
    | .struct fs => zGs (zG P n) fs.toList
    | .array len e => repG (zG P n e) len
    | _ => []
where zGs (f : TypeId → List V) : List Field → List V
  | [] => []
  | x :: l => f x.type ++ zGs f l
def flG (P : Nat → Option TypeInfo) : Nat → TypeId → List Nat
  | 0, _ => []
  | n + 1, t => match tdG P t with
    | .bool => [0]
    | .int _ => [1]
    | .string => [2]
    | .struct fs => flGs (flG P n) fs.toList
    | _ => []
where flGs (f : TypeId → List Nat) : List Field → List Nat
  | [] => []
  | x :: l => f x.type ++ flGs f l
def nthG {α : Type} : List α → Nat → Option α
  | [], _ => none
  | x :: _, 0 => some x
  | _ :: l, n + 1 => nthG l n
def bpG (P : Nat → Option TypeInfo) (fs : List Field) : List (Nat × Operand) → List (Nat × Nat × Opd)
  | [] => []
  | (i, o) :: l => match nthG fs i with
    | some f => (f.offset, szG P f.type, opd o) :: bpG P fs l
    | none => []
def baG (n : Nat) : List (Nat × Operand) → List (Nat × Nat × Opd)
  | [] => []
  | (i, o) :: l => (i * n, n, opd o) :: baG n l
def bsG : List (Nat × Operand) → List (Nat × Opd)
  | [] => []
  | (i, o) :: l => (i, opd o) :: bsG l
def opsG : List Operand → List Opd
  | [] => []
  | o :: l => opd o :: opsG l
def ptG (P : Nat → Option TypeInfo) (t : TypeId) : Option Nat := match tdG P t with
  | .pointer e => some (szG P e)
  | _ => none
def agsG (P : Nat → Option TypeInfo) : List Operand → List TypeId → List (Opd × Option Nat)
  | [], _ => []
  | _ :: _, [] => []
  | o :: os, t :: ts => (opd o, ptG P t) :: agsG P os ts
def slG : TypeDesc → TypeId
  | .slice e => e
  | _ => 0
def hdO : List Operand → Opd
  | x :: _ => opd x
  | [] => .no
def tlO : List Operand → List Operand
  | _ :: l => l
  | [] => []
def isS : TypeDesc → Bool
  | .string => true
  | _ => false
def hdY (P : Nat → Option TypeInfo) : List TypeId → TypeDesc
  | t :: _ => tdG P t
  | [] => .bool
def tlY : List TypeId → List TypeId
  | _ :: l => l
  | [] => []
def bcG (P : Nat → Option TypeInfo) (b : Builtin) (args : List Operand) (tys : List TypeId) : AOp := match b with
  | .len => match isS (hdY P tys) with
    | true => .slen (hdO args)
    | false => .len (hdO args)
  | .cap => .cap (hdO args)
  | .min => .mnx false (opsG args)
  | .max => .mnx true (opsG args)
  | .append => .app (isS (hdY P (tlY tys))) (hdO args) (hdO (tlO args)) (szG P (slG (hdY P tys))) (byG P (slG (hdY P tys)))
  | .copy => .cpy (isS (hdY P (tlY tys))) (hdO args) (hdO (tlO args)) (szG P (slG (hdY P tys)))
  | .clear => .clr (hdO args) (zG P 12 (slG (hdY P tys)))
  | _ => .bad
def oG : Option Operand → Option Opd
  | some x => some (opd x)
  | none => none
def isNe : BinOp → Bool
  | .neq => true
  | _ => false
def cG (P : Nat → Option TypeInfo) : Op → AOp
  | .move x => .mv (opd x)
  | .assign x => .mv (opd x)
  | .pick c a b => .pick (opd c) (opd a) (opd b)
  | .binOp o t x y _ => match tdG P t with
    | .struct _ => .eqa (isNe o) (opd x) (opd y) (flG P 12 t)
    | .bool => .beq (isNe o) (opd x) (opd y)
    | .slice _ => .isn (isNe o) (opd x)
    | _ => .bin o (opd x) (opd y)
  | .unOp o _ x => match o with
    | .not => .not (opd x)
    | .neg => .neg (opd x)
    | _ => .bad
  | .extract x i => .ext (opd x) i
  | .field t x f => match tdG P t with
    | .struct fs => match nthG fs.toList f with
      | some d => .fld (opd x) d.offset (szG P d.type) (agG (tdG P d.type))
      | none => .bad
    | _ => .bad
  | .fieldAddr t x f => match tdG P t with
    | .struct fs => match nthG fs.toList f with
      | some d => .fad (opd x) d.offset
      | none => .bad
    | _ => .bad
  | .nilCheck x => .nck (opd x)
  | .indexAddr t x i => match tdG P t with
    | .slice e => .idx (opd x) (opd i) (szG P e)
    | .array len e => .ixa (opd x) (opd i) len (szG P e)
    | _ => .bad
  | .index _ x i => .six (opd x) (opd i)
  | .load t x => .load (opd x) (szG P t) (agG (tdG P t))
  | .store t x v => .store (opd x) (opd v) (szG P t)
  | .slice t x lo hi mx => match tdG P t with
    | .string => .sls (opd x) (oG lo) (oG hi)
    | .slice e => .sll (opd x) (oG lo) (oG hi) (oG mx) (szG P e)
    | _ => .bad
  | .build t parts => match tdG P t with
    | .struct fs => .bld (zG P 12 t) (bpG P fs.toList parts.toList)
    | .array _ e => .bld (zG P 12 t) (baG (szG P e) parts.toList)
    | _ => .bad
  | .buildSlice t len parts => .bsl (zG P 12 (slG (tdG P t))) len (bsG parts.toList)
  | .convert s d x => match tdG P s with
    | .int _ => match tdG P d with
      | .int k => .cvi k (opd x)
      | _ => .bad
    | .string => match tdG P d with
      | .string => .cid (opd x)
      | .slice _ => .csb (opd x)
      | _ => .bad
    | .slice _ => .cbs (opd x)
    | _ => .bad
  | .makeFunc fn _ caps => match fn with
    | .func f => .mkf f (opsG caps.toList)
    | _ => .bad
  | .call c => match c with
    | ⟨.value f, args, tys⟩ => .call (opd f) (agsG P args.toList tys.toList)
    | ⟨.builtin b, args, tys⟩ => bcG P b args.toList tys.toList
    | _ => .bad
  | .alloc t => .alloc (zG P 12 t)
  | .box _ x => .box (opd x)
  | .makeSlice t l c => .mks (opd l) (opd c) (zG P 12 (slG (tdG P t))) (byG P (slG (tdG P t)))
  | _ => .bad
def gdG (ops : List Oper) : Option (Nat × Bool) → Option (Tmp × Bool)
  | none => none
  | some (j, b) => match nthG ops j with
    | some o => match o.dst with
      | some t => some (t, b)
      | none => none
    | none => none
def lkG (ops : List Oper) (s : SOp) : List Nat := match s.gd with
  | some (t, _) => s.op.tms ++ [t]
  | none => s.op.tms
structure Hn where
  h : Option Nat
  key : Option Nat
  df : Option (Nat × Bool)
  ug : Option (List Nat)
def hnL (x : Nat) : List (Nat × Hn) → Hn
  | [] => ⟨none, none, none, none⟩
  | (y, r) :: l => match Nat.beq x y with
    | true => r
    | false => hnL x l
def drL (r i : Nat) : List (Nat × Nat × List Nat × List Nat) → List Nat × List Nat
  | [] => ([], [])
  | (y, j, a) :: l => match Nat.beq r y && Nat.beq i j with
    | true => a
    | false => drL r i l
def selO (o : Oper) : Nat := match o.dst with
  | some d => 2 * d + 2
  | none => match o.op with
    | .store _ (.tmp x) _ => 2 * x + 3
    | _ => 0
abbrev GEnv := List (Nat × Bool × Option Nat)
def geL (x : Nat) : GEnv → Bool × Option Nat
  | [] => (false, none)
  | (y, r) :: l => match Nat.beq x y with
    | true => r
    | false => geL x l
def geO (env : GEnv) : Operand → Bool × Option Nat
  | .tmp x => geL x env
  | _ => (false, none)
def slE (P : Nat → Option TypeInfo) (t : TypeId) : Option Nat := match tdG P t with
  | .slice e => some e
  | _ => none
def geU (P : Nat → Option TypeInfo) (env : GEnv) (o : Oper) : GEnv := match o.dst with
  | none => env
  | some d => match (match o.op with
      | .buildSlice _ _ _ => (true, none)
      | .call _ => (true, none)
      | .indexAddr t x _ => (match slE P t with
        | some e => (false, some e)
        | none => (false, (geO env x).2))
      | .fieldAddr _ x _ => (false, (geO env x).2)
      | .nilCheck x => (false, (geO env x).2)
      | .move x => (false, (geO env x).2)
      | .assign x => (false, (geO env x).2)
      | _ => ((false, none) : Bool × Option Nat)) with
    | (false, none) => env
    | r => (d, r) :: env
def dfG (P : Nat → Option TypeInfo) (tb : Nat → Bool → List T) (env : GEnv) : Op → List T
  | .indexAddr t _ _ => match slE P t with | some e => tb e false | none => []
  | .load _ x => match (geO env x).2 with | some e => tb e true | none => []
  | .store _ x _ => match (geO env x).2 with | some e => tb e true | none => []
  | .buildSlice t _ _ => match slE P t with | some e => tb e true | none => []
  | .makeSlice t _ _ => match slE P t with | some e => tb e true | none => []
  | _ => []
def hG (env : GEnv) : Op → Nat
  | .call c => match c.callee with
    | .builtin .append => match c.args.toList with
      | [_, y] => match (geO env y).1 with | true => 2 | false => 0
      | _ => 0
    | _ => 0
  | .binOp o t _ _ _ => match Nat.beq t 3 with
    | true => (match o with | .add => 1 | .sub => 1 | .mul => 1 | _ => 0)
    | false => 0
  | _ => 0
def kG (d : Option Nat) : Op → Nat
  | .alloc _ => 4096 * (d.getD 0 + 1)
  | .box _ _ => 4096 * (d.getD 0 + 1)
  | .buildSlice _ _ _ => 4096 * (d.getD 0 + 1)
  | .makeSlice _ _ _ => 4096 * (d.getD 0 + 1)
  | .call _ => 4096 * (d.getD 0 + 1)
  | _ => 0
def fltN (gt : List Nat) : List Nat → List Nat
  | [] => []
  | x :: l => match hasN x gt with
    | true => insN x (fltN gt l)
    | false => fltN gt l
def ugG (gt : List Nat) (s : SOp) : List Nat := match s.gd with
  | none => []
  | some _ => fltN gt (match s.op with | .pick c _ _ => oT c | op => op.tms)
def orD {α : Type} : Option α → α → α
  | some x, _ => x
  | none, y => y
def gO (P : Nat → Option TypeInfo) (nt : Nat) (ops : Array Oper) (draw : Bool) (tb : Nat → Bool → List T) (env : GEnv) (hs : List (Nat × Hn)) (dr : List (Nat × Nat × List Nat × List Nat)) (rid i : Nat) (gt : List Nat) (o : Oper) : SOp :=
  match gdG ops.toList o.guard, cG P o.op with
  | gd, op => match (⟨o.dst, op, gd, [], 0, 0, [], [], [], []⟩ : SOp) with
    | s => match hnL (selO o) hs, drL rid i dr with
      | ⟨h, key, df, ug⟩, (rk, wk) => ⟨o.dst, op, gd, (match draw with | true => o.looksAt ops | false => []), orD h (hG env o.op), orD key (kG o.dst o.op), (match df with | some (t, b) => tb t b | none => dfG P tb env o.op), orD ug (ugG gt s), rk, wk⟩
def gOs (P : Nat → Option TypeInfo) (nt : Nat) (ops : Array Oper) (draw : Bool) (tb : Nat → Bool → List T) (hs : List (Nat × Hn)) (dr : List (Nat × Nat × List Nat × List Nat)) (rid : Nat) (gt : List Nat) : List Oper → Nat → GEnv → List SOp × GEnv
  | [], _, env => ([], env)
  | o :: l, i, env => match gOs P nt ops draw tb hs dr rid gt l (i + 1) (geU P env o) with
    | (ss, e2) => (gO P nt ops draw tb env hs dr rid i gt o :: ss, e2)
def gtG : List Oper → List Nat
  | [] => []
  | o :: l => match o.guard, o.dst with
    | some _, some d => d :: gtG l
    | _, _ => gtG l
def gC (P : Nat → Option TypeInfo) (nt : Nat) (tb : Nat → Bool → List T) (hs : List (Nat × Hn)) (dr : List (Nat × Nat × List Nat × List Nat)) : Code → GEnv → SC × GEnv
  | .skip, e => (.skip, e)
  | .ret, e => (.ret, e)
  | .exit i, e => (.exit i, e)
  | .region id ops draw, e => match gOs P nt ops draw tb hs dr id (gtG ops.toList) ops.toList 0 e with
    | (ss, e2) => (.reg draw ss none, e2)
  | .seq a b, e => match gC P nt tb hs dr a e with
    | (a, e) => match gC P nt tb hs dr b e with
      | (b, e) => (.seq a b, e)
  | .cond c a b, e => match gC P nt tb hs dr a e with
    | (a, e) => match gC P nt tb hs dr b e with
      | (b, e) => (.cond (opd c) a b, e)
  | .block id c, e => match gC P nt tb hs dr c e with
    | (a, e) => (.block id a, e)
  | .loop c, e => match gC P nt tb hs dr c e with
    | (a, e) => (.loop a, e)
  | _, e => (.skip, e)
def retG : List ResultVar → List Nat
  | [] => []
  | .tmp t :: l => insN t (retG l)
  | .cell t _ :: l => insN t (retG l)
def genF (P : Nat → Option TypeInfo) (fn : Func) (tb : Nat → Bool → List T) (hs : List (Nat × Hn)) (dr : List (Nat × Nat × List Nat × List Nat)) : SC :=
  match fn.body with
  | none => .skip
  | some c => match gC P fn.ntmps tb hs dr c [], retG fn.results.toList with
    | (sc, _), r => (lvC sc r [] r).1
def tyG (l : List (List TypeInfo)) (t : Nat) : Option TypeInfo := match nthG l (t / 16) with
  | some r => nthG r (t % 16)
  | none => none
end Go.H
end
section
set_option linter.unusedSimpArgs false
set_option linter.unusedVariables false
namespace Go.H
open Go
attribute [go_sem ↓] reduceIte
theorem b1 : ∀ {a b : Bool}, ((!a) = b ↔ a = !b) := @Bool.not_eq_eq_eq_not
theorem b2 : (!true) = false := Bool.not_true
theorem b3 : (!false) = true := Bool.not_false
theorem b4 (p : Prop) [Decidable p] : (decide p = true) = p := decide_eq_true_eq
theorem b5 (p : Prop) [Decidable p] : decide p = false ↔ ¬p := decide_eq_false_iff_not
theorem b6 (a b : Bool) : ((a && b) = true) = (a = true ∧ b = true) := Bool.and_eq_true a b
theorem b7 (a b : Bool) : ((a || b) = true) = (a = true ∨ b = true) := Bool.or_eq_true a b
theorem int_res {k : IntKind} {a b : Int} (h : a = b) : [TV.one (T.int k a)] = [TV.one (T.int k b)] := by rw [h]
theorem bool_res {a b : Bool} (h : a = b) : [TV.one (T.bool a)] = [TV.one (T.bool b)] := by rw [h]
def plainO (s : SOp) : Bool := match s.op with
  | .call _ _ => false
  | .isn _ _ => false
  | .load _ _ _ => match s.h with | 5 => false | _ => true
  | _ => true
def plainL : List SOp → Bool
  | [] => true
  | s :: l => match plainO s with | true => plainL l | false => false
def preL : List SOp → List SOp
  | [] => []
  | s :: l => match plainO s with | true => s :: preL l | false => []
def posL : List SOp → List SOp
  | [] => []
  | s :: l => match plainO s with | true => posL l | false => s :: l
theorem pre_pos : ∀ l, preL l ++ posL l = l
  | [] => rfl
  | s :: l => by
    simp only [preL, posL]
    cases plainO s
    · rfl
    · simp only [List.cons_append, pre_pos l]
section
variable {P : Program} [Inv P]
theorem isR {l : List SOp} {lv : Option (List Nat × List Nat)} {b : SC} {Q : Ex → St → Prop} {st : St} (h : CW P (.seq (.reg false l lv) b) Q st) : CW P (.seq (.reg false l lv) b) Q st := h
theorem isRn {l : List SOp} {lv : Option (List Nat × List Nat)} {Q : Ex → St → Prop} {st : St} (h : CW P (.reg false l lv) Q st) : CW P (.reg false l lv) Q st := h
theorem isD {l : List SOp} {lv : Option (List Nat × List Nat)} {b : SC} {Q : Ex → St → Prop} {st : St} (h : CW P (.seq (.reg true l lv) b) Q st) : CW P (.seq (.reg true l lv) b) Q st := h
theorem isDn {l : List SOp} {lv : Option (List Nat × List Nat)} {Q : Ex → St → Prop} {st : St} (h : CW P (.reg true l lv) Q st) : CW P (.reg true l lv) Q st := h
theorem isRW {l : List SOp} {st : St} {K : St → Prop} (h : RW P l st K) : RW P l st K := h
theorem isDW {l : List SOp} {st : St} {K : St → Prop} (h : DW P l st K) : DW P l st K := h
theorem wR {l : List SOp} {lv : Option (List Nat × List Nat)} {b : SC} {Q : Ex → St → Prop} {st : St} {st1 : St} (k : CW P b Q st1) (hn : plainL l = true := by rfl) (h : RW P l st (fun s => s.keep lv = st1) := by first | (simp only [go_sem, hA] <;> and_intros <;> first | with_reducible exact rfl | ((try clear kD); first | omega | with_reducible trivial | exact trivial | (intros; simp_all; done) | grind)) | (simp only [go_sem] <;> and_intros <;> first | with_reducible exact rfl | ((try clear kD); first | omega | with_reducible trivial | exact trivial | (intros; simp_all; done) | grind))) : CW P (.seq (.reg false l lv) b) Q st := W_reg h k
theorem wRn {l : List SOp} {lv : Option (List Nat × List Nat)} {Q : Ex → St → Prop} {st : St} {st1 : St} (k : Q .normal st1) (hn : plainL l = true := by rfl) (h : RW P l st (fun s => s.keep lv = st1) := by first | (simp only [go_sem, hA] <;> and_intros <;> first | with_reducible exact rfl | ((try clear kD); first | omega | with_reducible trivial | exact trivial | (intros; simp_all; done) | grind)) | (simp only [go_sem] <;> and_intros <;> first | with_reducible exact rfl | ((try clear kD); first | omega | with_reducible trivial | exact trivial | (intros; simp_all; done) | grind))) : CW P (.reg false l lv) Q st := W_regn h k
theorem wRe {l : List SOp} {lv : Option (List Nat × List Nat)} {b : SC} {Q : Ex → St → Prop} {st : St} (h : RW P l st (fun s => CW P b Q (s.keep lv))) : CW P (.seq (.reg false l lv) b) Q st := CW_seq (CW_reg h)
theorem wRne {l : List SOp} {lv : Option (List Nat × List Nat)} {Q : Ex → St → Prop} {st : St} (h : RW P l st (fun s => Q .normal (s.keep lv))) : CW P (.reg false l lv) Q st := CW_reg h
theorem Rp {l l2 m : List SOp} {s : SOp} {st st1 : St} {K : St → Prop} (k : RW P l2 st1 K) (hl : preL l = s :: m := by simp only [preL, plainO]; exact rfl) (e : posL l = l2 := by simp only [posL, plainO]; exact rfl) (h : RW P (s :: m) st (fun s => s = st1) := by first | (simp only [go_sem, hA] <;> and_intros <;> first | with_reducible exact rfl | ((try clear kD); first | omega | with_reducible trivial | exact trivial | (intros; simp_all; done) | grind)) | (simp only [go_sem] <;> and_intros <;> first | with_reducible exact rfl | ((try clear kD); first | omega | with_reducible trivial | exact trivial | (intros; simp_all; done) | grind))) : RW P l st K := by
  have hp := pre_pos l
  subst e
  have := RW_app (l := s :: m) (l2 := posL l) (RW_mono (fun s e => by subst e; exact k) h)
  rwa [← hl, hp] at this
theorem Re {lv : Option (List Nat × List Nat)} {b : SC} {Q : Ex → St → Prop} {st st2 : St} (k : CW P b Q st2) (e : st.keep lv = st2 := by first | (simp only [go_sem, hA]; exact rfl) | (simp only [go_sem]; exact rfl)) : RW P [] st (fun s => CW P b Q (s.keep lv)) := by subst e; exact k
theorem Rne {lv : Option (List Nat × List Nat)} {Q : Ex → St → Prop} {st st2 : St} (k : Q .normal st2) (e : st.keep lv = st2 := by first | (simp only [go_sem, hA]; exact rfl) | (simp only [go_sem]; exact rfl)) : RW P [] st (fun s => Q .normal (s.keep lv)) := by subst e; exact k
theorem kR {s : SOp} {l : List SOp} {st st2 : St} {K : St → Prop} {fo : Opd} {args : List (Opd × Option Nat)} {f : FuncId} {as : List Arg} {L : List Ob} {rs : List TV} {L' : List Ob} {e : Eff} (hsem : SemX P f as L rs L') (k : RW P l st2 K) (hcb : callB P f = true := by kernel_rfl) (hop : s.op = .call fo args := by exact rfl) (hgd : s.gd = none := by exact rfl) (h : callP st.F st.M s.key fo args f as L rs L' true [] [] [] (fun x => x = e) := by first | (simp only [go_sem, hA] <;> and_intros <;> first | with_reducible exact rfl | ((try clear kD); first | omega | with_reducible trivial | exact trivial | (intros; simp_all; done) | grind)) | (simp only [go_sem] <;> and_intros <;> first | with_reducible exact rfl | ((try clear kD); first | omega | with_reducible trivial | exact trivial | (intros; simp_all; done) | grind))) (hf : freshN st.bn e.nk = true := by first | rfl | (first | (simp only [go_sem, hA]; exact rfl) | (simp only [go_sem]; exact rfl))) (hst : st.app s.dst e = st2 := by first | (simp only [go_sem, hA]; exact rfl) | (simp only [go_sem]; exact rfl)) : RW P (s :: l) st K := RW_callN hcb hsem true [] [] [] hop hgd h hf hst k
theorem kRk (hk ksA ksO : List Nat) {s : SOp} {l : List SOp} {st st2 : St} {K : St → Prop} {fo : Opd} {args : List (Opd × Option Nat)} {f : FuncId} {as : List Arg} {L : List Ob} {rs : List TV} {L' : List Ob} {e : Eff} (hsem : SemX P f as L rs L') (k : RW P l st2 K) (hcb : callB P f = true := by kernel_rfl) (hop : s.op = .call fo args := by exact rfl) (hgd : s.gd = none := by exact rfl) (h : callP st.F st.M s.key fo args f as L rs L' true hk ksA ksO (fun x => x = e) := by first | (simp only [go_sem, hA] <;> and_intros <;> first | with_reducible exact rfl | ((try clear kD); first | omega | with_reducible trivial | exact trivial | (intros; simp_all; done) | grind)) | (simp only [go_sem] <;> and_intros <;> first | with_reducible exact rfl | ((try clear kD); first | omega | with_reducible trivial | exact trivial | (intros; simp_all; done) | grind))) (hf : freshN st.bn e.nk = true := by first | rfl | (first | (simp only [go_sem, hA]; exact rfl) | (simp only [go_sem]; exact rfl))) (hst : st.app s.dst e = st2 := by first | (simp only [go_sem, hA]; exact rfl) | (simp only [go_sem]; exact rfl)) : RW P (s :: l) st K := RW_callN hcb hsem true hk ksA ksO hop hgd h hf hst k
theorem kRg {s : SOp} {l : List SOp} {st st2 : St} {K : St → Prop} {fo : Opd} {args : List (Opd × Option Nat)} {f : FuncId} {as : List Arg} {rs : List TV} {v : V} {gd : Tmp × Bool} {c : Bool} (hsem : SemX P f as [] rs []) (k : RW P l st2 K) (hcb : callB P f = true := by kernel_rfl) (hop : s.op = .call fo args := by exact rfl) (hgd : s.gd = some gd := by exact rfl) (hw : wantS st.F (some gd) = some c := by first | (simp only [go_sem, hA]; exact rfl) | (simp only [go_sem]; exact rfl))
    (h : c = true → gus st.F c s.ug ∧ callP (unF s.ug st.F) st.M s.key fo args f as [] rs [] true [] [] [] (fun x => x = ⟨v, [], []⟩) := by intro hg; first | (simp only [go_sem, hA] <;> and_intros <;> first | with_reducible exact rfl | ((try clear kD); first | omega | with_reducible trivial | exact trivial | (intros; simp_all; done) | grind)) | (simp only [go_sem] <;> and_intros <;> first | with_reducible exact rfl | ((try clear kD); first | omega | with_reducible trivial | exact trivial | (intros; simp_all; done) | grind))) (hst : st.app s.dst ⟨.opt c v, [], []⟩ = st2 := by first | (simp only [go_sem, hA]; exact rfl) | (simp only [go_sem]; exact rfl)) : RW P (s :: l) st K := RW_callGN hcb hsem true hop hgd hw h hst k
theorem wD {l : List SOp} {lv : Option (List Nat × List Nat)} {b : SC} {Q : Ex → St → Prop} {st : St} {st1 : St} (k : CW P b Q st1) (hn : plainL l = true := by rfl) (h : DW P l st (fun s => s.keep lv = st1) := by first | (simp only [go_sem, hA] <;> and_intros <;> first | with_reducible exact rfl | ((try clear kD); first | omega | with_reducible trivial | exact trivial | (intros; simp_all; done) | grind)) | (simp only [go_sem] <;> and_intros <;> first | with_reducible exact rfl | ((try clear kD); first | omega | with_reducible trivial | exact trivial | (intros; simp_all; done) | grind))) : CW P (.seq (.reg true l lv) b) Q st := W_drw h k
theorem wDn {l : List SOp} {lv : Option (List Nat × List Nat)} {Q : Ex → St → Prop} {st : St} {st1 : St} (k : Q .normal st1) (hn : plainL l = true := by rfl) (h : DW P l st (fun s => s.keep lv = st1) := by first | (simp only [go_sem, hA] <;> and_intros <;> first | with_reducible exact rfl | ((try clear kD); first | omega | with_reducible trivial | exact trivial | (intros; simp_all; done) | grind)) | (simp only [go_sem] <;> and_intros <;> first | with_reducible exact rfl | ((try clear kD); first | omega | with_reducible trivial | exact trivial | (intros; simp_all; done) | grind))) : CW P (.reg true l lv) Q st := W_drwn h k
theorem wDe {l : List SOp} {lv : Option (List Nat × List Nat)} {b : SC} {Q : Ex → St → Prop} {st : St} (h : DW P l st (fun s => CW P b Q (s.keep lv))) : CW P (.seq (.reg true l lv) b) Q st := CW_seq (CW_drw h)
theorem wDne {l : List SOp} {lv : Option (List Nat × List Nat)} {Q : Ex → St → Prop} {st : St} (h : DW P l st (fun s => Q .normal (s.keep lv))) : CW P (.reg true l lv) Q st := CW_drw h
theorem Dp {l l2 m : List SOp} {s : SOp} {st st1 : St} {K : St → Prop} (k : DW P l2 st1 K) (hl : preL l = s :: m := by simp only [preL, plainO]; exact rfl) (e : posL l = l2 := by simp only [posL, plainO]; exact rfl) (h : DW P (s :: m) st (fun s => s = st1) := by first | (simp only [go_sem, hA] <;> and_intros <;> first | with_reducible exact rfl | ((try clear kD); first | omega | with_reducible trivial | exact trivial | (intros; simp_all; done) | grind)) | (simp only [go_sem] <;> and_intros <;> first | with_reducible exact rfl | ((try clear kD); first | omega | with_reducible trivial | exact trivial | (intros; simp_all; done) | grind))) : DW P l st K := by
  have hp := pre_pos l
  subst e
  have := DW_app (l := s :: m) (l2 := posL l) (DW_mono (fun s e => by subst e; exact k) h)
  rwa [← hl, hp] at this
theorem De {lv : Option (List Nat × List Nat)} {b : SC} {Q : Ex → St → Prop} {st st2 : St} (k : CW P b Q st2) (e : st.keep lv = st2 := by first | (simp only [go_sem, hA]; exact rfl) | (simp only [go_sem]; exact rfl)) : DW P [] st (fun s => CW P b Q (s.keep lv)) := by subst e; exact k
theorem Dne {lv : Option (List Nat × List Nat)} {Q : Ex → St → Prop} {st st2 : St} (k : Q .normal st2) (e : st.keep lv = st2 := by first | (simp only [go_sem, hA]; exact rfl) | (simp only [go_sem]; exact rfl)) : DW P [] st (fun s => Q .normal (s.keep lv)) := by subst e; exact k
theorem kD {s : SOp} {l : List SOp} {st st2 : St} {K : St → Prop} {fo : Opd} {args : List (Opd × Option Nat)} {f : FuncId} {as : List Arg} {L : List Ob} {rs : List TV} {L' : List Ob} {e : Eff} (hsem : SemX P f as L rs L') (k : DW P l st2 K) (hcb : callB P f = true := by kernel_rfl) (hop : s.op = .call fo args := by exact rfl) (hgd : s.gd = none := by exact rfl) (h : callP (onlyN s.lk st.F) (onlyN s.rk st.M) s.key fo args f as L rs L' true [] [] [] (fun x => x = e) := by first | (simp only [go_sem, hA] <;> and_intros <;> first | with_reducible exact rfl | ((try clear kD); first | omega | with_reducible trivial | exact trivial | (intros; simp_all; done) | grind)) | (simp only [go_sem] <;> and_intros <;> first | with_reducible exact rfl | ((try clear kD); first | omega | with_reducible trivial | exact trivial | (intros; simp_all; done) | grind))) (hf : (freshN st.bn e.nk && (subN (e.wm.map (·.1)) s.wk && subN e.nk s.wk)) = true := by first | rfl | (first | (simp only [go_sem, hA]; exact rfl) | (simp only [go_sem]; exact rfl))) (hst : st.app s.dst e = st2 := by first | (simp only [go_sem, hA]; exact rfl) | (simp only [go_sem]; exact rfl)) : DW P (s :: l) st K := DW_callN hcb hsem true [] [] [] hop hgd h hf hst k
theorem kDk (hk ksA ksO : List Nat) {s : SOp} {l : List SOp} {st st2 : St} {K : St → Prop} {fo : Opd} {args : List (Opd × Option Nat)} {f : FuncId} {as : List Arg} {L : List Ob} {rs : List TV} {L' : List Ob} {e : Eff} (hsem : SemX P f as L rs L') (k : DW P l st2 K) (hcb : callB P f = true := by kernel_rfl) (hop : s.op = .call fo args := by exact rfl) (hgd : s.gd = none := by exact rfl) (h : callP (onlyN s.lk st.F) (onlyN s.rk st.M) s.key fo args f as L rs L' true hk ksA ksO (fun x => x = e) := by first | (simp only [go_sem, hA] <;> and_intros <;> first | with_reducible exact rfl | ((try clear kD); first | omega | with_reducible trivial | exact trivial | (intros; simp_all; done) | grind)) | (simp only [go_sem] <;> and_intros <;> first | with_reducible exact rfl | ((try clear kD); first | omega | with_reducible trivial | exact trivial | (intros; simp_all; done) | grind))) (hf : (freshN st.bn e.nk && (subN (e.wm.map (·.1)) s.wk && subN e.nk s.wk)) = true := by first | rfl | (first | (simp only [go_sem, hA]; exact rfl) | (simp only [go_sem]; exact rfl))) (hst : st.app s.dst e = st2 := by first | (simp only [go_sem, hA]; exact rfl) | (simp only [go_sem]; exact rfl)) : DW P (s :: l) st K := DW_callN hcb hsem true hk ksA ksO hop hgd h hf hst k
theorem kDg {s : SOp} {l : List SOp} {st st2 : St} {K : St → Prop} {fo : Opd} {args : List (Opd × Option Nat)} {f : FuncId} {as : List Arg} {rs : List TV} {v : V} {gd : Tmp × Bool} {c : Bool} (hsem : SemX P f as [] rs []) (k : DW P l st2 K) (hcb : callB P f = true := by kernel_rfl) (hop : s.op = .call fo args := by exact rfl) (hgd : s.gd = some gd := by exact rfl) (hw : wantS (onlyN s.lk st.F) (some gd) = some c := by first | (simp only [go_sem, hA]; exact rfl) | (simp only [go_sem]; exact rfl))
    (h : c = true → gus (onlyN s.lk st.F) c s.ug ∧ callP (unF s.ug (onlyN s.lk st.F)) (onlyN s.rk st.M) s.key fo args f as [] rs [] true [] [] [] (fun x => x = ⟨v, [], []⟩) := by intro hg; first | (simp only [go_sem, hA] <;> and_intros <;> first | with_reducible exact rfl | ((try clear kD); first | omega | with_reducible trivial | exact trivial | (intros; simp_all; done) | grind)) | (simp only [go_sem] <;> and_intros <;> first | with_reducible exact rfl | ((try clear kD); first | omega | with_reducible trivial | exact trivial | (intros; simp_all; done) | grind))) (hst : st.app s.dst ⟨.opt c v, [], []⟩ = st2 := by first | (simp only [go_sem, hA]; exact rfl) | (simp only [go_sem]; exact rfl)) : DW P (s :: l) st K := DW_callGN hcb hsem true hop hgd hw h hst k
theorem cC {c : Opd} {a b : SC} {Q : Ex → St → Prop} {st : St} {t : Bool} {p q : Prop} (h1 : p → CW P a Q st) (h2 : q → CW P b Q st) (hc : ev st.F c = some (.bool t) := by first | (simp only [go_sem, hA]; exact rfl) | (simp only [go_sem]; exact rfl)) (hp : (t = true) = p := by first | (simp only [b1, b2, b3, b4, b5, b6, b7]; exact rfl) | exact rfl) (hq : (t = false) = q := by first | (simp only [b1, b2, b3, b4, b5, b6, b7]; exact rfl) | exact rfl) : CW P (.cond c a b) Q st := CW_cond hc (fun e => h1 (hp ▸ e)) (fun e => h2 (hq ▸ e))
theorem cF {c : Opd} {a b : SC} {Q : Ex → St → Prop} {st : St} (h : CW P b Q st) (hc : ev st.F c = some (.bool false) := by first | (simp only [go_sem, hA]; done) | (simp only [go_sem]; done) | (simp only [go_sem]; rfl)) : CW P (.cond c a b) Q st := CW_cond hc (fun e => by cases e) (fun _ => h)
theorem cT {c : Opd} {a b : SC} {Q : Ex → St → Prop} {st : St} (h : CW P a Q st) (hc : ev st.F c = some (.bool true) := by first | (simp only [go_sem, hA]; done) | (simp only [go_sem]; done) | (simp only [go_sem]; rfl)) : CW P (.cond c a b) Q st := CW_cond hc (fun _ => h) (fun e => by cases e)
theorem D {A B : Prop} (k : B) (h : B → A := by
  intro kD
  repeat (first
    | ((with_reducible refine isR ?_); first | refine wR ?_ | refine wRe ?_)
    | ((with_reducible refine isRn ?_); first | refine wRn ?_ | refine wRne ?_)
    | ((with_reducible refine isRW ?_); first | refine Rp ?_ | refine Re ?_ | refine Rne ?_)
    | with_reducible refine sq_n ?_ | with_reducible refine CW_assoc ?_ | with_reducible refine CW_skip ?_ | with_reducible refine CW_ret ?_ | with_reducible refine sq_r ?_ | with_reducible refine CW_block ?_
    | with_reducible refine bk_n ?_ | with_reducible refine CW_exit ?_ | with_reducible refine bk_i ?_ | ((with_reducible refine bk_o ?_ ?_); rfl) | with_reducible refine bk_r ?_ | with_reducible refine sq_e ?_ | with_reducible refine lp_e ?_ | with_reducible refine lp_r ?_
    | ((with_reducible refine isD ?_); first | refine wD ?_ | refine wDe ?_)
    | ((with_reducible refine isDn ?_); first | refine wDn ?_ | refine wDne ?_)
    | ((with_reducible refine isDW ?_); first | refine Dp ?_ | refine De ?_ | refine Dne ?_)
    | with_reducible refine CW_seq ?_)
  exact kD) : A := h k
theorem E {A B : Prop} (k : B) (h : B → A := by
  first
  | (intro kD; first | simp only [go_sem, hA] | simp only [go_sem]
     first | exact int_res kD | exact bool_res kD | exact kD)
  | (intro kD; have k2 : True := kD; first | (simp only [go_sem, hA]; done) | (simp only [go_sem]; done))) : A := h k
theorem L {α : Type} {c : SC} {Q : Ex → St → Prop} {st : St} {st2 : α → St} (f : α → List (Nat × V)) (g : α → List (Nat × Mem)) (m : α → Nat) (I : α → Prop) (x0 : α) (ρ : List (Nat × Nat))
    (hr : ∀ x, I x → CW P c (lpQ (fun x => st.set (f x) (g x)) m I (m x) Q) (st2 x)) (h0 : fit ρ st (st.set (f x0) (g x0)) := by first | (simp only [go_sem, hA] <;> and_intros <;> first | with_reducible exact rfl | ((try clear kD); first | omega | with_reducible trivial | exact trivial | (intros; simp_all; done) | grind)) | (simp only [go_sem] <;> and_intros <;> first | with_reducible exact rfl | ((try clear kD); first | omega | with_reducible trivial | exact trivial | (intros; simp_all; done) | grind))) (hi : I x0 := by first | exact Nat.zero_le _ | (simp; done) | omega) (e : ∀ x, st.set (f x) (g x) = st2 x := by intro x; first | (simp only [go_sem, hA]; exact rfl) | (simp only [go_sem]; exact rfl)) : CW P (.loop c) Q st :=
  CW_loopS f g m I x0 ρ h0 hi fun x hx => e x ▸ hr x hx
theorem Ld (dt dm : List Nat) {α : Type} {c : SC} {Q : Ex → St → Prop} {st : St} {st2 : α → St} (f : α → List (Nat × V)) (g : α → List (Nat × Mem)) (m : α → Nat) (I : α → Prop) (x0 : α) (ρ : List (Nat × Nat))
    (hr : ∀ x, I x → CW P c (lpQ (fun x => (St.drop dt dm st).set (f x) (g x)) m I (m x) Q) (st2 x)) (h0 : fit ρ st ((St.drop dt dm st).set (f x0) (g x0)) := by first | (simp only [go_sem, hA] <;> and_intros <;> first | with_reducible exact rfl | ((try clear kD); first | omega | with_reducible trivial | exact trivial | (intros; simp_all; done) | grind)) | (simp only [go_sem] <;> and_intros <;> first | with_reducible exact rfl | ((try clear kD); first | omega | with_reducible trivial | exact trivial | (intros; simp_all; done) | grind))) (hi : I x0 := by first | exact Nat.zero_le _ | (simp; done) | omega) (e : ∀ x, (St.drop dt dm st).set (f x) (g x) = st2 x := by intro x; first | (simp only [go_sem, hA]; exact rfl) | (simp only [go_sem]; exact rfl)) : CW P (.loop c) Q st :=
  CW_loopD dt dm f g m I x0 ρ h0 hi fun x hx => e x ▸ hr x hx
end
theorem N {α : Type} {S : α → St} {m : α → Nat} {I : α → Prop} {n : Nat} {Q : Ex → St → Prop} {st : St} (x : α) (ρ : List (Nat × Nat)) (h : fit ρ st (S x) := by first | (simp only [go_sem, hA] <;> and_intros <;> first | with_reducible exact rfl | ((try clear kD); first | omega | with_reducible trivial | exact trivial | (intros; simp_all; done) | grind)) | (simp only [go_sem] <;> and_intros <;> first | with_reducible exact rfl | ((try clear kD); first | omega | with_reducible trivial | exact trivial | (intros; simp_all; done) | grind))) (hi : I x := by omega) (hm : m x < n := by omega) : lpQ S m I n Q .normal st := lp_next x ρ h hi hm
def OkG (P : Program) (fn : Func) (sc : SC) : Prop := ∃ c, fn.body = some c ∧ compC P fn.ntmps c = some sc.er ∧ drawB c sc = true
def rvG (P : Nat → Option TypeInfo) : List ResultVar → List RV
  | [] => []
  | .tmp t :: l => .t t :: rvG P l
  | .cell a t :: l => .c a (szG P t) (agG (tdG P t)) :: rvG P l
end Go.H
end
