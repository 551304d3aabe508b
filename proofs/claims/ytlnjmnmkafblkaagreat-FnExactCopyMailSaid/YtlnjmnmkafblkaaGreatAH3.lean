/- A part of an engine that carries Go code out on trees of values, proved sound over the model for every program. No condition beyond what each theorem states. -/
import Derived.Test.YtlnjmnmkafblkaaGreatAH2
section
set_option linter.unusedSimpArgs false
set_option linter.unusedVariables false
namespace Go.H
open Go
def sd (d : Option Nat) (h key : Nat) (df : List T) (op : AOp) : SOp := ⟨d, op, none, [], h, key, df, [], [], []⟩
section
variable {P : Program} {E : Env} {nt : Nat} {s : SF} {g : Gh} {a : Act} {w : World}
theorem Sim.back (hs : Sim E nt s g a w) {κ i j key : Nat} {A A' : Arr} {r : List T} {v : Value} (hA : s.M κ = some (.arr A)) (hv : VRep w g (.hm κ A.ver i j key A'.rows.length) v) (hB : s.M key = some (.arr A')) (hne : κ ≠ key) (hr : A.rows[i]? = some r) (hj : j < A.sz) :
    ∃ g', Sim E nt ⟨s.F, fun x => if x = κ then some (.arr ⟨A.sz, A.rows.set i (r.take j ++ [.sl true A'.sz A'.rows] ++ r.drop (j + 1)), A.ver + 1, A.cap⟩) else if x = key then none else s.M x, fun x => x = κ ∨ s.B x⟩ g' a w := by
  obtain ⟨b', cap', cur, e, hab', hfp, hh, hfit, hlc, hmx, hrow, hrl, _⟩ := row_cells (hs.mem κ _ hA) hr
  obtain ⟨base, cap, habk, htopk, hownk, hck⟩ := hs.mem key _ hB
  have htop : g.top κ = A.ver := by obtain ⟨_, _, _, h, _⟩ := hs.mem κ _ hA; exact h
  have hcapc : ∀ c, A.cap = some c → c = cap' := by
    obtain ⟨_, _, hab3, _, _, h⟩ := hs.mem κ _ hA
    rw [hab'] at hab3
    cases hab3
    exact h
  simp only [VRep] at hv
  obtain ⟨⟨base2, cap2, sz2, hab2, hl2, hv2⟩, _, hcell⟩ := hv
  rw [habk] at hab2
  cases hab2
  obtain ⟨b, cap3, sz3, hab3, hfp3, hlt3, hc3⟩ := hcell (by simp only [live]; exact htop.symm)
  rw [hab'] at hab3
  cases hab3
  obtain ⟨hi, _⟩ := List.getElem?_eq_some_iff.1 hr
  have hoff : i * A.sz + j + 1 ≤ A.rows.length * A.sz := by
    have h3 : (i + 1) * A.sz ≤ A.rows.length * A.sz := Nat.mul_le_mul_right _ hi
    rw [Nat.add_mul] at h3
    omega
  have hcv : cur.toList[i * A.sz + j]? = some v := by
    simp only [World.cell?, hh] at hc3
    simpa using hc3
  have hown' : OwL w g.fz [.sl true A'.sz A'.rows] (g.fp key) [v] := by
    simp only [OwL]
    refine ⟨v, [], g.fp key, fun _ => False, rfl, fun b hb => ⟨hb, fun h => h⟩, fun b h => h.elim, ?_, rfl⟩
    rw [hv2]
    exact hownk
  have hrows' := hrow.put (w' := w) (ts := [.sl true A'.sz A'.rows]) hr (by simp; omega : j + [T.sl true A'.sz A'.rows].length ≤ A.sz) (Nat.le_refl _) (fun c hc hf => rfl) (fun c hc _ => rfl) hown' (fun x hx hx2 => hne (hs.disj κ key x (.inr hx2.1) (.inr hx)))
  have hL : (cur.toList.take (A.rows.length * A.sz)).take (i * A.sz + j) ++ [v] ++ (cur.toList.take (A.rows.length * A.sz)).drop (i * A.sz + j + 1) = cur.toList.take (A.rows.length * A.sz) := by
    have h1 : (cur.toList.take (A.rows.length * A.sz))[i * A.sz + j]? = some v := by
      rw [List.getElem?_take, if_pos (by omega)]; exact hcv
    obtain ⟨h2, h3⟩ := List.getElem?_eq_some_iff.1 h1
    rw [List.append_assoc, ← h3, List.singleton_append, List.getElem_cons_drop, List.take_append_drop]
  have hnew : OwT w g.fz (.sl true A.sz (A.rows.set i (r.take j ++ [.sl true A'.sz A'.rows] ++ r.drop (j + 1)))) (fun x => g.fp κ x ∨ g.fp key x) (.slice (some ⟨b', 0, none⟩) (A.rows.set i (r.take j ++ [.sl true A'.sz A'.rows] ++ r.drop (j + 1))).length cap') := by
    simp only [OwT]
    refine ⟨_, cap', by simp, by simpa using hlc, hmx, .inr ⟨b', cur, e, rfl, .inl hfp, hh, hfit, ?_⟩⟩
    rw [List.length_set]
    simp only [List.length_singleton] at hrows'
    rw [hL] at hrows'
    exact hrows'.sub fun x hx => by
      rcases hx with hx | hx
      · exact ⟨.inl hx.1, hx.2⟩
      · exact ⟨.inr hx, fun ee => by subst ee; exact hne (hs.disj κ key x (.inr hfp) (.inr hx))⟩
  obtain ⟨g', h', _⟩ := hs.setArr (w' := w) κ [key] (A := ⟨A.sz, A.rows.set i (r.take j ++ [.sl true A'.sz A'.rows] ++ r.drop (j + 1)), A.ver + 1, A.cap⟩) (S := fun x => g.fp κ x ∨ g.fp key x) (base := some ⟨b', 0, none⟩) (cap := cap')
    rfl rfl rfl (Nat.le_refl _) (.inl ⟨A, hA, hab', rfl⟩) (fun x hx => by simp at hx; subst hx; exact ⟨Ne.symm hne, A', hB⟩) (fun c hc hn1 hn2 => rfl)
    (fun c hc => by
      rcases hc with hc | hc
      · exact ⟨(hs.ownlt κ c (.inr hc)).1, .inl hc⟩
      · exact ⟨(hs.ownlt key c (.inr hc)).1, .inr (.inl ⟨key, by simp, hc⟩)⟩) hnew hcapc
  exact ⟨g', by simpa using h'⟩
theorem Sim.backV (hs : Sim E nt s g a w) {κ i j key : Nat} {A A' : Arr} {r : List T} {v u0 : Value} (hA : s.M κ = some (.arr A)) (hv : VRep w g (.hv key A'.rows.length v) u0) (hB : s.M key = some (.arr A')) (hne : κ ≠ key) (hr : A.rows[i]? = some r) (hjv : r[j]? = some (.val v)) :
    ∃ g', Sim E nt ⟨s.F, fun x => if x = κ then some (.arr ⟨A.sz, A.rows.set i (r.take j ++ [.sl true A'.sz A'.rows] ++ r.drop (j + 1)), A.ver + 1, A.cap⟩) else if x = key then none else s.M x, fun x => x = κ ∨ s.B x⟩ g' a w := by
  obtain ⟨b', cap', cur, e, hab', hfp, hh, hfit, hlc, hmx, hrow, hrl, _⟩ := row_cells (hs.mem κ _ hA) hr
  obtain ⟨base, cap, habk, htopk, hownk, hck⟩ := hs.mem key _ hB
  have htop : g.top κ = A.ver := by obtain ⟨_, _, _, h, _⟩ := hs.mem κ _ hA; exact h
  have hcapc : ∀ c, A.cap = some c → c = cap' := by
    obtain ⟨_, _, hab3, _, _, h⟩ := hs.mem κ _ hA
    rw [hab'] at hab3
    cases hab3
    exact h
  simp only [VRep] at hv
  obtain ⟨rfl, base2, cap2, sz2, hab2, hl2, hv2⟩ := hv
  rw [habk] at hab2
  cases hab2
  have hj : j < A.sz := by
    obtain ⟨h, _⟩ := List.getElem?_eq_some_iff.1 hjv
    omega
  obtain ⟨hi, _⟩ := List.getElem?_eq_some_iff.1 hr
  have hoff : i * A.sz + j + 1 ≤ A.rows.length * A.sz := by
    have h3 : (i + 1) * A.sz ≤ A.rows.length * A.sz := Nat.mul_le_mul_right _ hi
    rw [Nat.add_mul] at h3
    omega
  have hcv : cur.toList[i * A.sz + j]? = some u0 := by
    obtain ⟨_, _, u, _, _, hcell, hown, _⟩ := hrow.pick hr hjv
    simp only [OwT] at hown
    subst hown
    rw [List.getElem?_take] at hcell
    split at hcell
    · exact hcell
    · cases hcell
  have hown' : OwL w g.fz [.sl true A'.sz A'.rows] (g.fp key) [u0] := by
    simp only [OwL]
    refine ⟨u0, [], g.fp key, fun _ => False, rfl, fun b hb => ⟨hb, fun h => h⟩, fun b h => h.elim, ?_, rfl⟩
    rw [hv2]
    exact hownk
  have hrows' := hrow.put (w' := w) (ts := [.sl true A'.sz A'.rows]) hr (by simp; omega : j + [T.sl true A'.sz A'.rows].length ≤ A.sz) (Nat.le_refl _) (fun c hc hf => rfl) (fun c hc _ => rfl) hown' (fun x hx hx2 => hne (hs.disj κ key x (.inr hx2.1) (.inr hx)))
  have hL : (cur.toList.take (A.rows.length * A.sz)).take (i * A.sz + j) ++ [u0] ++ (cur.toList.take (A.rows.length * A.sz)).drop (i * A.sz + j + 1) = cur.toList.take (A.rows.length * A.sz) := by
    have h1 : (cur.toList.take (A.rows.length * A.sz))[i * A.sz + j]? = some u0 := by
      rw [List.getElem?_take, if_pos (by omega)]; exact hcv
    obtain ⟨h2, h3⟩ := List.getElem?_eq_some_iff.1 h1
    rw [List.append_assoc, ← h3, List.singleton_append, List.getElem_cons_drop, List.take_append_drop]
  have hnew : OwT w g.fz (.sl true A.sz (A.rows.set i (r.take j ++ [.sl true A'.sz A'.rows] ++ r.drop (j + 1)))) (fun x => g.fp κ x ∨ g.fp key x) (.slice (some ⟨b', 0, none⟩) (A.rows.set i (r.take j ++ [.sl true A'.sz A'.rows] ++ r.drop (j + 1))).length cap') := by
    simp only [OwT]
    refine ⟨_, cap', by simp, by simpa using hlc, hmx, .inr ⟨b', cur, e, rfl, .inl hfp, hh, hfit, ?_⟩⟩
    rw [List.length_set]
    simp only [List.length_singleton] at hrows'
    rw [hL] at hrows'
    exact hrows'.sub fun x hx => by
      rcases hx with hx | hx
      · exact ⟨.inl hx.1, hx.2⟩
      · exact ⟨.inr hx, fun ee => by subst ee; exact hne (hs.disj κ key x (.inr hfp) (.inr hx))⟩
  obtain ⟨g', h', _⟩ := hs.setArr (w' := w) κ [key] (A := ⟨A.sz, A.rows.set i (r.take j ++ [.sl true A'.sz A'.rows] ++ r.drop (j + 1)), A.ver + 1, A.cap⟩) (S := fun x => g.fp κ x ∨ g.fp key x) (base := some ⟨b', 0, none⟩) (cap := cap')
    rfl rfl rfl (Nat.le_refl _) (.inl ⟨A, hA, hab', rfl⟩) (fun x hx => by simp at hx; subst hx; exact ⟨Ne.symm hne, A', hB⟩) (fun c hc hn1 hn2 => rfl)
    (fun c hc => by
      rcases hc with hc | hc
      · exact ⟨(hs.ownlt κ c (.inr hc)).1, .inl hc⟩
      · exact ⟨(hs.ownlt key c (.inr hc)).1, .inr (.inl ⟨key, by simp, hc⟩)⟩) hnew hcapc
  exact ⟨g', by simpa using h'⟩
def dstN : Option Tmp → Nat → Bool
  | some d, t => !Nat.beq d t
  | none, _ => true
theorem dstN_ok {d : Option Tmp} {t : Nat} (h : dstN d t = true) : d ≠ some t := by
  intro e
  subst e
  simp [dstN] at h
theorem EffS.back {o : Oper} {F : Nat → Option V} {M : Nat → Option Mem} {e : Eff} (he : EffS P E nt o F M e) {t κ i j key : Nat} {A A' : Arr} {df : List T} (hF : F t = some (.hm κ A.ver i j key A'.rows.length)) (hM : M κ = some (.arr A)) (hw : look κ e.wm = none) (hk : look key e.wm = some (some (.arr A'))) (hne : κ ≠ key) (hi : i < A.rows.length) (hj : j < A.sz) (hd : o.dst ≠ some t) :
    EffS P E nt o F M ⟨e.val, (κ, some (.arr ⟨A.sz, A.rows.set i ((A.rows.getD i df).take j ++ [.sl true A'.sz A'.rows] ++ (A.rows.getD i df).drop (j + 1)), A.ver + 1, A.cap⟩)) :: (key, none) :: e.wm, e.nk⟩ := by
  intro s hsub hnk g a w hs K Q hK
  refine he s hsub hnk g a w hs K Q fun g' a' w' h' => ?_
  have hMκ : (s.app o.dst e).M κ = some (.arr A) := by
    simp only [SF.app, hw]; exact hsub.2 _ _ hM
  have hMk : (s.app o.dst e).M key = some (.arr A') := by
    simp only [SF.app, hk]
  have hFt : (s.app o.dst e).F t = some (.hm κ A.ver i j key A'.rows.length) := by
    cases hdd : o.dst with
    | none => simp only [SF.app]; exact hsub.1 _ _ hF
    | some d =>
      have : t ≠ d := fun ee => hd (by rw [hdd, ee])
      simp only [SF.app, SF.put, if_neg this]; exact hsub.1 _ _ hF
  obtain ⟨g2, h2⟩ := h'.back hMκ (h'.frame t _ hFt) hMk hne (getD_some (df := df) hi) hj
  refine hK g2 a' w' ?_
  refine { h2.memEq (M' := (s.app o.dst ⟨e.val, (κ, some (.arr ⟨A.sz, A.rows.set i ((A.rows.getD i df).take j ++ [.sl true A'.sz A'.rows] ++ (A.rows.getD i df).drop (j + 1)), A.ver + 1, A.cap⟩)) :: (key, none) :: e.wm, e.nk⟩).M) (B' := (s.app o.dst e).B) (funext fun y => ?_) (fun y => ?_) with }
  · simp only [SF.app, look]
    by_cases e1 : y = κ
    · subst e1; simp
    · by_cases e2 : y = key
      · subst e2; simp [e1]
      · simp [e1, e2]
  · constructor
    · rintro (rfl | h)
      · exact (h'.arrK hMκ).2
      · exact h
    · exact .inr
theorem EffS.backV {o : Oper} {F : Nat → Option V} {M : Nat → Option Mem} {e : Eff} (he : EffS P E nt o F M e) {t q κ i j key len : Nat} {A A' : Arr} {df : List T} {cells : List V} {v : Value} (hF : F t = some (.agg cells)) (hq : cells[q]? = some (.hv key len v)) (hl : A'.rows.length = len) (hM : M key = some (.arr A')) (hkn : look key e.wm = none) (hk : look κ e.wm = some (some (.arr A))) (hne : κ ≠ key) (hi : i < A.rows.length) (hj : (A.rows.getD i df)[j]? = some (.val v)) (hd : o.dst ≠ some t) :
    EffS P E nt o F M ⟨e.val, (κ, some (.arr ⟨A.sz, A.rows.set i ((A.rows.getD i df).take j ++ [.sl true A'.sz A'.rows] ++ (A.rows.getD i df).drop (j + 1)), A.ver + 1, A.cap⟩)) :: (key, none) :: e.wm, e.nk⟩ := by
  intro s hsub hnk g a w hs K Q hK
  refine he s hsub hnk g a w hs K Q fun g' a' w' h' => ?_
  have hMκ : (s.app o.dst e).M κ = some (.arr A) := by
    simp only [SF.app, hk]
  have hMk : (s.app o.dst e).M key = some (.arr A') := by
    simp only [SF.app, hkn]; exact hsub.2 _ _ hM
  have hFt : (s.app o.dst e).F t = some (.agg cells) := by
    cases hdd : o.dst with
    | none => simp only [SF.app]; exact hsub.1 _ _ hF
    | some d =>
      have : t ≠ d := fun ee => hd (by rw [hdd, ee])
      simp only [SF.app, SF.put, if_neg this]; exact hsub.1 _ _ hF
  have hv0 := h'.frame t _ hFt
  simp only [VRep] at hv0
  obtain ⟨cs, _, hcs⟩ := hv0
  obtain ⟨u0, _, hu0⟩ := hcs.get hq
  subst hl
  obtain ⟨g2, h2⟩ := h'.backV hMκ hu0 hMk hne (getD_some (df := df) hi) hj
  refine hK g2 a' w' ?_
  refine { h2.memEq (M' := (s.app o.dst ⟨e.val, (κ, some (.arr ⟨A.sz, A.rows.set i ((A.rows.getD i df).take j ++ [.sl true A'.sz A'.rows] ++ (A.rows.getD i df).drop (j + 1)), A.ver + 1, A.cap⟩)) :: (key, none) :: e.wm, e.nk⟩).M) (B' := (s.app o.dst e).B) (funext fun y => ?_) (fun y => ?_) with }
  · simp only [SF.app, look]
    by_cases e1 : y = κ
    · subst e1; simp
    · by_cases e2 : y = key
      · subst e2; simp [e1]
      · simp [e1, e2]
  · constructor
    · rintro (rfl | h)
      · exact (h'.arrK hMκ).2
      · exact h
    · exact .inr
def backVE (F : Nat → Option V) (M : Nat → Option Mem) (t q κ i j : Nat) (df : List T) (e : Eff) (K : Eff → Prop) : Prop :=
  match F t with
  | some (.agg cells) => match cells[q]? with
    | some (.hv key len v) => match look κ e.wm, M key, look key e.wm with
      | some (some (.arr A)), some (.arr A'), none => A'.rows.length = len ∧ κ ≠ key ∧ i < A.rows.length ∧ (A.rows.getD i df)[j]? = some (.val v) ∧ K ⟨e.val, (κ, some (.arr ⟨A.sz, A.rows.set i ((A.rows.getD i df).take j ++ [.sl true A'.sz A'.rows] ++ (A.rows.getD i df).drop (j + 1)), A.ver + 1, A.cap⟩)) :: (key, none) :: e.wm, e.nk⟩
      | _, _, _ => False
    | _ => False
  | _ => False
def backE (F : Nat → Option V) (M : Nat → Option Mem) (t : Nat) (df : List T) (e : Eff) (K : Eff → Prop) : Prop :=
  match F t with
  | some (.hm κ n i j key len) => match M κ, look key e.wm, look κ e.wm with
    | some (.arr A), some (some (.arr A')), none => A.ver = n ∧ A'.rows.length = len ∧ κ ≠ key ∧ i < A.rows.length ∧ j < A.sz ∧ K ⟨e.val, (κ, some (.arr ⟨A.sz, A.rows.set i ((A.rows.getD i df).take j ++ [.sl true A'.sz A'.rows] ++ (A.rows.getD i df).drop (j + 1)), A.ver + 1, A.cap⟩)) :: (key, none) :: e.wm, e.nk⟩
    | _, _, _ => False
  | _ => False
end
section
variable {P : Program} [Inv P]
theorem RW_callB (t : Nat) (df : List T) {s : SOp} {l : List SOp} {st : St} {K : St → Prop} {fo : Opd} {args : List (Opd × Option Nat)} {f : FuncId} {as : List Arg} {L : List Ob} {rs : List TV} {L' : List Ob} {e e2 : Eff} (hcb : callB P f = true) (hsem : SemX P f as L rs L') (md : Bool) (hk ksA ksO : List Nat) (hop : s.op = .call fo args) (hgd : s.gd = none)
    (h : callP st.F st.M s.key fo args f as L rs L' md hk ksA ksO (fun x => x = e)) (hd : dstN s.dst t = true) (hb : backE st.F st.M t df e (fun x => x = e2)) (hf : freshN st.bn e2.nk = true) (hK : RW P l (st.app s.dst e2) K) : RW P (s :: l) st K := by
  simp only [RW, hgd, stepE, hop]
  unfold backE at hb
  split at hb
  · rename_i κ n i j key len hF
    split at hb
    · rename_i A A' hM hke hkn
      obtain ⟨rfl, rfl, b3, b4, b5, rfl⟩ := hb
      have h0 : callE P st.F st.M s.dst s.key fo args (fun x => x = e) .mk := by
        refine callE_of hcb hsem md hk ksA ksO ?_
        exact h
      obtain ⟨e', rfl, he⟩ := h0
      refine ⟨_, ⟨hf, hK⟩, fun E nt o h1 h2 h3 h4 => (he E nt o h1 h2 h3 h4).back hF hM hkn hke b3 b4 b5 ?_⟩
      rw [h3]
      exact dstN_ok hd
    · exact hb.elim
  · exact hb.elim
theorem RW_callV (t q κ i j : Nat) (df : List T) {s : SOp} {l : List SOp} {st : St} {K : St → Prop} {fo : Opd} {args : List (Opd × Option Nat)} {f : FuncId} {as : List Arg} {L : List Ob} {rs : List TV} {L' : List Ob} {e e2 : Eff} (hcb : callB P f = true) (hsem : SemX P f as L rs L') (md : Bool) (hk ksA ksO : List Nat) (hop : s.op = .call fo args) (hgd : s.gd = none)
    (h : callP st.F st.M s.key fo args f as L rs L' md hk ksA ksO (fun x => x = e)) (hd : dstN s.dst t = true) (hb : backVE st.F st.M t q κ i j df e (fun x => x = e2)) (hf : freshN st.bn e2.nk = true) (hK : RW P l (st.app s.dst e2) K) : RW P (s :: l) st K := by
  simp only [RW, hgd, stepE, hop]
  unfold backVE at hb
  split at hb
  · rename_i cells hF
    split at hb
    · rename_i key len v hq
      split at hb
      · rename_i A A' hke hM hkn
        obtain ⟨b1, b2, b3, b4, rfl⟩ := hb
        have h0 : callE P st.F st.M s.dst s.key fo args (fun x => x = e) .mk := by
          refine callE_of hcb hsem md hk ksA ksO ?_
          exact h
        obtain ⟨e', rfl, he⟩ := h0
        refine ⟨_, ⟨hf, hK⟩, fun E nt o h1 h2 h3 h4 => (he E nt o h1 h2 h3 h4).backV hF hq b1 hM hkn hke b2 b3 b4 ?_⟩
        rw [h3]
        exact dstN_ok hd
      · exact hb.elim
    · exact hb.elim
  · exact hb.elim
theorem RW_takeV {s : SOp} {l : List SOp} {st : St} {K : St → Prop} {x : Opd} {n : Nat} {agg : Bool} (E0 : Value → Eff) (hop : s.op = .load x n agg) (hh : s.h = 5) (hgd : s.gd = none) (h : takeVE st.F st.M s.key s.df s.ug x n agg (fun e => ∃ v, e = E0 v)) (hf : ∀ v, freshN st.bn (E0 v).nk = true) (hK : ∀ v, RW P l (st.app s.dst (E0 v)) K) : RW P (s :: l) st K := by
  simp only [RW, hgd, hop, hh]
  refine takeVE_mono (fun e he => ?_) h
  obtain ⟨v, rfl⟩ := he
  exact ⟨hf v, hK v⟩
theorem RW_isn {s : SOp} {l : List SOp} {st : St} {K : St → Prop} {ng : Bool} {x : Opd} (Q : Bool → Prop) (hop : s.op = .isn ng x) (hgd : s.gd = none) (h : isnW st.F st.M ng x Q) (hK : ∀ b, Q b → RW P l (st.app s.dst ⟨.bool b, [], []⟩) K) : RW P (s :: l) st K := by
  simp only [RW, hgd, hop]
  exact isnW_mono hK h
theorem RW_ls {l l' : List SOp} {st : St} {K : St → Prop} (e : l = l') (h : RW P l' st K) : RW P l st K := e ▸ h
theorem DW_ls {l l' : List SOp} {st : St} {K : St → Prop} (e : l = l') (h : DW P l' st K) : DW P l st K := e ▸ h
theorem RW_nil {st : St} {K : St → Prop} (h : K st) : RW P [] st K := h
theorem RW_callG {s : SOp} {l : List SOp} {st : St} {K : St → Prop} {fo : Opd} {args : List (Opd × Option Nat)} {f : FuncId} {as : List Arg} {rs : List TV} {v : V} {gd : Tmp × Bool} {c : Bool} (hcb : callB P f = true) (hsem : SemX P f as [] rs []) (md : Bool) (hop : s.op = .call fo args) (hgd : s.gd = some gd) (hw : wantS st.F (some gd) = some c)
    (h : c = true → gus st.F c s.ug ∧ callP (unF s.ug st.F) st.M s.key fo args f as [] rs [] md [] [] [] (fun x => x = ⟨v, [], []⟩)) (hK : RW P l (st.app s.dst ⟨.opt c v, [], []⟩) K) : RW P (s :: l) st K := by
  simp only [RW, hgd, hw, guardE, hop]
  exact ⟨v, fun hc => ⟨(h hc).1, callE_of hcb hsem md [] [] [] (h hc).2⟩, hK⟩
theorem DW_callG {s : SOp} {l : List SOp} {st : St} {K : St → Prop} {fo : Opd} {args : List (Opd × Option Nat)} {f : FuncId} {as : List Arg} {rs : List TV} {v : V} {gd : Tmp × Bool} {c : Bool} (hcb : callB P f = true) (hsem : SemX P f as [] rs []) (md : Bool) (hop : s.op = .call fo args) (hgd : s.gd = some gd) (hw : wantS (onlyN s.lk st.F) (some gd) = some c)
    (h : c = true → gus (onlyN s.lk st.F) c s.ug ∧ callP (unF s.ug (onlyN s.lk st.F)) (onlyN s.rk st.M) s.key fo args f as [] rs [] md [] [] [] (fun x => x = ⟨v, [], []⟩)) (hK : DW P l (st.app s.dst ⟨.opt c v, [], []⟩) K) : DW P (s :: l) st K := by
  simp only [DW, hgd, hw, guardE, hop]
  exact ⟨v, fun hc => ⟨(h hc).1, callE_of hcb hsem md [] [] [] (h hc).2⟩, hK⟩
end
section
variable {P : Program} [Inv P]
theorem RW_callN {s : SOp} {l : List SOp} {st st2 : St} {K : St → Prop} {fo : Opd} {args : List (Opd × Option Nat)} {f : FuncId} {as : List Arg} {L : List Ob} {rs : List TV} {L' : List Ob} {e : Eff} (hcb : callB P f = true) (hsem : SemX P f as L rs L') (md : Bool) (hk ksA ksO : List Nat) (hop : s.op = .call fo args) (hgd : s.gd = none)
    (h : callP st.F st.M s.key fo args f as L rs L' md hk ksA ksO (fun x => x = e)) (hf : freshN st.bn e.nk = true) (hst : st.app s.dst e = st2) (hK : RW P l st2 K) : RW P (s :: l) st K := RW_call hcb hsem md hk ksA ksO hop hgd h hf (hst ▸ hK)
theorem DW_callN {s : SOp} {l : List SOp} {st st2 : St} {K : St → Prop} {fo : Opd} {args : List (Opd × Option Nat)} {f : FuncId} {as : List Arg} {L : List Ob} {rs : List TV} {L' : List Ob} {e : Eff} (hcb : callB P f = true) (hsem : SemX P f as L rs L') (md : Bool) (hk ksA ksO : List Nat) (hop : s.op = .call fo args) (hgd : s.gd = none)
    (h : callP (onlyN s.lk st.F) (onlyN s.rk st.M) s.key fo args f as L rs L' md hk ksA ksO (fun x => x = e)) (hf : (freshN st.bn e.nk && (subN (e.wm.map (·.1)) s.wk && subN e.nk s.wk)) = true) (hst : st.app s.dst e = st2) (hK : DW P l st2 K) : DW P (s :: l) st K := DW_call hcb hsem md hk ksA ksO hop hgd h hf (hst ▸ hK)
theorem RW_callBN (t : Nat) (df : List T) {s : SOp} {l : List SOp} {st st2 : St} {K : St → Prop} {fo : Opd} {args : List (Opd × Option Nat)} {f : FuncId} {as : List Arg} {L : List Ob} {rs : List TV} {L' : List Ob} {e e2 : Eff} (hcb : callB P f = true) (hsem : SemX P f as L rs L') (md : Bool) (hk ksA ksO : List Nat) (hop : s.op = .call fo args) (hgd : s.gd = none)
    (h : callP st.F st.M s.key fo args f as L rs L' md hk ksA ksO (fun x => x = e)) (hd : dstN s.dst t = true) (hb : backE st.F st.M t df e (fun x => x = e2)) (hf : freshN st.bn e2.nk = true) (hst : st.app s.dst e2 = st2) (hK : RW P l st2 K) : RW P (s :: l) st K := RW_callB t df hcb hsem md hk ksA ksO hop hgd h hd hb hf (hst ▸ hK)
theorem RW_callVN (t q κ i j : Nat) (df : List T) {s : SOp} {l : List SOp} {st st2 : St} {K : St → Prop} {fo : Opd} {args : List (Opd × Option Nat)} {f : FuncId} {as : List Arg} {L : List Ob} {rs : List TV} {L' : List Ob} {e e2 : Eff} (hcb : callB P f = true) (hsem : SemX P f as L rs L') (md : Bool) (hk ksA ksO : List Nat) (hop : s.op = .call fo args) (hgd : s.gd = none)
    (h : callP st.F st.M s.key fo args f as L rs L' md hk ksA ksO (fun x => x = e)) (hd : dstN s.dst t = true) (hb : backVE st.F st.M t q κ i j df e (fun x => x = e2)) (hf : freshN st.bn e2.nk = true) (hst : st.app s.dst e2 = st2) (hK : RW P l st2 K) : RW P (s :: l) st K := RW_callV t q κ i j df hcb hsem md hk ksA ksO hop hgd h hd hb hf (hst ▸ hK)
theorem RW_takeVN {s : SOp} {l : List SOp} {st : St} {K : St → Prop} {x : Opd} {n : Nat} {agg : Bool} (E0 : Value → Eff) (S0 : Value → St) (hop : s.op = .load x n agg) (hh : s.h = 5) (hgd : s.gd = none) (h : takeVE st.F st.M s.key s.df s.ug x n agg (fun e => ∃ v, e = E0 v)) (hf : ∀ v, freshN st.bn (E0 v).nk = true) (hst : ∀ v, st.app s.dst (E0 v) = S0 v) (hK : ∀ v, RW P l (S0 v) K) : RW P (s :: l) st K := RW_takeV E0 hop hh hgd h hf fun v => hst v ▸ hK v
theorem RW_callGN {s : SOp} {l : List SOp} {st st2 : St} {K : St → Prop} {fo : Opd} {args : List (Opd × Option Nat)} {f : FuncId} {as : List Arg} {rs : List TV} {v : V} {gd : Tmp × Bool} {c : Bool} (hcb : callB P f = true) (hsem : SemX P f as [] rs []) (md : Bool) (hop : s.op = .call fo args) (hgd : s.gd = some gd) (hw : wantS st.F (some gd) = some c)
    (h : c = true → gus st.F c s.ug ∧ callP (unF s.ug st.F) st.M s.key fo args f as [] rs [] md [] [] [] (fun x => x = ⟨v, [], []⟩)) (hst : st.app s.dst ⟨.opt c v, [], []⟩ = st2) (hK : RW P l st2 K) : RW P (s :: l) st K := RW_callG hcb hsem md hop hgd hw h (hst ▸ hK)
theorem DW_callGN {s : SOp} {l : List SOp} {st st2 : St} {K : St → Prop} {fo : Opd} {args : List (Opd × Option Nat)} {f : FuncId} {as : List Arg} {rs : List TV} {v : V} {gd : Tmp × Bool} {c : Bool} (hcb : callB P f = true) (hsem : SemX P f as [] rs []) (md : Bool) (hop : s.op = .call fo args) (hgd : s.gd = some gd) (hw : wantS (onlyN s.lk st.F) (some gd) = some c)
    (h : c = true → gus (onlyN s.lk st.F) c s.ug ∧ callP (unF s.ug (onlyN s.lk st.F)) (onlyN s.rk st.M) s.key fo args f as [] rs [] md [] [] [] (fun x => x = ⟨v, [], []⟩)) (hst : st.app s.dst ⟨.opt c v, [], []⟩ = st2) (hK : DW P l st2 K) : DW P (s :: l) st K := DW_callG hcb hsem md hop hgd hw h (hst ▸ hK)
end
theorem tm_nil : tm [] = [] := rfl
theorem tm_cons (t : T) (l : List T) : tm (t :: l) = t :: l := rfl
attribute [go_sem] tm_nil tm_cons sd backE backVE takeVE flatBut dstN takeHE
end Go.H
end
