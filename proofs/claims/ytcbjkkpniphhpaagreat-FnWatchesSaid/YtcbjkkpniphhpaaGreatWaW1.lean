/- What the functions that the law reaches compute, each by its code, against pure functions. Conditions: those that each theorem states. -/
import Derived.Test.YtcbjkkpniphhpaaGreatQC2
import Derived.ChangeArms
import Derived.DataReads
import Derived.KernelRfl
section
set_option linter.unusedSimpArgs false
set_option linter.unusedVariables false
namespace Go.H
open Go
theorem add_add0 {a : Addr} (hs : a.spot = none) (i j : Nat) : (a.add i).add j = ⟨a.block, a.off + (i + j), none⟩ := by
  obtain ⟨ab, ao, as1⟩ := a
  simp only at hs
  subst hs
  simp only [Addr.add]
  by_cases h1 : i = 0
  · subst h1
    by_cases h2 : j = 0 <;> simp [h2]
  · by_cases h2 : j = 0 <;> simp [h1, h2, Nat.add_assoc]
def okW (w : World) (b : Nat) : Prop := b < w.heap.size
theorem RoL_app {w : World} {ok : Nat → Prop} : ∀ {ts us : List T} {a b : List Value}, RoL w ok ts a → RoL w ok us b → RoL w ok (ts ++ us) (a ++ b)
  | [], us, a, b, h1, h2 => by simp only [RoL] at h1; subst h1; exact h2
  | t :: ts, us, a, b, h1, h2 => by
    simp only [RoL, List.cons_append] at h1 ⊢
    obtain ⟨u, vs, rfl, h3, h4⟩ := h1
    exact ⟨u, vs ++ b, rfl, h3, RoL_app h4 h2⟩
theorem RoL_cat {w : World} {ok : Nat → Prop} {ts us : List T} {cs : List Value} {o n : Nat} (h1 : RoL w ok ts ((cs.drop o).take n)) (h2 : RoL w ok us (cs.drop (o + n))) : RoL w ok (ts ++ us) (cs.drop o) := by
  have := RoL_app h1 h2
  rwa [← List.drop_drop, List.take_append_drop] at this
theorem RoL_end {w : World} {ok : Nat → Prop} {ts : List T} {cs : List Value} {o n : Nat} (h1 : RoL w ok ts ((cs.drop o).take n)) (hl : cs.length = o + n) : RoL w ok ts (cs.drop o) := by
  rwa [List.take_of_length_le (by simp; omega)] at h1
theorem RoRows_snoc {w : World} {ok : Nat → Prop} {sz : Nat} : ∀ {rs : List (List T)} {vs : List Value} {r : List T} {cs : List Value}, RoRows w ok sz rs vs → r.length = sz → RoL w ok r cs → RoRows w ok sz (rs ++ [r]) (vs ++ cs)
  | [], vs, r, cs, h, hl, hr => by
    simp only [RoRows] at h
    subst h
    simp only [List.nil_append, RoRows]
    exact ⟨cs, [], by simp, hl, hr, rfl⟩
  | x :: rs, vs, r, cs, h, hl, hr => by
    simp only [RoRows, List.cons_append] at h ⊢
    obtain ⟨a, b, rfl, h1, h2, h3⟩ := h
    exact ⟨a, b ++ cs, by simp, h1, h2, RoRows_snoc h3 hl hr⟩
section
variable {H : Type} {enc : TypeId × Value → H} {P : Program} {w : World} {base : Nat} {spare : Nat → Bool} {held : Bool}
theorem sl_of {α : Type} (f : α → List T) (q : α → Prop) (sz : Nat) {t e : TypeId} (ht : P.underlying t = some (.slice e)) (hsz : P.cellsOf e = sz) (hf : ∀ x, (f x).length = sz) (hpos : sz ≠ 0)
    (hel : ∀ n cs d, DataW.trod enc P w base spare held n e cs = some d → ∃ x, RoL w (okW w) (f x) cs ∧ q x) {fuel : Nat} {cs : List Value} {x : DataW H × List MemPlace} (h : DataW.trod enc P w base spare held fuel t cs = some x) :
    ∃ xs : List α, RoL w (okW w) [.sl false sz (xs.map f)] cs ∧ xs.length ≤ 9223372036854775807 ∧ ∀ y ∈ xs, q y := by
  rcases DataW.trod_slice ht h with ⟨rfl, _⟩ | ⟨a, len, cap, elems, rest, n, _, rfl, _, hb, hl, hm, hlen, he, _, _⟩
  · refine ⟨[], ?_, by simp, by simp⟩
    simp only [RoL, RoT, List.map_nil, List.length_nil]
    exact ⟨_, [], rfl, ⟨none, 0, [], rfl, Nat.le_refl _, Nat.zero_le _, by simp only [RoRows], fun h => absurd rfl h⟩, rfl⟩
  · rw [hsz] at he
    have one : ∀ i, i < len → ∃ csi x, w.cells? base (a.add (i * sz)) sz = some csi ∧ RoL w (okW w) (f x) csi ∧ q x := by
      intro i hi
      have h1 := he i hi
      rw [List.getElem?_eq_getElem (by omega)] at h1
      obtain ⟨csi, h2, h3⟩ := Option.bind_eq_some_iff.1 h1
      obtain ⟨x, h4, h5⟩ := hel n csi _ h3
      exact ⟨csi, x, h2, h4, h5⟩
    have spot : 0 < len → a.spot = none ∧ a.block < w.heap.size := by
      intro h0
      obtain ⟨csi, x, h1, h2, _⟩ := one 0 h0
      obtain ⟨_, h3, h4⟩ := World.cells?_some h1
      have h5 := h4 0 (by omega)
      rw [List.getElem?_eq_getElem (by omega)] at h5
      simp only [Nat.zero_mul, Addr.add, if_true] at h5
      unfold World.cell? at h5
      split at h5
      · rename_i hh
        split at h5
        · cases h5
        · rename_i hs
          refine ⟨by simpa using hs, ?_⟩
          exact (Array.getElem?_eq_some_iff.1 hh).1
      · cases h5
    have all : ∀ k, k ≤ len → ∃ xs : List α, xs.length = k ∧ (∀ y ∈ xs, q y) ∧ ∃ vs : List Value, RoRows w (okW w) sz (xs.map f) vs ∧ ∀ j u, vs[j]? = some u → w.cell? ⟨a.block, a.off + j, none⟩ = some u := by
      intro k
      induction k with
      | zero => exact fun _ => ⟨[], rfl, by simp, [], by simp only [List.map_nil, RoRows], by simp⟩
      | succ k ih =>
        intro hk
        obtain ⟨xs, h1, h2, vs, h3, h4⟩ := ih (by omega)
        obtain ⟨csi, x, h5, h6, h7⟩ := one k (by omega)
        obtain ⟨_, h8, h9⟩ := World.cells?_some h5
        have hvl := h3.length
        rw [List.length_map, h1] at hvl
        refine ⟨xs ++ [x], by simp [h1], fun y hy => ?_, vs ++ csi, by rw [List.map_append]; exact RoRows_snoc h3 (hf x) h6, fun j u hj => ?_⟩
        · rcases List.mem_append.1 hy with hy | hy
          · exact h2 y hy
          · simp only [List.mem_singleton] at hy
            subst hy
            exact h7
        · by_cases hjv : j < vs.length
          · rw [List.getElem?_append_left hjv] at hj
            exact h4 j u hj
          · rw [List.getElem?_append_right (by omega)] at hj
            obtain ⟨hj2, _⟩ := List.getElem?_eq_some_iff.1 hj
            have h10 := h9 (j - vs.length) (by omega)
            rw [hj] at h10
            have hsp := (spot (by omega)).1
            have hjj : k * sz + (j - vs.length) = j := by rw [← hvl]; exact Nat.add_sub_cancel' (Nat.le_of_not_lt hjv)
            have e : (a.add (k * sz)).add (j - vs.length) = ⟨a.block, a.off + j, none⟩ := by rw [add_add0 hsp, hjj]
            rw [e] at h10
            exact h10
    obtain ⟨xs, h1, h2, vs, h3, h4⟩ := all len (Nat.le_refl _)
    refine ⟨xs, ?_, by rw [h1]; have : cap ≤ 9223372036854775807 := hm; omega, h2⟩
    simp only [RoL]
    refine ⟨_, [], rfl, ?_, rfl⟩
    simp only [RoT, List.length_map]
    refine ⟨some a, cap, vs, by rw [h1], by omega, hm, h3, fun hne => ?_⟩
    have h0 : 0 < len := by
      rcases Nat.eq_zero_or_pos len with e | e
      · rw [e] at h1
        have : xs = [] := List.length_eq_zero_iff.1 h1
        subst this
        exact absurd rfl hne
      · exact e
    obtain ⟨s1, s2⟩ := spot h0
    refine ⟨a.block, a.off, ?_, s2, s2, h4⟩
    obtain ⟨ab, ao, as1⟩ := a
    simp only at s1
    subst s1
    rfl
theorem int_of {t : TypeId} (ht : P.underlying t = some (.int .i64)) {fuel : Nat} {cs : List Value} {x : DataW H × List MemPlace} (h : DataW.trod enc P w base spare held fuel t cs = some x) : ∃ n : Int, RoL w (okW w) [.int .i64 n] cs := by
  obtain ⟨n, rfl, _⟩ := DataW.trod_int ht h
  exact ⟨n, by simp only [RoL, RoT]; exact ⟨_, [], rfl, rfl, rfl⟩⟩
theorem byte_of {t : TypeId} (ht : P.underlying t = some (.int .u8)) {fuel : Nat} {cs : List Value} {x : DataW H × List MemPlace} (h : DataW.trod enc P w base spare held fuel t cs = some x) : ∃ n : Int, RoL w (okW w) [.int .u8 n] cs ∧ (0 ≤ n ∧ n ≤ 255) := by
  obtain ⟨n, rfl, _, hw⟩ := DataW.trod_int ht h
  refine ⟨n, by simp only [RoL, RoT]; exact ⟨_, [], rfl, rfl, rfl⟩, ?_⟩
  simp only [Lit.wf, Bool.and_eq_true, decide_eq_true_eq] at hw
  exact hw
theorem bool_of {t : TypeId} (ht : P.underlying t = some .bool) {fuel : Nat} {cs : List Value} {x : DataW H × List MemPlace} (h : DataW.trod enc P w base spare held fuel t cs = some x) : ∃ n : Bool, RoL w (okW w) [.bool n] cs := by
  obtain ⟨n, rfl, _⟩ := DataW.trod_bool ht h
  exact ⟨n, by simp only [RoL, RoT]; exact ⟨_, [], rfl, rfl, rfl⟩⟩
theorem fld_of {fs : Array Field} {n : Nat} {cs : List Value} {xs : List (DataW H × List MemPlace)} (hf : ∀ (i : Nat) (f : Field), fs[i]? = some f → DataW.trod enc P w base spare held n f.type ((cs.drop f.offset).take (P.cellsOf f.type)) = xs[i]?) (hl : xs.length = fs.size) (i : Nat) {f : Field} (hi : fs[i]? = some f) :
    ∃ d, DataW.trod enc P w base spare held n f.type ((cs.drop f.offset).take (P.cellsOf f.type)) = some d := by
  have h1 := hf i f hi
  obtain ⟨h2, _⟩ := Array.getElem?_eq_some_iff.1 hi
  rw [List.getElem?_eq_getElem (by omega)] at h1
  exact ⟨_, h1⟩
end
def allRo : List T → Bool
  | [] => true
  | t :: ts => !t.isOwn && allRo ts
theorem CRepL_ro {w : World} {fz : Nat → Prop} {hs : List Value} : ∀ {ts : List T} {vs : List Value}, RoL w fz ts vs → allRo ts = true → CRepL w fz hs (ts.map C.t) (fun _ => False) vs
  | [], vs, h, _ => by simpa only [RoL, List.map_nil, CRepL] using h
  | t :: ts, vs, h, hr => by
    simp only [RoL] at h
    obtain ⟨u, us, rfl, h1, h2⟩ := h
    simp only [allRo, Bool.and_eq_true, Bool.not_eq_true'] at hr
    simp only [List.map_cons, CRepL, CRep]
    exact ⟨u, us, fun _ => False, fun _ => False, rfl, fun _ h => h.elim, fun _ h => h, roOwn (fun sz rows e => by rw [e] at hr; simp [T.isOwn] at hr) h1, CRepL_ro h2 hr.2⟩
end Go.H
end
section
set_option maxRecDepth 100000
set_option linter.unusedVariables false
set_option linter.unusedSimpArgs false
namespace Go.H
open Go Go.Proofs.Tryz
section
variable {H : Type} {enc : TypeId × Value → H} {w : World} {base : Nat} {spare : Nat → Bool} {held : Bool}
theorem cells5 : prog.cellsOf 5 = 1 := by kernel_rfl
theorem ofs_22 {fuel : Nat} {cs : List Value} {d : DataW H × List MemPlace} (h : DataW.trod enc prog w base spare held fuel 22 cs = some d) : ∃ x : List Int, RoL w (okW w) [.sl false 1 (x.map eI_u8)] cs ∧ x.length ≤ 9223372036854775807 ∧ ∀ y ∈ x, (fun b => 0 ≤ b ∧ b ≤ 255) y := by
  exact sl_of eI_u8 (fun b => 0 ≤ b ∧ b ≤ 255) 1 underlying22 cells5 (fun _ => rfl) (by decide) (fun n cs d h => byte_of underlying5 h) h
end
end Go.H
end
section
set_option maxRecDepth 100000
set_option maxHeartbeats 4000000
set_option cbv.maxSteps 4000000
set_option linter.unusedVariables false
set_option linter.unusedSimpArgs false
namespace Go.H
open Go Go.Proofs.Tryz
variable [Inv prog]
theorem s_impl_cmdsFault (xs : List Cmd) (hl : xs.length ≤ 2097152) : SemX prog 58 [aT (.sl false 6 (xs.map eCmd))] [] [rI (scan (cmdBad xs) xs.length 0)] [] := by
 refine goF [] [] [] func58 ?_
 refine D ?_
 refine L (α := Nat) (fun i => [(8, .int .i64 i)]) (fun i => []) (fun i => xs.length - i) (fun i => i ≤ xs.length ∧ scan (cmdBad xs) xs.length 0 = scan (cmdBad xs) xs.length i) 0 [] (fun i hL => ?_) (hi := by exact ⟨Nat.zero_le _, rfl⟩)
 obtain ⟨hi2, hie⟩ := hL
 refine D ?_
 refine cC (fun c0 => ?_) (fun c0 => ?_)
 · skip
   have hst := scan_lt (f := cmdBad xs) (show i < xs.length by omega)
   have hd : cmdBad xs i = cmdFault (xs.getD i zCmd) := rfl
   refine D ?_
   refine kR (s_impl_CmdFault (xs.getD i zCmd)) ?_
   refine D ?_
   refine cC (fun c1 => ?_) (fun c1 => ?_)
   · skip
     refine D ?_
     refine E ?_
     first
     | exact trivial
     | grind
   · skip
     refine D ?_
     refine N (i+1) [] (hi := ?_) (hm := ?_)
     · refine ⟨by omega, ?_⟩
       rw [hie, scan_lt (by omega), if_pos]
       unfold cmdBad
       grind
     · omega
 · skip
   have hs0 : scan (cmdBad xs) xs.length 0 = 0 := by rw [hie, scan_ge (by omega)]
   refine D ?_
   refine E ?_
   first
   | exact trivial
   | grind
theorem s_impl_Config_isZero (c : Config) (hx : limG 2097152 c) : SemX prog 65 [aT (.ptr (eConfig false c))] [] [rB (cfgZero c)] [] := by
 refine goF [] [] [] func65 ?_
 obtain ⟨hb, hv, hV⟩ := id hx
 refine D ?_
 refine E ?_
 first
 | exact trivial
 | simp only [go_sem, cfgZero]; done
 | try simp only [go_sem, cfgZero]
   first | rfl | (simp; done) | (simp [Bool.and_assoc]; done) | grind
theorem s_impl_size_Cmd (rows : List (List T)) : SemX prog 66 [aT (.sl false 6 rows)] [] [rI rows.length] [] := by
 refine goF [] [] [] func66 ?_
 refine D ?_
 refine E ?_
 first
 | exact trivial
 | exact rfl
theorem s_impl_UpdateFault (u : Update) (hu : limU 2097152 u) : SemX prog 21 [aS (eUpdate false u)] [] [rI (updateFault u)] [] := by
 refine goF [(104, ⟨some 1, none, none, none⟩)] [(16, 1, [8192], []), (16, 3, [8192], []), (16, 6, [8192], [])] [] func21 ?_
 have hcl := hu.2
 have hcf := hu.1
 refine D ?_
 refine kR (s_impl_in _ _ _) ?_
 refine D ?_
 refine kRg (s_impl_in _ _ _) ?_
 refine D ?_
 refine cC (fun c0 => ?_) (fun c0 => ?_)
 · skip
   refine D ?_
   refine E ?_
   first
   | exact trivial
   | unfold updateFault
     grind
 · skip
   have hfr : (0 ≤ u.from_ ∧ u.from_ ≤ 1000000) ∧ (0 ≤ u.to_ ∧ u.to_ ≤ 1000000) := by
     have h_ := c0
     simp [inR] at h_
     omega
   refine D ?_
   refine cC (fun c1 => ?_) (fun c1 => ?_)
   · skip
     refine D ?_
     refine cC (fun c2 => ?_) (fun c2 => ?_)
     · skip
       refine D ?_
       refine E ?_
       first
       | exact trivial
       | unfold updateFault
         grind
     · skip
       refine D ?_
       refine kR (s_impl_ConfigFault u.config hcf) ?_
       refine D ?_
       refine cC (fun c3 => ?_) (fun c3 => ?_)
       · skip
         refine D ?_
         refine E ?_
         first
         | exact trivial
         | unfold updateFault
           grind
       · skip
         refine D ?_
         refine cC (fun c4 => ?_) (fun c4 => ?_)
         · skip
           refine D ?_
           refine E ?_
           first
           | exact trivial
           | unfold updateFault
             grind
         · skip
           refine D ?_
           refine E ?_
           first
           | exact trivial
           | unfold updateFault
             grind
   · skip
     refine D ?_
     refine kR (s_impl_Config_isZero u.config hcf) ?_
     refine D ?_
     refine cC (fun c5 => ?_) (fun c5 => ?_)
     · skip
       refine D ?_
       refine E ?_
       first
       | exact trivial
       | unfold updateFault
         grind
     · skip
       refine D ?_
       refine cC (fun c6 => ?_) (fun c6 => ?_)
       · skip
         refine D ?_
         refine E ?_
         first
         | exact trivial
         | unfold updateFault
           grind
       · skip
         refine D ?_
         refine kD (s_impl_size_Cmd (u.cmds.map eCmd)) ?_
         refine D ?_
         refine cC (fun c7 => ?_) (fun c7 => ?_)
         · skip
           refine D ?_
           refine E ?_
           first
           | exact trivial
           | unfold updateFault
             grind
         · skip
           refine D ?_
           refine kR (s_impl_cmdsFault u.cmds hcl) ?_
           refine D ?_
           refine E ?_
           first
           | exact trivial
           | unfold updateFault
             grind
theorem s_impl_WatchFault (w : Watch) (hw : limG 2097152 w.config) : SemX prog 31 [aS (eWatch false w)] [] [rI (watchFault w)] [] := by
 refine goF [] [] [] func31 ?_
 refine D ?_
 refine kR (s_impl_ConfigFault w.config hw) ?_
 refine D ?_
 refine cC (fun c0 => ?_) (fun c0 => ?_)
 · skip
   refine D ?_
   refine E ?_
   first
   | exact trivial
   | unfold watchFault
     grind
 · skip
   refine D ?_
   refine kRg (s_impl_Config_isZero w.config hw) ?_
   refine D ?_
   refine cC (fun c1 => ?_) (fun c1 => ?_)
   · skip
     refine D ?_
     refine E ?_
     first
     | exact trivial
     | unfold watchFault
       grind
   · skip
     refine D ?_
     refine E ?_
     first
     | exact trivial
     | unfold watchFault
       grind
theorem s_impl_ApplyCmd (c : Config) (hx1 : limG 2097151 c) (x_ : Cmd) : SemX prog 101 [aS (eConfig false c), aS (eCmd x_)] [] [.agg (eConfigResult true (applyCmd c x_))] [] := by
 refine goF [] [] [] func101 ?_
 have hx : limG 2097152 c := limG_mono (by omega) hx1
 refine D ?_
 refine kR (s_impl_ConfigFault c hx) ?_
 refine D ?_
 refine cC (fun c0 => ?_) (fun c0 => ?_)
 · skip
   have K := cf_ok c0
   refine D ?_
   refine kR (s_impl_CmdFault x_) ?_
   refine D ?_
   refine cC (fun c1 => ?_) (fun c1 => ?_)
   · skip
     refine D ?_
     refine E ?_
     have he : applyCmd c x_ = badC (cmdFault x_) := by unfold applyCmd; grind
     simp [he, badC, zConfig]
   · skip
     have hcf : cmdFault x_ = 0 := by omega
     refine D ?_
     refine kR (s_impl_apply c hx1 K x_ hcf) ?_
     refine D ?_
     refine E ?_
     have he : applyCmd c x_ = applyR c x_ := by unfold applyCmd; grind
     simp [he, badC, zConfig]
 · skip
   refine D ?_
   refine cC (fun c1 => ?_) (fun c1 => ?_)
   · skip
     refine D ?_
     refine E ?_
     have he : applyCmd c x_ = badC (configFault c) := by unfold applyCmd; grind
     simp [he, badC, zConfig]
   · skip
     exfalso
     grind
theorem s_impl_applyAll (c : Config) (h0 : configFault c = 0) (xs : List Cmd) (hl : xs.length ≤ 2097152) : SemX prog 67 [aS (eConfig false c), aT (.sl false 6 (xs.map eCmd))] [] [.agg (eConfigResult true (stepsR xs c))] [] := by
 refine goF [] [] [] func67 ?_
 have hx1 : limG 2097151 c := limG_mono (by omega) (cf_l h0)
 have hx : limG 2097152 c := limG_mono (by omega) (cf_l h0)
 refine D ?_
 refine kR (s_impl_Config_copied c hx) ?_
 refine D ?_
 refine L (α := Nat × Config) (fun p => [(13, .int .i64 p.1)]) (fun p => [(24576, .var [.int .i64 p.2.version, .ref 45057 0 p.2.backends.length, .ref 45058 0 p.2.vips.length]), (45057, .arr ⟨5, p.2.backends.map eBackend, 1, none⟩), (45058, .arr ⟨4, p.2.vips.map (eVip true), 1, none⟩)]) (fun p => xs.length - p.1) (fun p => p.1 ≤ xs.length ∧ configFault p.2 = 0 ∧ stepsR xs c = stepsR (xs.drop p.1) p.2) (0, c) [] (fun x0 hL => ?_) (by simp only [go_sem] <;> and_intros <;> first | with_reducible exact rfl | (first | omega | exact rfl)) (by exact ⟨Nat.zero_le _, h0, rfl⟩)
 obtain ⟨i, d⟩ := x0
 obtain ⟨hi2, hd0, hst⟩ := hL
 try dsimp only at *
 have hd1 : limG 2097151 d := limG_mono (by omega) (cf_l hd0)
 have hdK := cf_ok hd0
 refine D ?_
 refine cC (fun c0 => ?_) (fun c0 => ?_)
 · skip
   have hae : (applyCmd d (xs.getD i zCmd)) = if cmdFault (xs.getD i zCmd) ≠ 0 then badC (cmdFault (xs.getD i zCmd)) else (applyR d (xs.getD i zCmd)) := by unfold applyCmd; rw [if_neg (by omega)]
   refine D ?_
   refine kR (s_impl_ApplyCmd d hd1 (xs.getD i zCmd)) ?_
   refine D ?_
   refine cC (fun c1 => ?_) (fun c1 => ?_)
   · skip
     refine D ?_
     refine E ?_
     have he : stepsR xs c = (applyCmd d (xs.getD i zCmd)) := by
       rw [hst, stepsR_drop (by omega)]
       by_cases h : cmdFault (xs.getD i zCmd) ≠ 0
       · rw [if_pos h, hae, if_pos h]
       · have e : (applyCmd d (xs.getD i zCmd)) = (applyR d (xs.getD i zCmd)) := by rw [hae, if_neg h]
         rw [if_neg h, if_pos (by rw [← e]; omega), e, ← applyR_bad (by rw [← e]; omega)]
     simp [he]
   · skip
     have hc2 : (applyCmd d (xs.getD i zCmd)).code = 0 := by omega
     have hc1 : cmdFault (xs.getD i zCmd) = 0 := by
       rw [hae] at hc2
       split at hc2
       · rename_i h; exact absurd hc2 h
       · omega
     have heq : (applyCmd d (xs.getD i zCmd)) = (applyR d (xs.getD i zCmd)) := by rw [hae, if_neg (by omega)]
     rw [heq] at hc2
     refine D ?_
     refine lp_next (i + 1, (applyCmd d (xs.getD i zCmd)).config) [(45057,81922),(45058,81923)] ?_ ?_ ?_
     · simp only [go_sem] <;> and_intros <;> first | with_reducible exact rfl | (first | with_reducible exact rfl | omega | (simp; done))
     · dsimp only
       rw [heq]
       refine ⟨by omega, p_fault (applyR_p hdK hc1 (by omega)), ?_⟩
       rw [hst, stepsR_drop (by omega), if_neg (by omega), if_neg (by omega)]
     · try dsimp only
       omega
 · skip
   obtain rfl : i = xs.length := by omega
   refine D ?_
   refine E ?_
   have he : stepsR xs c = ⟨0, d⟩ := by rw [hst, stepsR_end]
   simp [he]
theorem s_impl_TakeUpdate (w : Watch) (hw : limG 2097152 w.config) (u : Update) (hu : limU 2097152 u) : SemX prog 22 [aS (eWatch false w), aS (eUpdate false u)] [] [.agg (eWatchResult true (takeU w u))] [] := by
 refine goF [] [] [] func22 ?_
 refine D ?_
 refine kR (s_impl_WatchFault w hw) ?_
 refine D ?_
 refine cC (fun c0 => ?_) (fun c0 => ?_)
 · skip
   have hwf : watchFault w = 0 := c0
   refine D ?_
   refine kR (s_impl_UpdateFault u hu) ?_
   refine D ?_
   refine cC (fun c1 => ?_) (fun c1 => ?_)
   · skip
     refine D ?_
     refine E ?_
     have he : takeU w u = badW (updateFault u) := by unfold takeU; grind
     simp [he, badW, zWatch, zConfig]
   · skip
     have huf : updateFault u = 0 := by omega
     refine D ?_
     refine cC (fun c2 => ?_) (fun c2 => ?_)
     · skip
       have hcc : limG 2097152 u.config := limG_mono (by omega) (cf_l (upd_cf huf c2))
       refine D ?_
       refine cC (fun c3 => ?_) (fun c3 => ?_)
       · skip
         refine D ?_
         refine E ?_
         have he : takeU w u = badW 9 := by unfold takeU takeW; grind
         simp [he, badW, zWatch, zConfig]
       · skip
         refine D ?_
         refine kR (s_impl_Config_copied u.config hcc) ?_
         refine D ?_
         refine E ?_
         have he : takeU w u = ⟨0, ⟨true, u.config⟩⟩ := by unfold takeU takeW; grind
         simp [he, badW, zWatch, zConfig]
     · skip
       refine D ?_
       refine cC (fun c4 => ?_) (fun c4 => ?_)
       · skip
         refine D ?_
         refine E ?_
         have he : takeU w u = badW 10 := by unfold takeU takeW; grind
         simp [he, badW, zWatch, zConfig]
       · skip
         refine D ?_
         refine cC (fun c5 => ?_) (fun c5 => ?_)
         · skip
           refine D ?_
           refine E ?_
           have he : takeU w u = badW 9 := by unfold takeU takeW; grind
           simp [he, badW, zWatch, zConfig]
         · skip
           refine D ?_
           refine cC (fun c6 => ?_) (fun c6 => ?_)
           · skip
             refine D ?_
             refine E ?_
             have he : takeU w u = badW 4 := by unfold takeU takeW; grind
             simp [he, badW, zWatch, zConfig]
           · skip
             refine D ?_
             refine kR (s_impl_applyAll w.config (watch_cf hwf) u.cmds hu.2) ?_
             refine D ?_
             refine cC (fun c7 => ?_) (fun c7 => ?_)
             · skip
               refine D ?_
               refine E ?_
               have he : takeU w u = badW (stepsR u.cmds w.config).code := by unfold takeU takeW; grind
               simp [he, badW, zWatch, zConfig]
             · skip
               refine D ?_
               refine E ?_
               have he : takeU w u = ⟨0, ⟨true, (stepsR u.cmds w.config).config⟩⟩ := by unfold takeU takeW; grind
               simp [he, badW, zWatch, zConfig]
 · skip
   refine D ?_
   refine cC (fun c1 => ?_) (fun c1 => ?_)
   · skip
     refine D ?_
     refine E ?_
     have he : takeU w u = badW (watchFault w) := by unfold takeU; grind
     simp [he, badW, zWatch, zConfig]
   · skip
     exfalso
     grind
theorem s_spec_l1Source (code : List Int) (hb : okB code) : LayX prog 52 [aT (.sl false 1 (code.map eI_u8))] [.sl false 1 (code.map eI_u8), .int .i64 0] := by
 refine goL [] [] [] func52 ?_
 refine D ?_
 exact E trivial
theorem s_spec_l13History (code : List Int) (hb : okB code)  {a : Int}  (h : (0 ≤ a ∧ a ≤ 960000)) : SemX prog 53 [.one (.ptr 0 0)] [.var [.sl false 1 (code.map eI_u8), .int .i64 a]] [.one (.sl true 3 ((hisD code a).1.1.map (eConfig true))), .one (.sl true 6 ((hisD code a).1.2.map eCmd))] [.var [.sl false 1 (code.map eI_u8), .int .i64 (hisD code a).2]] := by
 refine goF [(42, ⟨some 1, none, none, none⟩), (54, ⟨some 1, none, none, none⟩)] [(8, 4, [57344], []), (8, 5, [57344], []), (8, 6, [36864], []), (8, 7, [57344], [126978, 126979]), (8, 8, [], [40960]), (8, 9, [40960], [40960])] [] func53 ?_
 obtain ⟨ha, ha2⟩ := h
 obtain ⟨hr0, hr1, hr2⟩ := rgtD_ok hb ha
 have hn := nxV_bd hb (a := (rgtD code a).2) (by omega) 12
 obtain ⟨l1, l2, l3⟩ := cf_l hr0
 refine D ?_
 refine kRq false [1000000] [] [] (s_spec_l5Right code hb) ?_
 refine D ?_
 refine kRq false [1000000] [] [] (s_spec_l1Next code hb) ?_
 refine D ?_
 refine L (α := Nat × List Config × List Cmd × Int) (fun p => [(5, .ref 57344 0 p.2.1.length), (6, .ref 61440 0 p.2.2.1.length), (7, .int .i64 ((nxV code (rgtD code a).2 12) - p.1))]) (fun p => [(1000000, .var [.sl none 1 (code.map eI_u8), .int .i64 p.2.2.2]), (57344, .arr ⟨3, p.2.1.map (eConfig true), 1, none⟩), (61440, .arr ⟨6, p.2.2.1.map eCmd, 1, none⟩)]) (fun p => (nxV code (rgtD code a).2 12).toNat - p.1) (fun p => p.1 ≤ (nxV code (rgtD code a).2 12).toNat ∧ (rgtD code a).2 + 1 ≤ p.2.2.2 ∧ p.2.2.2 ≤ (rgtD code a).2 + 1 + 7 * p.1 ∧ HisP p.2.1 p.2.2.1 ∧ p.2.2.1.length ≤ p.1 ∧ hisL code (nxV code (rgtD code a).2 12).toNat [(rgtD code a).1] [] ((rgtD code a).2 + 1) = hisL code ((nxV code (rgtD code a).2 12).toNat - p.1) p.2.1 p.2.2.1 p.2.2.2) (0, [(rgtD code a).1], [], (rgtD code a).2 + 1) [] (fun x0 hL => ?_) (by simp only [go_sem] <;> and_intros <;> first | with_reducible exact rfl | (first | omega | exact rfl | (simp [eConfig]; done))) (by exact ⟨Nat.zero_le _, Int.le_refl _, by dsimp only; omega, ⟨rfl, fun i hi => (by obtain rfl : i = 0 := (by simp at hi; omega); exact hr0), fun i hi => by simp at hi, fun i hi => by simp at hi⟩, Nat.zero_le _, rfl⟩)
 obtain ⟨i, al, cs, a_⟩ := x0
 obtain ⟨hi2, hA0, hA1, H, hcl, hsl⟩ := hL
 try dsimp only at *
 have hll := H.ln
 have hlc := H.cf (al.length - 1) (by omega)
 have hgl := cf_l hlc
 have hx1 : limG 2097151 (al.getD (al.length - 1) zConfig) := limG_mono (by omega) hgl
 have hal0 : 0 < al.length := by omega
 refine D ?_
 refine cC (fun c0 => ?_) (fun c0 => ?_)
 · skip
   have hcs := cmdS_bd code a_
   refine D ?_
   refine kRq false [1000000] [] [] (s_spec_l5Cmd code hb) ?_
   refine D ?_
   refine kD (s_spec_l5Apply (al.getD (al.length - 1) zConfig) hx1 (cf_ok hlc) (cmdD code a_) (cmdD_ok hb (by omega))) ?_
   refine D ?_
   refine cC (fun c1 => ?_) (fun c1 => ?_)
   · skip
     have hc0 : (applyR (al.getD (al.length - 1) zConfig) (cmdD code a_)).code = 0 := by simpa using c1
     refine D ?_
     refine lp_next (i + 1, al ++ [(applyR (al.getD (al.length - 1) zConfig) (cmdD code a_)).config], cs ++ [cmdD code a_], cmdS code a_) [(57344,159744),(61440,176128)] ?_ ?_ ?_
     · simp only [go_sem] <;> and_intros <;> first | with_reducible exact rfl | (first | with_reducible exact rfl | omega | (refine int_eq ?_; omega) | (simp [eConfig, eCmd]; done))
     · dsimp only
       refine ⟨by omega, by omega, by omega, hisP_snoc H (cmdD_ok hb (by omega)) hc0, by simp only [List.length_append, List.length_singleton]; omega, ?_⟩
       rw [hsl, show (nxV code (rgtD code a).2 12).toNat - i = ((nxV code (rgtD code a).2 12).toNat - (i + 1)) + 1 by omega, hisL]
       exact if_pos hc0
     · try dsimp only
       omega
   · skip
     have hc0 : ¬ (applyR (al.getD (al.length - 1) zConfig) (cmdD code a_)).code = 0 := by simpa using c1
     refine D ?_
     refine lp_next (i + 1, al, cs, cmdS code a_) [] ?_ ?_ ?_
     · simp only [go_sem] <;> and_intros <;> first | with_reducible exact rfl | (first | with_reducible exact rfl | omega | (refine int_eq ?_; omega) | (simp [eConfig, eCmd]; done))
     · dsimp only
       refine ⟨by omega, by omega, by omega, H, by omega, ?_⟩
       rw [hsl, show (nxV code (rgtD code a).2 12).toNat - i = ((nxV code (rgtD code a).2 12).toNat - (i + 1)) + 1 by omega, hisL]
       exact if_neg hc0
     · try dsimp only
       omega
 · skip
   obtain rfl : i = (nxV code (rgtD code a).2 12).toNat := by omega
   rw [Nat.sub_self, hisL] at hsl
   refine D ?_
   refine E ?_
   first
   | exact trivial
   | have he : hisD code a = ((al, cs), a_) := hsl
     simp [he, eConfig]
theorem s_spec_l13Watch (code : List Int) (hb : okB code) (al : List Config) (hl0 : 0 < al.length) (hl : al.length ≤ 100000) (hm : ∀ y ∈ al, limG 1048576 y) {a : Int}  (h : (0 ≤ a ∧ a ≤ 960000)) : SemX prog 78 [.one (.ptr 0 0), aT (.sl false 3 (al.map (eConfig false)))] [.var [.sl false 1 (code.map eI_u8), .int .i64 a]] [.agg (eWatch true (wchD code a al))] [.var [.sl false 1 (code.map eI_u8), .int .i64 (wchS code a)]] := by
 refine goF [(14, ⟨some 4, some 28672, some (60, true), none⟩)] [] [] func78 ?_
 obtain ⟨ha, ha2⟩ := h
 have k1 := nxV_bd hb (a := a + 1) (by omega) al.length
 have hgx := hm _ (getD_mem zConfig (show (nxV code (a + 1) al.length).toNat < al.length by omega))
 have hgy := limG_mono (b := 2097152) (by omega) hgx
 obtain ⟨g1, g2, g3⟩ := id hgx
 refine D ?_
 refine kRq false [1000000] [] [] (s_spec_l1Chance code hb) ?_
 refine D ?_
 refine cC (fun c0 => ?_) (fun c0 => ?_)
 · skip
   refine D ?_
   refine kRq false [1000000] [] [] (s_spec_l1Next code hb) ?_
   refine D ?_
   refine kR (s_spec_l5Copy (al.getD (nxV code (a + 1) al.length).toNat zConfig) hgy) ?_
   refine D ?_
   refine kRq false [1000000] [] [] (s_spec_l1Chance code hb) ?_
   refine D ?_
   refine cC (fun c1 => ?_) (fun c1 => ?_)
   · skip
     refine D ?_
     refine kRq false [1000000] [] [] (s_spec_l5Bent code hb) ?_
     refine D ?_
     refine E ?_
     first
     | exact trivial
     | simp_all [wchD, wchS, wc0, wa0, zWatch, zConfig]
   · skip
     refine D ?_
     refine E ?_
     first
     | exact trivial
     | simp_all [wchD, wchS, wc0, wa0, zWatch, zConfig]
 · skip
   refine D ?_
   refine kRq false [1000000] [] [] (s_spec_l1Chance code hb) ?_
   refine D ?_
   refine cC (fun c1 => ?_) (fun c1 => ?_)
   · skip
     refine D ?_
     refine kRq false [1000000] [] [] (s_spec_l5Bent code hb) ?_
     refine D ?_
     refine E ?_
     first
     | exact trivial
     | simp_all [wchD, wchS, wc0, wa0, zWatch, zConfig]
   · skip
     refine D ?_
     refine E ?_
     first
     | exact trivial
     | simp_all [wchD, wchS, wc0, wa0, zWatch, zConfig]
theorem s_spec_l13Served (all : List Config) (hl : all.length ≤ 2097152) (hm : ∀ y ∈ all, limG 2097152 y) (cmds : List Cmd) (hc : cmds.length ≤ 2097152) : SemX prog 61 [aT (.sl false 3 (all.map (eConfig false))), aT (.sl false 6 (cmds.map eCmd))] [] [rI (servedM all cmds)] [] := by
 refine goF [(46, ⟨some 1, none, none, none⟩), (98, ⟨some 1, none, none, none⟩)] [] [] func61 ?_
 refine D ?_
 refine cC (fun c0 => ?_) (fun c0 => ?_)
 · skip
   have hsv : servedM all cmds = 2 := if_pos (by first | omega | (simp [inR] at c0; omega) | (simp at c0; omega) | grind)
   refine D ?_
   refine E ?_
   rw [hsv]
 · skip
   have hsz : 1 ≤ all.length ∧ all.length ≤ 60 ∧ cmds.length + 1 = all.length := by first | omega | (simp [inR] at c0; omega) | (simp at c0; omega) | grind
   have hsv0 : servedM all cmds = if scan (servedBad all) all.length 0 ≠ 0 then scan (servedBad all) all.length 0 else scan (cmdBad cmds) cmds.length 0 := if_neg (by omega)
   refine D ?_
   refine L (α := Nat) (fun i => [(5, .int .i64 i)]) (fun i => []) (fun i => all.length - i) (fun i => i ≤ all.length ∧ scan (servedBad all) all.length 0 = scan (servedBad all) all.length i ∧ ∀ j, j < i → configFault (all.getD j zConfig) = 0) 0 [] (fun i hL => ?_) (hi := by exact ⟨Nat.zero_le _, rfl, fun j hj => by omega⟩)
   obtain ⟨hi2, hie, hcf⟩ := hL
   refine D ?_
   refine cC (fun c1 => ?_) (fun c1 => ?_)
   · skip
     have hst := scan_lt (f := servedBad all) (show i < all.length by omega)
     have hxi := hm _ (getD_mem zConfig (show i < all.length by omega))
     have hd : servedBad all i = if configFault (all.getD i zConfig) ≠ 0 then configFault (all.getD i zConfig) else if (all.getD i zConfig).version ≠ (all.getD 0 zConfig).version + i then 1 else 0 := rfl
     refine D ?_
     refine kR (s_spec_l5Fault (all.getD i zConfig) hxi) ?_
     refine D ?_
     refine cC (fun c2 => ?_) (fun c2 => ?_)
     · skip
       have hbz : servedBad all i = configFault (all.getD i zConfig) := by rw [hd, if_pos (by omega)]
       refine D ?_
       refine E ?_
       rw [hsv0, if_pos (by rw [hie, hst, if_neg (by omega)]; omega), hie, hst, if_neg (by omega), hbz]
     · skip
       have hk0 : configFault (all.getD i zConfig) = 0 := by omega
       have hv0 : 0 ≤ (all.getD 0 zConfig).version ∧ (all.getD 0 zConfig).version ≤ 1000000 := by
         rcases Nat.eq_zero_or_pos i with h | h
         · rw [h] at hk0; exact cf_ver hk0
         · exact cf_ver (hcf 0 h)
       rw [if_neg (by omega)] at hd
       refine D ?_
       refine cC (fun c3 => ?_) (fun c3 => ?_)
       · skip
         have hbz : servedBad all i = 1 := by rw [hd, if_pos (by simpa using c3)]
         refine D ?_
         refine E ?_
         rw [hsv0, if_pos (by rw [hie, hst, if_neg (by omega)]; omega), hie, hst, if_neg (by omega), hbz]
       · skip
         have hbz : servedBad all i = 0 := by rw [hd, if_neg (by simpa using c3)]
         refine D ?_
         refine N (i+1) [] (hi := ?_) (hm := ?_)
         · refine ⟨by omega, ?_, fun j hj => ?_⟩
           · rw [hie, hst, if_pos hbz]
           · rcases Nat.lt_or_ge j i with h | h
             · exact hcf j h
             · obtain rfl : j = i := by omega
               exact hk0
         · omega
   · skip
     obtain rfl : i = all.length := by omega
     have hs0 : scan (servedBad all) all.length 0 = 0 := by rw [hie, scan_ge (by omega)]
     have hsv1 : servedM all cmds = scan (cmdBad cmds) cmds.length 0 := by rw [hsv0, if_neg (by omega)]
     have hv0 := cf_ver (hcf 0 (by omega))
     refine D ?_
     refine L (α := Nat) (fun i => [(7, .int .i64 i)]) (fun i => []) (fun i => cmds.length - i) (fun i => i ≤ cmds.length ∧ scan (cmdBad cmds) cmds.length 0 = scan (cmdBad cmds) cmds.length i) 0 [] (fun i hL => ?_) (hi := by exact ⟨Nat.zero_le _, rfl⟩)
     obtain ⟨hi2, hie⟩ := hL
     refine D ?_
     refine cC (fun c4 => ?_) (fun c4 => ?_)
     · skip
       have hst := scan_lt (f := cmdBad cmds) (show i < cmds.length by omega)
       have hd : cmdBad cmds i = cmdFault (cmds.getD i zCmd) := rfl
       refine D ?_
       refine kR (s_spec_CmdFault (cmds.getD i zCmd)) ?_
       refine D ?_
       refine cC (fun c5 => ?_) (fun c5 => ?_)
       · skip
         refine D ?_
         refine E ?_
         rw [hsv1]
         grind
       · skip
         refine D ?_
         refine N (i+1) [] (hi := ?_) (hm := ?_)
         · refine ⟨by omega, ?_⟩
           rw [hie, scan_lt (by omega), if_pos]
           unfold cmdBad
           grind
         · omega
     · skip
       have hs0 : scan (cmdBad cmds) cmds.length 0 = 0 := by rw [hie, scan_ge (by omega)]
       refine D ?_
       refine E ?_
       rw [hsv1]
       grind
theorem s_spec_l1Max (a b : Int) : SemX prog 63 [aI a, aI b] [] [rI (if b < a then a else b)] [] := by
 refine goF [] [] [] func63 ?_
 refine D ?_
 refine cC (fun c0 => ?_) (fun c0 => ?_)
 · skip
   refine D ?_
   refine E ?_
   first
   | exact trivial
   | first | (rw [if_pos (by omega)]; done) | (rw [if_neg (by omega)]; done) | grind
 · skip
   refine D ?_
   refine E ?_
   first
   | exact trivial
   | first | (rw [if_pos (by omega)]; done) | (rw [if_neg (by omega)]; done) | grind
theorem s_spec_ServeFrom (all : List Config) (hl : all.length ≤ 2097152) (hm : ∀ y ∈ all, limG 2097152 y) (cmds : List Cmd) (hc : cmds.length ≤ 2097152) (n : Int) : SemX prog 20 [aT (.sl false 3 (all.map (eConfig false))), aT (.sl false 6 (cmds.map eCmd)), aI n] [] [.agg (eUpdateResult true (serveM all cmds n))] [] := by
 refine goF [(48, ⟨some 1, none, none, none⟩), (68, ⟨some 1, none, none, none⟩), (76, ⟨some 1, none, none, none⟩), (90, ⟨some 1, none, none, none⟩)] [(7, 6, [36864], []), (7, 10, [36864], []), (9, 2, [36864], []), (9, 3, [], [200704]), (9, 7, [200704], [217088, 200704]), (9, 10, [28672], [28672]), (10, 1, [36864], []), (10, 2, [36864], []), (10, 3, [], [241665, 241666]), (10, 6, [28672], [28672])] [] func20 ?_
 refine D ?_
 refine kR (s_spec_l13Served all hl hm cmds hc) ?_
 refine D ?_
 refine cC (fun c0 => ?_) (fun c0 => ?_)
 · skip
   refine D ?_
   refine E ?_
   have he : serveM all cmds n = badU (servedM all cmds) := if_pos (by omega)
   simp [he, badU, zUpdate, zConfig]
 · skip
   have P := served_p (show servedM all cmds = 0 by omega)
   have hp1 := P.l1
   have hp2 := P.l2
   have hp3 := P.l3
   obtain ⟨hlc, hlv⟩ := served_last P
   have hlw := cf_ver hlc
   have hv0 := cf_ver (P.cf 0 P.l1)
   have hlx := hm _ (getD_mem zConfig (show all.length - 1 < all.length by omega))
   unfold lastC at hlc hlv hlw
   refine D ?_
   refine cC (fun c1 => ?_) (fun c1 => ?_)
   · skip
     refine D ?_
     refine E ?_
     have he : serveM all cmds n = badU 3 := by unfold serveM; rw [if_neg (by omega), if_pos (by omega)]
     simp [he, badU, zUpdate, zConfig]
   · skip
     refine D ?_
     refine kD (s_spec_l1Max _ _) ?_
     refine D ?_
     refine kD (s_spec_l1In n _ _) ?_
     refine D ?_
     refine cC (fun c2 => ?_) (fun c2 => ?_)
     · skip
       have hin : (all.getD 0 zConfig).version ≤ n ∧ (all.getD (all.length - 1) zConfig).version - 4 ≤ n ∧ n ≤ (all.getD (all.length - 1) zConfig).version - 1 := by
         have h_ := c2
         simp only [inR, Bool.and_eq_true, decide_eq_true_eq] at h_
         split at h_ <;> omega
       refine D ?_
       refine E ?_
       have he : serveM all cmds n = ⟨0, ⟨n, (all.getD (all.length - 1) zConfig).version, false, zConfig, cmds.drop (n - (all.getD 0 zConfig).version).toNat⟩⟩ := by
         unfold serveM lastC
         rw [if_neg (by omega), if_neg (by omega), if_pos hin]
       simp [he, zConfig]
     · skip
       have hin : ¬ ((all.getD 0 zConfig).version ≤ n ∧ (all.getD (all.length - 1) zConfig).version - 4 ≤ n ∧ n ≤ (all.getD (all.length - 1) zConfig).version - 1) := by
         have h_ := c2
         simp only [inR, Bool.and_eq_false_iff, decide_eq_false_iff_not] at h_
         intro h
         split at h_ <;> omega
       refine D ?_
       refine kD (s_spec_l5Copy (all.getD (all.length - 1) zConfig) hlx) ?_
       refine D ?_
       refine E ?_
       have he : serveM all cmds n = ⟨0, ⟨0, (all.getD (all.length - 1) zConfig).version, true, (all.getD (all.length - 1) zConfig), []⟩⟩ := by
         unfold serveM lastC
         rw [if_neg (by omega), if_neg (by omega), if_neg hin]
       simp [he]
theorem s_spec_FullUpdate (c : Config) (hx : limG 2097152 c) : SemX prog 111 [aS (eConfig false c)] [] [.agg (eUpdateResult true (fulU c))] [] := by
 refine goF [] [(4, 1, [8192], []), (4, 2, [8192], []), (4, 3, [], [53249, 53250]), (4, 6, [12288], [12288])] [] func111 ?_
 refine D ?_
 refine kR (s_spec_l5Fault c hx) ?_
 refine D ?_
 refine cC (fun c0 => ?_) (fun c0 => ?_)
 · skip
   refine D ?_
   refine E ?_
   have he : fulU c = badU (configFault c) := if_pos (by omega)
   simp [he, badU, zUpdate, zConfig]
 · skip
   refine D ?_
   refine kD (s_spec_l5Copy c hx) ?_
   refine D ?_
   refine E ?_
   have he : fulU c = ⟨0, ⟨0, c.version, true, c, []⟩⟩ := if_neg (by omega)
   simp [he]
end Go.H
end
section
set_option linter.unusedVariables false
set_option linter.unusedSimpArgs false
namespace Go.H
open Go
theorem replay_ok_p (xs : List Entry) : MaOk (replayM xs).1.machine := by
  by_cases h : (replayM xs).1.code = 0
  · rw [(rp_all h).1]; exact (rp_part h xs.length).2.2.ok
  · have : (replayM xs).1.machine = zMachine := by
      have hz : ∀ (xs : List Entry) (m : Machine) (rp : Int) (al : List Config), (repR xs m rp al).1.code ≠ 0 → (repR xs m rp al).1.machine = zMachine := by
        intro xs
        induction xs with
        | nil => intro m rp al h; exact absurd rfl h
        | cons x xs ih =>
          intro m rp al h
          rw [repR] at h ⊢
          split
          · rfl
          · rename_i h1
            rw [if_neg h1] at h
            split
            · rfl
            · rename_i h2
              rw [if_neg h2] at h
              exact ih _ _ _ h
      unfold replayM at h ⊢
      split
      · rfl
      · rename_i h1
        rw [if_neg h1] at h
        exact hz _ _ _ _ h
    rw [this]
    exact maP_zero.ok
theorem mbtD_seq {code : List Int} (hb : okB code) {a : Int} (ha : 0 ≤ a) : ∀ s ∈ (mbtD code a).sessions, -1 ≤ s.seq ∧ s.seq ≤ 1000001 := by
  have hK := replay_ok_p (mbL code a).1
  rw [show (replayM (mbL code a).1).1.machine = mbM code a from rfl] at hK
  have hs : ∀ s ∈ (mbM code a).sessions, -1 ≤ s.seq ∧ s.seq ≤ 1000001 := by
    intro s hs
    obtain ⟨i, hi, rfl⟩ := List.getElem_of_mem hs
    have := hK.se i hi
    rw [List.getD_eq_getElem?_getD, List.getElem?_eq_getElem hi] at this
    simp [isSe, inR] at this
    omega
  have h3 := (mbL_ok hb ha).2.1
  unfold mbtD mbC
  repeat' split
  · exact hs
  · intro s h
    rcases List.mem_append.1 h with h | h
    · exact hs s h
    · rw [List.mem_singleton] at h
      rw [h]
      exact pkV_all hb (by omega) (l := [1, 0]) (p := fun x => -1 ≤ x ∧ x ≤ 1000001) (by simp) (by decide)
  · intro s h
    rw [(List.mem_replicate.1 h).2]
    decide
  · exact hs
theorem hisP_steps {al : List Config} {cs : List Cmd} (H : HisP al cs) : ∀ (k i : Nat), i + k = cs.length → stepsR (cs.drop i) (al.getD i zConfig) = ⟨0, al.getD cs.length zConfig⟩
  | 0, i, h => by
    obtain rfl : i = cs.length := by omega
    rw [stepsR_end]
  | k + 1, i, h => by
    obtain ⟨h1, h2⟩ := H.st i (by omega)
    rw [stepsR_drop (by omega), if_neg (by rw [H.cm i (by omega)]; decide), if_neg (by omega), h2]
    exact hisP_steps H k (i + 1) (by omega)
def watW (al : List Config) (n : Int) : Watch :=
  if 0 ≤ n - (al.getD 0 zConfig).version ∧ n - (al.getD 0 zConfig).version < al.length then ⟨true, al.getD (n - (al.getD 0 zConfig).version).toNat zConfig⟩ else zWatch
theorem zWatch_ok : watchFault zWatch = 0 := by rfl
theorem ready_ok {c : Config} (h : configFault c = 0) : watchFault ⟨true, c⟩ = 0 := by
  unfold watchFault
  simp [h]
theorem servesTo {al : List Config} {cs : List Cmd} {n : Int} (hc : (serveM al cs n).code = 0) (hH : 1 < al.length → HisP al cs) :
    (serveM al cs n).update.to_ = (lstC al).version ∧ updateFault (serveM al cs n).update = 0 ∧
    ((watW al n).ready = true → (watW al n).config.version = (lstC al).version → (takeU (watW al n) (serveM al cs n).update).code = 9) ∧
    ((watW al n).ready = false → (serveM al cs n).update.full = true) ∧
    (¬ ((watW al n).ready = true ∧ (watW al n).config.version = (lstC al).version) → (takeU (watW al n) (serveM al cs n).update).code = 0 ∧ (takeU (watW al n) (serveM al cs n).update).watch.config = lstC al) := by
  have hu := serve_up hc
  have hP : SvP al cs ∧ ¬ n < 0 := by
    unfold serveM at hc
    split at hc
    · rename_i h; exact absurd hc h
    split at hc
    · cases hc
    · rename_i h1 h2; exact ⟨served_p (by omega), h2⟩
  obtain ⟨P, hn⟩ := hP
  obtain ⟨l1, l2⟩ := served_last P
  have p1 := P.l1
  have p3 := P.l3
  have el : lstC al = lastC al := rfl
  have hwf : watchFault (watW al n) = 0 := by
    unfold watW
    split
    · exact ready_ok (P.cf _ (by omega))
    · exact zWatch_ok
  have hT : takeU (watW al n) (serveM al cs n).update = takeW (watW al n) (serveM al cs n).update := by
    unfold takeU
    rw [if_neg (by omega), if_neg (by omega)]
  rw [hT, el]
  have hS : serveM al cs n = if (al.getD 0 zConfig).version ≤ n ∧ (lastC al).version - 4 ≤ n ∧ n ≤ (lastC al).version - 1 then ⟨0, ⟨n, (lastC al).version, false, zConfig, cs.drop (n - (al.getD 0 zConfig).version).toNat⟩⟩ else ⟨0, ⟨0, (lastC al).version, true, lastC al, []⟩⟩ := by
    unfold serveM at hc ⊢
    split at hc
    · rename_i h; exact absurd hc h
    rename_i h1
    rw [if_neg h1, if_neg hn]
  by_cases hd : (al.getD 0 zConfig).version ≤ n ∧ (lastC al).version - 4 ≤ n ∧ n ≤ (lastC al).version - 1
  · rw [if_pos hd] at hS
    have hw : watW al n = ⟨true, al.getD (n - (al.getD 0 zConfig).version).toNat zConfig⟩ := if_pos (by omega)
    have hv := P.vs (n - (al.getD 0 zConfig).version).toNat (by omega)
    have hst := hisP_steps (hH (by omega)) (cs.length - (n - (al.getD 0 zConfig).version).toNat) (n - (al.getD 0 zConfig).version).toNat (by omega)
    have hlast : al.getD cs.length zConfig = lastC al := by unfold lastC; congr 1; omega
    rw [hlast] at hst
    refine ⟨by rw [hS], hu, fun _ h2 => ?_, fun h => (by rw [hw] at h; cases h), fun _ => ?_⟩
    · rw [hw] at h2; simp only at h2; omega
    · rw [hw, hS]
      unfold takeW
      simp only [Bool.false_eq_true, if_false, Bool.true_eq_false]
      rw [if_neg (by omega), if_neg (by omega), hst]
      simp
  · rw [if_neg hd] at hS
    refine ⟨by rw [hS], hu, fun h1 h2 => ?_, fun _ => by rw [hS], fun h => ?_⟩
    · rw [hS]
      unfold takeW
      simp only [if_true]
      rw [if_pos ⟨h1, by omega⟩]
      rfl
    · rw [hS]
      unfold takeW
      simp only [if_true]
      rw [if_neg (fun hx => ?_)]
      · exact ⟨rfl, rfl⟩
      · obtain ⟨x1, x2⟩ := hx
        unfold watW at x1 x2 h
        split at x1
        · rename_i hin
          rw [if_pos hin] at x2 h
          have hv := P.vs (n - (al.getD 0 zConfig).version).toNat (by omega)
          simp only at x2 h
          apply h
          exact ⟨trivial, by omega⟩
        · cases x1
theorem maP_of {m : Machine} (h : machineFault m = 0) : MaP m := by
  obtain ⟨h1, h2⟩ := ma_ok h
  exact ⟨h1, h2, cf_l h1, by have := h2.s40; omega⟩
theorem once_all {m : Machine} {x : Entry} (h : (applyEntry m x).code = 0) :
    machineFault (applyEntry m x).machine = 0 ∧ applyEntry (applyEntry m x).machine x = ⟨0, (applyEntry m x).reply, false, (applyEntry m x).machine⟩ ∧ limM 1048576 (applyEntry m x).machine ∧
    (x.client = 0 → (applyEntry m x).machine = m) ∧
    (x.client ≠ 0 → (replyOf (applyEntry m x).machine x.client x.seq = (0, (applyEntry m x).reply)) ∨ (replyOf (applyEntry m x).machine x.client x.seq = (9, 0) ∧ (applyEntry m x).reply = 9 ∧ (applyEntry m x).fresh = false)) := by
  have h0 : machineFault m = 0 := by
    unfold applyEntry at h
    split at h
    · rename_i g; exact absurd h g
    · omega
  have h1 : entryFault x = 0 := by
    unfold applyEntry at h
    rw [if_neg (by omega)] at h
    split at h
    · rename_i g; exact absurd h g
    · omega
  have e : applyEntry m x = enterM m x := by
    unfold applyEntry
    rw [if_neg (by omega), if_neg (by omega)]
  have P := maP_of h0
  rw [e] at h ⊢
  have P2 := enterM_p P h1 h
  have hf := ma_fault P2.cf P2.ok
  have e2 : applyEntry (enterM m x).machine x = enterM (enterM m x).machine x := by
    unfold applyEntry
    rw [if_neg (by omega), if_neg (by omega)]
  exact ⟨hf, by rw [e2]; exact once_again P h1 h, P2.lim, fun hc => once_same hc, fun hc => once_told P h1 h hc⟩
theorem fulU_to (c : Config) : 0 ≤ (fulU c).update.to_ ∧ (fulU c).update.to_ ≤ 1000000 := by
  unfold fulU
  split
  · exact ⟨Int.le_refl 0, (by decide : (0 : Int) ≤ 1000000)⟩
  · rename_i h
    exact cf_ver (by omega)
theorem serve_to (al : List Config) (cs : List Cmd) (n : Int) : 0 ≤ (serveM al cs n).update.to_ ∧ (serveM al cs n).update.to_ ≤ 1000000 := by
  by_cases h : servedM al cs ≠ 0
  · unfold serveM; rw [if_pos h]; exact ⟨Int.le_refl 0, (by decide : (0 : Int) ≤ 1000000)⟩
  · obtain ⟨h1, _⟩ := served_last (served_p (show servedM al cs = 0 by omega))
    have h2 := cf_ver h1
    unfold serveM
    rw [if_neg h]
    split
    · exact ⟨Int.le_refl 0, (by decide : (0 : Int) ≤ 1000000)⟩
    split
    · exact h2
    · exact h2
theorem up1_to (code : List Int) (a : Int) (al : List Config) (cs : List Cmd) : 0 ≤ (up1 code a al cs).to_ ∧ (up1 code a al cs).to_ ≤ 1000000 := by
  unfold up1
  split
  · exact fulU_to _
  · exact serve_to _ _ _
theorem up1_lim {code : List Int} {a : Int} {al : List Config} {cs : List Cmd} (hl : ∀ y ∈ al, limG 1048576 y) : limU 1048577 (up1 code a al cs) := by
  have hz : limU 1048577 zUpdate := ⟨zConfig_lim _, by simp [zUpdate]⟩
  unfold up1
  split
  · unfold fulU
    split
    · exact hz
    · exact ⟨limG_mono (by omega) (getD_lim hl _), by simp⟩
  · unfold up0
    exact serve_zlim (by omega)
theorem his_lim {al : List Config} {cs : List Cmd} (H : HisP al cs) : ∀ y ∈ al, limG 1048576 y := by
  intro y hy
  obtain ⟨i, hi, rfl⟩ := List.getElem_of_mem hy
  have := H.cf i hi
  rw [List.getD_eq_getElem?_getD, List.getElem?_eq_getElem hi] at this
  exact cf_l this
theorem wc0_lim {code : List Int} {a : Int} {al : List Config} (hl : ∀ y ∈ al, limG 1048576 y) : limG 1048576 (wc0 code a al).config := by
  unfold wc0
  split
  · exact zConfig_lim _
  · exact getD_lim hl _
theorem wchD_lim {code : List Int} (hb : okB code) {a : Int} (ha : 0 ≤ a) {al : List Config} (hl : ∀ y ∈ al, limG 1048576 y) : limG 1048578 (wchD code a al).config ∧ a ≤ wchS code a ∧ wchS code a ≤ a + 180 := by
  have h1 : a + 1 ≤ wa0 code a ∧ wa0 code a ≤ a + 2 := by unfold wa0; split <;> omega
  obtain ⟨b1, b2, b3⟩ := bntD_ok hb (a := wa0 code a + 1) (by omega)
  refine ⟨?_, ?_⟩
  · unfold wchD
    split
    · exact limG_mono (by omega) b1
    · exact limG_mono (by omega) (wc0_lim hl)
  · unfold wchS
    split <;> omega
theorem tyU_ok {code : List Int} (hb : okB code) : limG 1048578 (tyW code).config ∧ (tyU code).length ≤ 41 ∧ (∀ u ∈ tyU code, limU 1048578 u) := by
  obtain ⟨H, k2, k3, k4⟩ := hisD_ok hb (a := 0) (by omega)
  have hl := his_lim H
  obtain ⟨w1, w2, w3⟩ := wchD_lim hb (a := (hisD code 0).2) (by omega) hl
  have k6 := nxV_bd hb (a := tyA code) (by unfold tyA; omega) 6
  obtain ⟨t1, t2, t3, t4⟩ := tmL_ok hb hl (cs := (hisD code 0).1.2) (n := (nxV code (tyA code) 6).toNat) (a := tyA code + 1) (out := []) (by unfold tyA; omega) (fun u hu => by cases hu)
  refine ⟨w1, ?_⟩
  unfold tyU
  split
  · refine ⟨by rw [List.length_replicate]; exact Nat.le_refl _, fun u hu => ?_⟩
    rw [(List.mem_replicate.1 hu).2]
    exact ⟨zConfig_lim _, by simp [zUpdate]⟩
  · unfold tyL
    exact ⟨by simp only [List.length_nil] at t2; omega, t1⟩
theorem take_many {w : Watch} {us : List Update} (h : (takeMany w us).code = 0) : watchFault w = 0 ∧ watchFault (takeMany w us).watch = 0 ∧ w.config.version ≤ (takeMany w us).watch.config.version ∧ (w.ready = true → (takeMany w us).watch.ready = true) := by
  have hw : watchFault w = 0 := by
    unfold takeMany at h
    split at h
    · rename_i g; exact absurd h g
    · omega
  have hu : ¬ 40 < us.length := by
    intro hu
    unfold takeMany at h
    rw [if_neg (by omega), if_pos hu] at h
    cases h
  have e : takeMany w us = ⟨0, takeAll us w⟩ := by
    unfold takeMany
    rw [if_neg (by omega), if_neg hu]
  rw [e]
  have key : ∀ (us : List Update) (w : Watch), watchFault w = 0 → watchFault (takeAll us w) = 0 := by
    intro us
    induction us with
    | nil => intro w h; exact h
    | cons u us ih =>
      intro w h
      rw [takeAll]
      split
      · rename_i g; exact ih _ (takeU_ok h g)
      · exact ih _ h
  obtain ⟨a1, a2⟩ := takeAll_on (us := us) hw
  exact ⟨hw, key us w hw, a1, a2⟩
def svF (code : List Int) : Int := ((hisD code 0).1.1.getD (nxV code (hisD code 0).2 (hisD code 0).1.1.length).toNat zConfig).version
def svK (code : List Int) : Int := nxV code ((hisD code 0).2 + 1) 14
def upV (c : Config) : Config := ⟨c.version + 1, c.backends, c.vips⟩
def svAl (code : List Int) : List Config := if svK code = 0 then (hisD code 0).1.1.set 0 (upV ((hisD code 0).1.1.getD 0 zConfig)) else if svK code = 2 then [] else (hisD code 0).1.1
def svCs (code : List Int) : List Cmd := if svK code = 1 then (hisD code 0).1.2 ++ [cmdD code ((hisD code 0).2 + 1 + 1)] else (hisD code 0).1.2
def svA (code : List Int) : Int := if svK code = 1 then cmdS code ((hisD code 0).2 + 1 + 1) else (hisD code 0).2 + 1 + 1
def svN (code : List Int) : Int := pkV code (svA code) [svF code, svF code, svF code + 1, -1, 0]
theorem upV_lim {c : Config} {b : Nat} (h : limG b c) : limG b (upV c) := h
theorem sv_ok {code : List Int} (hb : okB code) : (svAl code).length ≤ 12 ∧ (∀ y ∈ svAl code, limG 1048576 y) ∧ (svCs code).length ≤ 12 ∧ -1 ≤ svN code ∧ svN code ≤ 1000001 ∧ 0 ≤ svF code ∧ svF code ≤ 1000000 := by
  obtain ⟨H, k2, k3, k4⟩ := hisD_ok hb (a := 0) (by omega)
  have hl := his_lim H
  have hll := H.ln
  have kx := nxV_bd hb (a := (hisD code 0).2) (by omega) (hisD code 0).1.1.length
  have hF : 0 ≤ svF code ∧ svF code ≤ 1000000 := cf_ver (H.cf _ (by omega))
  have hS := cmdS_bd code ((hisD code 0).2 + 1 + 1)
  have hA : 0 ≤ svA code := by unfold svA; split <;> omega
  have hN := pkV_all hb hA (l := [svF code, svF code, svF code + 1, -1, 0]) (p := fun x => -1 ≤ x ∧ x ≤ 1000001) (by simp) (fun x hx => by simp at hx; omega)
  refine ⟨?_, ?_, ?_, hN.1, hN.2, hF.1, hF.2⟩
  · unfold svAl
    split
    · rw [List.length_set]; omega
    split
    · simp
    · omega
  · unfold svAl
    split
    · intro y hy
      rcases List.mem_or_eq_of_mem_set hy with h | h
      · exact hl y h
      · rw [h]; exact upV_lim (getD_lim hl 0)
    split
    · intro y hy; cases hy
    · exact hl
  · unfold svCs
    split
    · simp only [List.length_append, List.length_singleton]; omega
    · omega
theorem serve_p {al : List Config} {cs : List Cmd} {n : Int} (h : (serveM al cs n).code = 0) : SvP al cs := by
  unfold serveM at h
  split at h
  · rename_i g; exact absurd h g
  · exact served_p (by omega)
theorem sv_his {code : List Int} (hb : okB code) (h : (serveM (svAl code) (svCs code) (svN code)).code = 0) (h1 : 1 < (svAl code).length) : HisP (svAl code) (svCs code) := by
  obtain ⟨H, k2, k3, k4⟩ := hisD_ok hb (a := 0) (by omega)
  have hll := H.ln
  have P := serve_p h
  have p1 := P.vs 1 h1
  have p3 := P.l3
  revert h1 p1 p3
  unfold svAl svCs
  by_cases e0 : svK code = 0
  · rw [if_pos e0, if_neg (by omega)]
    intro h1 p1 p3
    rw [List.length_set] at h1
    obtain ⟨s1, s2⟩ := H.st 0 (by omega)
    have hv := applyR_ver s1
    rw [s2] at hv
    have hv2 : ((hisD code 0).1.1.getD 1 zConfig).version = ((hisD code 0).1.1.getD 0 zConfig).version + 1 := hv
    have e1 : ((hisD code 0).1.1.set 0 (upV ((hisD code 0).1.1.getD 0 zConfig))).getD 1 zConfig = (hisD code 0).1.1.getD 1 zConfig := by
      rw [List.getD_eq_getElem?_getD, List.getElem?_set_ne (by decide), ← List.getD_eq_getElem?_getD]
    have e2 : ((hisD code 0).1.1.set 0 (upV ((hisD code 0).1.1.getD 0 zConfig))).getD 0 zConfig = upV ((hisD code 0).1.1.getD 0 zConfig) := getD_set_self (by omega) _ _
    rw [e1, e2] at p1
    have p4 : ((hisD code 0).1.1.getD 1 zConfig).version = ((hisD code 0).1.1.getD 0 zConfig).version + 1 + ((1 : Nat) : Int) := p1
    omega
  · rw [if_neg e0]
    by_cases e2 : svK code = 2
    · rw [if_pos e2]; intro h1; simp at h1
    · rw [if_neg e2]
      by_cases e1 : svK code = 1
      · rw [if_pos e1]
        intro h1 p1 p3
        simp only [List.length_append, List.length_singleton] at p3
        omega
      · rw [if_neg e1]
        intro _ _ _
        exact H
end Go.H
end
section
set_option maxRecDepth 100000
set_option maxHeartbeats 4000000
set_option cbv.maxSteps 4000000
set_option linter.unusedVariables false
set_option linter.unusedSimpArgs false
namespace Go.H
open Go Go.Proofs.Tryz
variable [Inv prog]
section
attribute [local go_sem] List.map_cons List.map_nil
theorem s_spec_l13Update (code : List Int) (hb : okB code) (al : List Config) (hl0 : 0 < al.length) (hl : al.length ≤ 100000) (hm : ∀ y ∈ al, limG 1048576 y) (cs : List Cmd) (hc : cs.length ≤ 100000) {a : Int}  (h : (0 ≤ a ∧ a ≤ 950000)) : SemX prog 79 [.one (.ptr 0 0), aT (.sl false 3 (al.map (eConfig false))), aT (.sl false 6 (cs.map eCmd))] [.var [.sl false 1 (code.map eI_u8), .int .i64 a]] [.agg (eUpdate true (updD code a al cs))] [.var [.sl false 1 (code.map eI_u8), .int .i64 (updS code a)]] := by
 refine goF [(90, ⟨some 1, none, none, none⟩)] [(10, 1, [32768], []), (10, 3, [1000000], [1000000]), (10, 4, [], [225280]), (10, 5, [122887, 225280, 77831], [229376, 122887, 225280, 77831]), (10, 7, [32768], [32768])] [] func79 ?_
 obtain ⟨ha, ha2⟩ := h
 have k0 := nxV_bd hb ha al.length
 have k1 := nxV_bd hb (a := a + 1 + 1) (by omega) al.length
 have hgx := hm _ (getD_mem zConfig (show (nxV code (a + 1 + 1) al.length).toNat < al.length by omega))
 have hgy := limG_mono (b := 2097152) (by omega) hgx
 have hmy : ∀ y ∈ al, limG 2097152 y := fun y hy => limG_mono (by omega) (hm y hy)
 have hto := up1_to code a al cs
 have hul := up1_lim (code := code) (a := a) (cs := cs) hm
 obtain ⟨⟨u1, u2, u3⟩, u4⟩ := hul
 have hu0 : (serveM al cs (al.getD (nxV code (a) al.length).toNat zConfig).version).update = up0 code a al cs := rfl
 have hA := hu0
 refine D ?_
 refine kRq false [1000000] [] [] (s_spec_l1Next code hb) ?_
 refine D ?_
 refine kR (s_spec_ServeFrom al (by omega) hmy cs (by omega) (al.getD (nxV code (a) al.length).toNat zConfig).version) ?_
 refine D ?_
 refine kRq false [1000000] [] [] (s_spec_l1Chance code hb) ?_
 refine D ?_
 refine cC (fun c0 => ?_) (fun c0 => ?_)
 · skip
   have hu1 : (fulU (al.getD (nxV code (a + 1 + 1) al.length).toNat zConfig)).update = up1 code a al cs := (if_pos (by simpa using c0)).symm
   have hua : ua1 code a = a + 1 + 1 + 1 := if_pos (by simpa using c0)
   have hA := And.intro hA (hu1)
   refine D ?_
   refine kRq false [1000000] [] [] (s_spec_l1Next code hb) ?_
   refine D ?_
   refine kR (s_spec_FullUpdate (al.getD (nxV code (a + 1 + 1) al.length).toNat zConfig) hgy) ?_
   refine D ?_
   refine kRq false [1000000] [] [] (s_spec_l1Next code hb) ?_
   refine D ?_
   refine cC (fun c1 => ?_) (fun c1 => ?_)
   · skip
     refine D ?_
     refine kRq false [1000000] [151552] [] (s_spec_l1Pick code hb [-1, 1, 1000001]) ?_
     refine D ?_
     refine E ?_
     simp [updD, up2, ua2, updS, hua, c1, eUpdate, eConfig, eCmd, eI_i64]
   · skip
     refine D ?_
     refine cC (fun c2 => ?_) (fun c2 => ?_)
     · skip
       refine D ?_
       refine kRq false [1000000] [188416] [] (s_spec_l1Pick code hb [-1, (up1 code a al cs).to_ + 1, 1000001]) ?_
       refine D ?_
       refine E ?_
       simp [updD, up2, ua2, updS, hua, c2, eUpdate, eConfig, eCmd, eI_i64]
     · skip
       refine D ?_
       refine cC (fun c3 => ?_) (fun c3 => ?_)
       · skip
         refine D ?_
         refine kDq false [1000000] [] [] (s_spec_l5BentCmd code hb) ?_
         refine D ?_
         refine E ?_
         simp [updD, up2, ua2, updS, hua, c3, eUpdate, eConfig, eCmd, eI_i64]
       · skip
         refine D ?_
         refine cC (fun c4 => ?_) (fun c4 => ?_)
         · skip
           refine D ?_
           refine E ?_
           simp [updD, up2, ua2, updS, hua, c4, eUpdate, eConfig, eCmd, eI_i64]
         · skip
           refine D ?_
           refine cC (fun c5 => ?_) (fun c5 => ?_)
           · skip
             refine D ?_
             refine kRq false [1000000] [] [] (s_spec_l5Bent code hb) ?_
             refine D ?_
             refine E ?_
             simp [updD, up2, ua2, updS, hua, c5, eUpdate, eConfig, eCmd, eI_i64]
           · skip
             refine D ?_
             refine E ?_
             simp [updD, up2, ua2, updS, hua, c1, c2, c3, c4, c5, eUpdate, eConfig, eCmd, eI_i64]
 · skip
   have hu1 : up0 code a al cs = up1 code a al cs := (if_neg (by simpa using c0)).symm
   have hua : ua1 code a = a + 1 + 1 := if_neg (by simpa using c0)
   have hA := And.intro hA (hu1)
   refine D ?_
   refine kRq false [1000000] [] [] (s_spec_l1Next code hb) ?_
   refine D ?_
   refine cC (fun c1 => ?_) (fun c1 => ?_)
   · skip
     refine D ?_
     refine kRq false [1000000] [151552] [] (s_spec_l1Pick code hb [-1, 1, 1000001]) ?_
     refine D ?_
     refine E ?_
     simp [updD, up2, ua2, updS, hua, c1, eUpdate, eConfig, eCmd, eI_i64]
   · skip
     refine D ?_
     refine cC (fun c2 => ?_) (fun c2 => ?_)
     · skip
       refine D ?_
       refine kRq false [1000000] [188416] [] (s_spec_l1Pick code hb [-1, (up1 code a al cs).to_ + 1, 1000001]) ?_
       refine D ?_
       refine E ?_
       simp [updD, up2, ua2, updS, hua, c2, eUpdate, eConfig, eCmd, eI_i64]
     · skip
       refine D ?_
       refine cC (fun c3 => ?_) (fun c3 => ?_)
       · skip
         refine D ?_
         refine kDq false [1000000] [] [] (s_spec_l5BentCmd code hb) ?_
         refine D ?_
         refine E ?_
         simp [updD, up2, ua2, updS, hua, c3, eUpdate, eConfig, eCmd, eI_i64]
       · skip
         refine D ?_
         refine cC (fun c4 => ?_) (fun c4 => ?_)
         · skip
           refine D ?_
           refine E ?_
           simp [updD, up2, ua2, updS, hua, c4, eUpdate, eConfig, eCmd, eI_i64]
         · skip
           refine D ?_
           refine cC (fun c5 => ?_) (fun c5 => ?_)
           · skip
             refine D ?_
             refine kRq false [1000000] [] [] (s_spec_l5Bent code hb) ?_
             refine D ?_
             refine E ?_
             simp [updD, up2, ua2, updS, hua, c5, eUpdate, eConfig, eCmd, eI_i64]
           · skip
             refine D ?_
             refine E ?_
             simp [updD, up2, ua2, updS, hua, c1, c2, c3, c4, c5, eUpdate, eConfig, eCmd, eI_i64]
end
theorem s_spec_DrawTakeMany (code : List Int) (hb : okB code) : SemX prog 28 [aT (.sl false 1 (code.map eI_u8))] [] [.agg (eWatch true (tyW code)), .one (.sl true 7 ((tyU code).map (eUpdate true)))] [] := by
 refine goF [(54, ⟨some 1, none, none, none⟩)] [] [(2, [1000000061440, 1000000061504])] func28 ?_
 obtain ⟨H, k2, k3, k4⟩ := hisD_ok hb (a := 0) (by omega)
 have hl := his_lim H
 have hll := H.ln
 obtain ⟨w1, w2, w3⟩ := wchD_lim hb (a := (hisD code 0).2) (by omega) hl
 obtain ⟨⟨wl1, wl2, wl3⟩, _, _⟩ := tyU_ok hb
 have htA : wchS code (hisD code 0).2 = tyA code := rfl
 have htW : wchD code (hisD code 0).2 (hisD code 0).1.1 = tyW code := rfl
 rw [htA] at w2 w3
 have k6 := nxV_bd hb (a := tyA code) (by omega) 6
 obtain ⟨al, hal⟩ : ∃ x, (hisD code 0).1.1 = x := ⟨_, rfl⟩
 obtain ⟨cs, hcs⟩ : ∃ x, (hisD code 0).1.2 = x := ⟨_, rfl⟩
 have htL : tyL code = tmL code (hisD code 0).1.1 (hisD code 0).1.2 (nxV code (tyA code) 6).toNat (tyA code + 1) [] := rfl
 rw [hal, hcs] at htL
 rw [hal] at hl htW hll
 rw [hcs] at hll k2
 have hA := And.intro hal (And.intro hcs (And.intro htA (htW)))
 refine D ?_
 refine kLay (s_spec_l1Source _ (by assumption)) ?_
 refine D ?_
 refine kRq false [49152] [] [] (s_spec_l13History code hb) ?_
 refine D ?_
 refine kRq false [49152] [] [] (s_spec_l13Watch code hb al (by omega) (by omega) hl) ?_
 refine D ?_
 refine kRq false [49152] [] [] (s_spec_l1Next code hb) ?_
 refine D ?_
 refine L (α := Nat × List Update × Int) (fun p => [(8, .ref 86016 0 p.2.1.length), (9, .int .i64 ((nxV code (tyA code) 6) - p.1))]) (fun p => [(49152, .var [.sl none 1 (code.map eI_u8), .int .i64 p.2.2]), (86016, .arr ⟨7, p.2.1.map (eUpdate true), 1, none⟩)]) (fun p => (nxV code (tyA code) 6).toNat - p.1) (fun p => p.1 ≤ (nxV code (tyA code) 6).toNat ∧ tyA code + 1 ≤ p.2.2 ∧ p.2.2 ≤ tyA code + 1 + 180 * p.1 ∧ p.2.1.length = p.1 ∧ tyL code = tmL code al cs ((nxV code (tyA code) 6).toNat - p.1) p.2.2 p.2.1) (0, [], tyA code + 1) [] (fun x0 hL => ?_) (by simp only [go_sem, hA] <;> and_intros <;> first | with_reducible exact rfl | (first | omega | exact rfl | (simp; done))) (by exact ⟨Nat.zero_le _, Int.le_refl _, by dsimp only; omega, rfl, htL⟩)
 obtain ⟨i, out, a_⟩ := x0
 obtain ⟨hi2, hA0, hA1, hol, htl⟩ := hL
 try dsimp only at *
 refine D ?_
 refine cC (fun c0 => ?_) (fun c0 => ?_)
 · skip
   have hus := updS_bd hb (a := a_) (by omega)
   refine D ?_
   refine kRq false [49152] [] [] (s_spec_l13Update code hb al (by omega) (by omega) hl cs (by omega)) ?_
   refine D ?_
   refine lp_next (i + 1, out ++ [updD code a_ al cs], updS code a_) [(86016,139264)] ?_ ?_ ?_
   · simp only [go_sem, hA] <;> and_intros <;> first | with_reducible exact rfl | (first | with_reducible exact rfl | omega | (refine int_eq ?_; omega) | (simp [eUpdate, eConfig]; done))
   · dsimp only
     have hus := updS_bd hb (a := a_) (by omega)
     refine ⟨by omega, by omega, by omega, by simp [hol], ?_⟩
     rw [htl, show (nxV code (tyA code) 6).toNat - i = ((nxV code (tyA code) 6).toNat - (i + 1)) + 1 by omega, tmL]
   · try dsimp only
     omega
 · skip
   obtain rfl : i = (nxV code (tyA code) 6).toNat := by omega
   rw [Nat.sub_self, tmL] at htl
   refine D ?_
   refine kRq false [49152] [] [] (s_spec_l1Chance code hb) ?_
   refine D ?_
   refine cC (fun c1 => ?_) (fun c1 => ?_)
   · skip
     refine D ?_
     refine E ?_
     have hu : tyU code = List.replicate 41 zUpdate := if_pos (by rw [htl]; simpa using c1)
     rw [hu]
     exact rfl
   · skip
     refine D ?_
     refine E ?_
     have hu : tyU code = out := by unfold tyU; rw [if_neg (by rw [htl]; simpa using c1), htl]
     simp [hu]
theorem s_impl_TakeMany (w : Watch) (hw : limG 2097152 w.config) (us : List Update) (hl : us.length ≤ 2097152) (hu : ∀ y ∈ us, limU 2097152 y) : SemX prog 29 [aS (eWatch false w), aT (.sl false 7 (us.map (eUpdate false)))] [] [.agg (eWatchResult true (takeMany w us))] [] := by
 refine goF [] [(6, 1, [12288], []), (6, 3, [12288], []), (6, 4, [], [114689, 114690]), (6, 6, [], [28672]), (6, 7, [28672], [28672])] [] func29 ?_
 refine D ?_
 refine kR (s_impl_WatchFault w hw) ?_
 refine D ?_
 refine cC (fun c0 => ?_) (fun c0 => ?_)
 · skip
   refine D ?_
   refine cT ?_
   refine D ?_
   refine E ?_
   have he : takeMany w us = badW 2 := by unfold takeMany; grind
   simp [he, badW, zWatch, zConfig]
 · skip
   refine D ?_
   refine cC (fun c1 => ?_) (fun c1 => ?_)
   · skip
     refine D ?_
     refine E ?_
     have he : takeMany w us = badW (watchFault w) := by unfold takeMany; grind
     simp [he, badW, zWatch, zConfig]
   · skip
     have hwf : watchFault w = 0 := by omega
     have hle : ¬ 40 < us.length := fun h => by simp [hwf] at c0; omega
     refine D ?_
     refine kD (s_impl_Config_copied w.config hw) ?_
     refine D ?_
     refine L (α := Nat × Watch) (fun p => [(31, .int .i64 p.1)]) (fun p => [(28672, .var [.bool p.2.ready, .int .i64 p.2.config.version, .ref 114689 0 p.2.config.backends.length, .ref 114690 0 p.2.config.vips.length]), (114689, .arr ⟨5, p.2.config.backends.map eBackend, 1, none⟩), (114690, .arr ⟨4, p.2.config.vips.map (eVip true), 1, none⟩)]) (fun p => us.length - p.1) (fun p => p.1 ≤ us.length ∧ watchFault p.2 = 0 ∧ takeAll us w = takeAll (us.drop p.1) p.2) (0, w) [] (fun x0 hL => ?_) (by simp only [go_sem] <;> and_intros <;> first | with_reducible exact rfl | (first | omega | exact rfl)) (by exact ⟨Nat.zero_le _, hwf, rfl⟩)
     obtain ⟨i, d⟩ := x0
     obtain ⟨hi2, hd0, hst⟩ := hL
     try dsimp only at *
     have hd1 : limG 2097152 d.config := limG_mono (by omega) (cf_l (watch_cf hd0))
     refine D ?_
     refine cC (fun c2 => ?_) (fun c2 => ?_)
     · skip
       have hui := hu _ (getD_mem zUpdate (show i < us.length by omega))
       refine D ?_
       refine kR (s_impl_TakeUpdate d hd1 (us.getD i zUpdate) hui) ?_
       refine D ?_
       refine cC (fun c3 => ?_) (fun c3 => ?_)
       · skip
         have htc : (takeU d (us.getD i zUpdate)).code = 0 := by omega
         have hA := htc
         refine D ?_
         refine lp_next (i + 1, (takeU d (us.getD i zUpdate)).watch) [(114689,155651),(114690,155652)] ?_ ?_ ?_
         · simp only [go_sem, hA] <;> and_intros <;> first | with_reducible exact rfl | (first | with_reducible exact rfl | omega | (simp; done))
         · dsimp only
           refine ⟨by omega, takeU_ok hd0 htc, ?_⟩
           rw [hst, takeAll_drop (by omega), if_pos htc]
         · try dsimp only
           omega
       · skip
         have htc : ¬ (takeU d (us.getD i zUpdate)).code = 0 := by omega
         refine D ?_
         refine lp_next (i + 1, d) [] ?_ ?_ ?_
         · simp only [go_sem] <;> and_intros <;> first | with_reducible exact rfl | (first | with_reducible exact rfl | omega | (simp; done))
         · dsimp only
           refine ⟨by omega, hd0, ?_⟩
           rw [hst, takeAll_drop (by omega), if_neg htc]
         · try dsimp only
           omega
     · skip
       obtain rfl : i = us.length := by omega
       refine D ?_
       refine E ?_
       have he : takeMany w us = ⟨0, d⟩ := by unfold takeMany; rw [if_neg (by omega), if_neg (by omega), hst, takeAll_end]
       simp [he, badW, zWatch, zConfig]
theorem s_spec_l13Empty (c : Config) (hx : limG 2097152 c) : SemX prog 102 [aT (.ptr (eConfig false c))] [] [rB (cfgZero c)] [] := by
 refine goF [] [] [] func102 ?_
 obtain ⟨hb, hv, hV⟩ := id hx
 refine D ?_
 refine E ?_
 first
 | exact trivial
 | simp only [go_sem, cfgZero]; done
 | try simp only [go_sem, cfgZero]
   first | rfl | (simp; done) | (simp [Bool.and_assoc]; done) | grind
theorem s_spec_WatchFault (w : Watch) (hw : limG 2097152 w.config) : SemX prog 68 [aS (eWatch false w)] [] [rI (watchFault w)] [] := by
 refine goF [] [] [] func68 ?_
 refine D ?_
 refine kR (s_spec_l5Fault w.config hw) ?_
 refine D ?_
 refine cC (fun c0 => ?_) (fun c0 => ?_)
 · skip
   refine D ?_
   refine E ?_
   first
   | exact trivial
   | unfold watchFault
     grind
 · skip
   refine D ?_
   refine kRg (s_spec_l13Empty w.config hw) ?_
   refine D ?_
   refine cC (fun c1 => ?_) (fun c1 => ?_)
   · skip
     refine D ?_
     refine E ?_
     first
     | exact trivial
     | unfold watchFault
       grind
   · skip
     refine D ?_
     refine E ?_
     first
     | exact trivial
     | unfold watchFault
       grind
theorem s_spec_UpdateFault (u : Update) (hu : limU 2097152 u) : SemX prog 69 [aS (eUpdate false u)] [] [rI (updateFault u)] [] := by
 refine goF [(100, ⟨some 1, none, none, none⟩)] [] [] func69 ?_
 have hcl := hu.2
 have hcf := hu.1
 refine D ?_
 refine kR (s_spec_l5Version _) ?_
 refine D ?_
 refine kRg (s_spec_l5Version _) ?_
 refine D ?_
 refine cC (fun c0 => ?_) (fun c0 => ?_)
 · skip
   refine D ?_
   refine E ?_
   first
   | exact trivial
   | unfold updateFault
     grind
 · skip
   have hfr : (0 ≤ u.from_ ∧ u.from_ ≤ 1000000) ∧ (0 ≤ u.to_ ∧ u.to_ ≤ 1000000) := by
     have h_ := c0
     simp [inR] at h_
     omega
   refine D ?_
   refine cC (fun c1 => ?_) (fun c1 => ?_)
   · skip
     refine D ?_
     refine cC (fun c2 => ?_) (fun c2 => ?_)
     · skip
       refine D ?_
       refine E ?_
       first
       | exact trivial
       | unfold updateFault
         grind
     · skip
       refine D ?_
       refine kR (s_spec_l5Fault u.config hcf) ?_
       refine D ?_
       refine cC (fun c3 => ?_) (fun c3 => ?_)
       · skip
         refine D ?_
         refine E ?_
         first
         | exact trivial
         | unfold updateFault
           grind
       · skip
         refine D ?_
         refine cC (fun c4 => ?_) (fun c4 => ?_)
         · skip
           refine D ?_
           refine E ?_
           first
           | exact trivial
           | unfold updateFault
             grind
         · skip
           refine D ?_
           refine E ?_
           first
           | exact trivial
           | unfold updateFault
             grind
   · skip
     refine D ?_
     refine kR (s_spec_l13Empty u.config hcf) ?_
     refine D ?_
     refine cC (fun c5 => ?_) (fun c5 => ?_)
     · skip
       refine D ?_
       refine E ?_
       first
       | exact trivial
       | unfold updateFault
         grind
     · skip
       refine D ?_
       refine cC (fun c6 => ?_) (fun c6 => ?_)
       · skip
         refine D ?_
         refine E ?_
         first
         | exact trivial
         | unfold updateFault
           grind
       · skip
         refine D ?_
         refine cC (fun c7 => ?_) (fun c7 => ?_)
         · skip
           refine D ?_
           refine E ?_
           first
           | exact trivial
           | unfold updateFault
             grind
         · skip
           refine D ?_
           refine L (α := Nat) (fun i => [(4, .int .i64 i)]) (fun i => []) (fun i => u.cmds.length - i) (fun i => i ≤ u.cmds.length ∧ scan (cmdBad u.cmds) u.cmds.length 0 = scan (cmdBad u.cmds) u.cmds.length i) 0 [] (fun i hL => ?_) (hi := by exact ⟨Nat.zero_le _, rfl⟩)
           obtain ⟨hi2, hie⟩ := hL
           refine D ?_
           refine cC (fun c8 => ?_) (fun c8 => ?_)
           · skip
             have hst := scan_lt (f := cmdBad u.cmds) (show i < u.cmds.length by omega)
             have hd : cmdBad u.cmds i = cmdFault (u.cmds.getD i zCmd) := rfl
             refine D ?_
             refine kR (s_spec_CmdFault (u.cmds.getD i zCmd)) ?_
             refine D ?_
             refine cC (fun c9 => ?_) (fun c9 => ?_)
             · skip
               refine D ?_
               refine E ?_
               first
               | exact trivial
               | unfold updateFault
                 grind
             · skip
               refine D ?_
               refine N (i+1) [] (hi := ?_) (hm := ?_)
               · refine ⟨by omega, ?_⟩
                 rw [hie, scan_lt (by omega), if_pos]
                 unfold cmdBad
                 grind
               · omega
           · skip
             have hs0 : scan (cmdBad u.cmds) u.cmds.length 0 = 0 := by rw [hie, scan_ge (by omega)]
             refine D ?_
             refine E ?_
             first
             | exact trivial
             | unfold updateFault
               grind
theorem s_spec_l13Steps (c : Config) (h0 : configFault c = 0) (xs : List Cmd) (hl : xs.length ≤ 2097152) : SemX prog 104 [aS (eConfig false c), aT (.sl false 6 (xs.map eCmd))] [] [.agg (eConfigResult true (stepsR xs c))] [] := by
 refine goF [] [(8, 1, [24576], []), (8, 6, [40961, 40962], [135170, 135171]), (8, 7, [24576], [24576])] [] func104 ?_
 have hx1 : limG 2097151 c := limG_mono (by omega) (cf_l h0)
 have hx : limG 2097152 c := limG_mono (by omega) (cf_l h0)
 refine D ?_
 refine kR (s_spec_l5Copy c hx) ?_
 refine D ?_
 refine L (α := Nat × Config) (fun p => [(6, .int .i64 p.1)]) (fun p => [(24576, .var [.int .i64 0, .int .i64 p.2.version, .ref 40961 0 p.2.backends.length, .ref 40962 0 p.2.vips.length]), (40961, .arr ⟨5, p.2.backends.map eBackend, 1, none⟩), (40962, .arr ⟨4, p.2.vips.map (eVip true), 1, none⟩)]) (fun p => xs.length - p.1) (fun p => p.1 ≤ xs.length ∧ configFault p.2 = 0 ∧ stepsR xs c = stepsR (xs.drop p.1) p.2) (0, c) [] (fun x0 hL => ?_) (by simp only [go_sem] <;> and_intros <;> first | with_reducible exact rfl | (first | omega | exact rfl)) (by exact ⟨Nat.zero_le _, h0, rfl⟩)
 obtain ⟨i, d⟩ := x0
 obtain ⟨hi2, hd0, hst⟩ := hL
 try dsimp only at *
 have hd1 : limG 2097151 d := limG_mono (by omega) (cf_l hd0)
 have hdK := cf_ok hd0
 refine D ?_
 refine cC (fun c0 => ?_) (fun c0 => ?_)
 · skip
   refine D ?_
   refine kR (s_spec_CmdFault (xs.getD i zCmd)) ?_
   refine D ?_
   refine cC (fun c1 => ?_) (fun c1 => ?_)
   · skip
     refine D ?_
     refine E ?_
     have he : stepsR xs c = badC (cmdFault (xs.getD i zCmd)) := by rw [hst, stepsR_drop (by omega), if_pos (by omega)]
     simp [he, badC, zConfig]
   · skip
     have hc1 : cmdFault (xs.getD i zCmd) = 0 := by omega
     refine D ?_
     refine kD (s_spec_l5Apply d hd1 hdK (xs.getD i zCmd) hc1) ?_
     refine D ?_
     refine cC (fun c2 => ?_) (fun c2 => ?_)
     · skip
       refine D ?_
       refine E ?_
       have he : stepsR xs c = (applyR d (xs.getD i zCmd)) := by rw [hst, stepsR_drop (by omega), if_neg (by omega), if_pos (by omega), ← applyR_bad (by omega)]
       simp [he]
     · skip
       have hc2 : (applyR d (xs.getD i zCmd)).code = 0 := by omega
       have hA := hc2
       refine D ?_
       refine lp_next (i + 1, (applyR d (xs.getD i zCmd)).config) [(40961,135170),(40962,135171)] ?_ ?_ ?_
       · simp only [go_sem, hA] <;> and_intros <;> first | with_reducible exact rfl | (first | with_reducible exact rfl | omega | (simp; done))
       · dsimp only
         refine ⟨by omega, p_fault (applyR_p hdK hc1 (by omega)), ?_⟩
         rw [hst, stepsR_drop (by omega), if_neg (by omega), if_neg (by omega)]
       · try dsimp only
         omega
 · skip
   obtain rfl : i = xs.length := by omega
   refine D ?_
   refine E ?_
   have he : stepsR xs c = ⟨0, d⟩ := by rw [hst, stepsR_end]
   simp [he]
theorem s_spec_l13Take (w : Watch) (u : Update) (hwf : watchFault w = 0) (huf : updateFault u = 0) (hcl : u.cmds.length ≤ 2097152) : SemX prog 70 [aS (eWatch false w), aS (eUpdate false u)] [] [.agg (eWatchResult true (takeW w u))] [] := by
 refine goF [] [] [] func70 ?_
 refine D ?_
 refine cC (fun c0 => ?_) (fun c0 => ?_)
 · skip
   have hcc : limG 2097152 u.config := limG_mono (by omega) (cf_l (upd_cf huf c0))
   refine D ?_
   refine cC (fun c1 => ?_) (fun c1 => ?_)
   · skip
     refine D ?_
     refine E ?_
     have he : takeW w u = badW 9 := by unfold takeW; grind
     simp [he, badW, zWatch, zConfig]
   · skip
     refine D ?_
     refine kR (s_spec_l5Copy u.config hcc) ?_
     refine D ?_
     refine E ?_
     have he : takeW w u = ⟨0, ⟨true, u.config⟩⟩ := by unfold takeW; grind
     simp [he, badW, zWatch, zConfig]
 · skip
   refine D ?_
   refine cC (fun c2 => ?_) (fun c2 => ?_)
   · skip
     refine D ?_
     refine E ?_
     have he : takeW w u = badW 10 := by unfold takeW; grind
     simp [he, badW, zWatch, zConfig]
   · skip
     refine D ?_
     refine cC (fun c3 => ?_) (fun c3 => ?_)
     · skip
       refine D ?_
       refine E ?_
       have he : takeW w u = badW 9 := by unfold takeW; grind
       simp [he, badW, zWatch, zConfig]
     · skip
       refine D ?_
       refine cC (fun c4 => ?_) (fun c4 => ?_)
       · skip
         refine D ?_
         refine E ?_
         have he : takeW w u = badW 4 := by unfold takeW; grind
         simp [he, badW, zWatch, zConfig]
       · skip
         refine D ?_
         refine kR (s_spec_l13Steps w.config (watch_cf hwf) u.cmds hcl) ?_
         refine D ?_
         refine cC (fun c5 => ?_) (fun c5 => ?_)
         · skip
           refine D ?_
           refine E ?_
           have he : takeW w u = badW (stepsR u.cmds w.config).code := by unfold takeW; grind
           simp [he, badW, zWatch, zConfig]
         · skip
           refine D ?_
           refine E ?_
           have he : takeW w u = ⟨0, ⟨true, (stepsR u.cmds w.config).config⟩⟩ := by unfold takeW; grind
           simp [he, badW, zWatch, zConfig]
theorem s_spec_TakeUpdate (w : Watch) (hw : limG 2097152 w.config) (u : Update) (hu : limU 2097152 u) : SemX prog 24 [aS (eWatch false w), aS (eUpdate false u)] [] [.agg (eWatchResult true (takeU w u))] [] := by
 refine goF [] [] [] func24 ?_
 refine D ?_
 refine kR (s_spec_WatchFault w hw) ?_
 refine D ?_
 refine cC (fun c0 => ?_) (fun c0 => ?_)
 · skip
   refine D ?_
   refine E ?_
   have he : takeU w u = badW (watchFault w) := by unfold takeU; grind
   simp [he, badW, zWatch, zConfig]
 · skip
   have hwf : watchFault w = 0 := by omega
   refine D ?_
   refine kR (s_spec_UpdateFault u hu) ?_
   refine D ?_
   refine cC (fun c1 => ?_) (fun c1 => ?_)
   · skip
     refine D ?_
     refine E ?_
     have he : takeU w u = badW (updateFault u) := by unfold takeU; grind
     simp [he, badW, zWatch, zConfig]
   · skip
     have huf : updateFault u = 0 := by omega
     refine D ?_
     refine kR (s_spec_l13Take w u hwf huf hu.2) ?_
     refine D ?_
     refine E ?_
     have he : takeU w u = takeW w u := by unfold takeU; grind
     simp [he, badW, zWatch, zConfig]
theorem s_spec_TakeMany (w : Watch) (hw : limG 2097152 w.config) (us : List Update) (hl : us.length ≤ 2097152) (hu : ∀ y ∈ us, limU 2097152 y) : SemX prog 30 [aS (eWatch false w), aT (.sl false 7 (us.map (eUpdate false)))] [] [.agg (eWatchResult true (takeMany w us))] [] := by
 refine goF [] [(6, 1, [12288], []), (6, 3, [12288], []), (6, 4, [], [98305, 98306]), (6, 7, [], [28672]), (6, 8, [28672], [28672]), (10, 1, [28672], []), (10, 6, [98305, 98306], [159747, 159748]), (10, 7, [], [36864]), (10, 8, [36864], [36864])] [] func30 ?_
 refine D ?_
 refine kR (s_spec_WatchFault w hw) ?_
 refine D ?_
 refine cC (fun c0 => ?_) (fun c0 => ?_)
 · skip
   refine D ?_
   refine E ?_
   have he : takeMany w us = badW (watchFault w) := by unfold takeMany; grind
   simp [he, badW, zWatch, zConfig]
 · skip
   have hwf : watchFault w = 0 := by omega
   refine D ?_
   refine cC (fun c1 => ?_) (fun c1 => ?_)
   · skip
     refine D ?_
     refine E ?_
     have he : takeMany w us = badW 2 := by unfold takeMany; grind
     simp [he, badW, zWatch, zConfig]
   · skip
     refine D ?_
     refine kD (s_spec_l5Copy w.config hw) ?_
     refine D ?_
     refine L (α := Nat × Watch) (fun p => [(7, .int .i64 p.1)]) (fun p => [(28672, .var [.int .i64 0, .bool p.2.ready, .int .i64 p.2.config.version, .ref 98305 0 p.2.config.backends.length, .ref 98306 0 p.2.config.vips.length]), (98305, .arr ⟨5, p.2.config.backends.map eBackend, 1, none⟩), (98306, .arr ⟨4, p.2.config.vips.map (eVip true), 1, none⟩)]) (fun p => us.length - p.1) (fun p => p.1 ≤ us.length ∧ watchFault p.2 = 0 ∧ takeAll us w = takeAll (us.drop p.1) p.2) (0, w) [] (fun x0 hL => ?_) (by simp only [go_sem] <;> and_intros <;> first | with_reducible exact rfl | (first | omega | exact rfl)) (by exact ⟨Nat.zero_le _, hwf, rfl⟩)
     obtain ⟨i, d⟩ := x0
     obtain ⟨hi2, hd0, hst⟩ := hL
     try dsimp only at *
     have hd1 : limG 2097152 d.config := limG_mono (by omega) (cf_l (watch_cf hd0))
     refine D ?_
     refine cC (fun c2 => ?_) (fun c2 => ?_)
     · skip
       have hui := hu _ (getD_mem zUpdate (show i < us.length by omega))
       refine D ?_
       refine kD (s_spec_TakeUpdate d hd1 (us.getD i zUpdate) hui) ?_
       refine D ?_
       refine cC (fun c3 => ?_) (fun c3 => ?_)
       · skip
         have htc : (takeU d (us.getD i zUpdate)).code = 0 := by omega
         have hA := htc
         refine D ?_
         refine lp_next (i + 1, (takeU d (us.getD i zUpdate)).watch) [(98305,159747),(98306,159748)] ?_ ?_ ?_
         · simp only [go_sem, hA] <;> and_intros <;> first | with_reducible exact rfl | (first | with_reducible exact rfl | omega | (simp; done))
         · dsimp only
           refine ⟨by omega, takeU_ok hd0 htc, ?_⟩
           rw [hst, takeAll_drop (by omega), if_pos htc]
         · try dsimp only
           omega
       · skip
         have htc : ¬ (takeU d (us.getD i zUpdate)).code = 0 := by omega
         refine D ?_
         refine lp_next (i + 1, d) [] ?_ ?_ ?_
         · simp only [go_sem] <;> and_intros <;> first | with_reducible exact rfl | (first | with_reducible exact rfl | omega | (simp; done))
         · dsimp only
           refine ⟨by omega, hd0, ?_⟩
           rw [hst, takeAll_drop (by omega), if_neg htc]
         · try dsimp only
           omega
     · skip
       obtain rfl : i = us.length := by omega
       refine D ?_
       refine E ?_
       have he : takeMany w us = ⟨0, d⟩ := by unfold takeMany; rw [if_neg (by omega), if_neg (by omega), hst, takeAll_end]
       simp [he, badW, zWatch, zConfig]
theorem s_laws_FnWatches (code : List Int) (hc : code.length ≤ 9223372036854775807) (hbb : ∀ b ∈ code, 0 ≤ b ∧ b ≤ 255) : SemX prog 6 [aT (.sl false 1 (code.map eI_u8))] [] [rB true] [] := by
 refine goF [(76, ⟨none, none, some (54, true), none⟩), (152, ⟨none, none, some (54, true), none⟩), (172, ⟨none, none, some (54, true), none⟩)] [(6, 0, [16384], []), (6, 2, [], [98307, 98308]), (6, 5, [24576], []), (10, 0, [16384], []), (10, 5, [], [163843, 163844]), (10, 6, [], [32768]), (10, 7, [32768], [32768]), (11, 1, [32768], []), (11, 5, [32768], []), (11, 11, [32768], []), (11, 16, [16384], []), (11, 21, [32768], []), (11, 24, [16384], []), (11, 32, [32768], []), (11, 42, [32768], []), (11, 47, [], [360451, 360452]), (13, 1, [24576], []), (13, 2, [73731, 73732], []), (13, 8, [24576], []), (13, 11, [16384], []), (13, 17, [24576], []), (13, 20, [16384], []), (13, 28, [24576], []), (13, 29, [16384], []), (13, 31, [], [507907, 507908])] [(3, [1000000053250, 1000000053251, 1000000053312]), (10, [1000000163843, 1000000163844])] func6 ?_
 refine D ?_
 refine kR (s_laws_lwBig code hc) ?_
 refine D ?_
 refine cC (fun c0 => ?_) (fun c0 => ?_)
 · skip
   refine D ?_
   refine E ?_
   first
   | exact trivial
   | first | (simp_all; done) | grind
 · skip
   have hb : okB code := ⟨by simp at c0; omega, hbb⟩
   obtain ⟨hwl, hyl, hyu⟩ := tyU_ok hb
   obtain ⟨w, hww⟩ : ∃ x, tyW code = x := ⟨_, rfl⟩
   obtain ⟨us, huu⟩ : ∃ x, tyU code = x := ⟨_, rfl⟩
   rw [hww] at hwl
   rw [huu] at hyl hyu
   have hw2 : limG 2097152 w.config := limG_mono (by omega) hwl
   have hyv : ∀ y ∈ us, limU 2097152 y := fun y hy => ⟨limG_mono (by omega) (hyu y hy).1, Nat.le_trans (hyu y hy).2 (by omega)⟩
   have hA := And.intro hww (huu)
   refine D ?_
   refine kR (s_spec_DrawTakeMany code hb) ?_
   refine D ?_
   refine kR (s_impl_TakeMany w hw2 us (by omega) hyv) ?_
   refine D ?_
   refine cC (fun c1 => ?_) (fun c1 => ?_)
   · skip
     refine D ?_
     refine kD (s_spec_TakeMany w hw2 us (by omega) hyv) ?_
     refine D ?_
     refine E ?_
     first
     | exact trivial
     | first | (simp_all; done) | grind
   · skip
     have hrc : (takeMany w us).code = 0 := by omega
     obtain ⟨hwf, hmf, hmv, hmr⟩ := take_many hrc
     have hml : limG 2097152 (takeMany w us).watch.config := limG_mono (by omega) (cf_l (watch_cf hmf))
     have hA := And.intro hA (And.intro hrc (hmf))
     refine D ?_
     refine L (α := Nat) (fun x => [(6, .int .i64 x)]) (fun x => []) (fun x => us.length - x) (fun x => x ≤ us.length) 0 [] (fun x hI => ?_)
     refine D ?_
     refine cC (fun c2 => ?_) (fun c2 => ?_)
     · skip
       have htl : limG 2097152 (takeU w (us.getD x zUpdate)).watch.config := limG_mono (by omega) (takeU_lim w (us.getD x zUpdate))
       have hto := fun h => take_on (w := w) (u := us.getD x zUpdate) h
       refine D ?_
       refine kD (s_impl_TakeUpdate w hw2 (us.getD x zUpdate) (hyv _ (getD_mem zUpdate (by omega)))) ?_
       refine D ?_
       refine kDg (s_impl_WatchFault (takeU w (us.getD x zUpdate)).watch htl) ?_
       refine D ?_
       refine DW_callGN (by kernel_rfl) (SemX_shr (rs2 := [.agg (eWatchResult false (takeU (takeU w (us.getD x zUpdate)).watch (us.getD x zUpdate)))]) (s_impl_TakeUpdate (takeU w (us.getD x zUpdate)).watch htl (us.getD x zUpdate) (hyv _ (getD_mem zUpdate (by omega)))) (by simp [TV.shrs, TV.shr, T.shrL, T.shr, shrR_Backend, shrR_Vip, shrR_Session, shrR_Config, shrR_Cmd, shrR_Update, eMachineResult, eWatchResult, eUpdateResult])) false rfl rfl (by simp only [go_sem, hA]; exact rfl) (fun _ => (by simp only [go_sem, hA] <;> and_intros <;> first | with_reducible exact rfl | omega | with_reducible trivial | (intros; simp_all; done) | grind)) (by simp only [go_sem, hA]; exact rfl) ?_
       refine D ?_
       refine cC (fun c3 => ?_) (fun c3 => ?_)
       · skip
         exfalso
         obtain ⟨q1, q2⟩ := c3
         obtain ⟨t1, t2, t3, t4, t5⟩ := hto q1
         rw [t1, t2, t3, t5] at q2
         grind
       · skip
         refine D ?_
         exact N (x+1) []
     · skip
       refine D ?_
       refine kD (s_impl_WatchFault (takeMany w us).watch hml) ?_
       refine D ?_
       refine DW_callGN (by kernel_rfl) (SemX_shr (rs2 := [.agg (eWatchResult false (takeMany w us))]) (s_spec_TakeMany w hw2 us (by omega) hyv) (by simp [TV.shrs, TV.shr, T.shrL, T.shr, shrR_Backend, shrR_Vip, shrR_Session, shrR_Config, shrR_Cmd, shrR_Update, eMachineResult, eWatchResult, eUpdateResult])) false rfl rfl (by simp only [go_sem, hA]; exact rfl) (fun _ => (by simp only [go_sem, hA] <;> and_intros <;> first | with_reducible exact rfl | omega | with_reducible trivial | (intros; simp_all; done) | grind)) (by simp only [go_sem, hA]; exact rfl) ?_
       refine D ?_
       refine E ?_
       first
       | exact trivial
       | first | (simp_all; done) | grind
end Go.H
end
