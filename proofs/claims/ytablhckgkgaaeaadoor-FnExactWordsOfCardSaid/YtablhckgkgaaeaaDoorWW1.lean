/- What the functions that the law reaches compute, each by its code, against pure functions. Conditions: those that each theorem states. -/
import Derived.Test.YtablhckgkgaaeaaDoorWH3
import Derived.Lib.SplitLaws
import Derived.Test.YtablhckgkgaaeaaDoorProg
import Derived.KernelRfl
import Derived.Shelf.Strings.Split
section
set_option linter.unusedSimpArgs false
namespace Go.H
open Go
def cpT : Dep → T → Prop
  | none, t => t.solid = true
  | some _, t => t.flat = true
def cpL (d : Dep) : List T → Prop
  | [] => True
  | t :: ts => cpT d t ∧ cpL d ts
theorem cpL_iff {d : Dep} : ∀ {r : List T}, cpL d r ↔ ∀ t ∈ r, cpT d t
  | [] => by simp [cpL]
  | t :: ts => by simp [cpL, cpL_iff (r := ts)]
theorem cpRows_cons (d : Dep) (r : List T) (rs : List (List T)) : cpRows d (r :: rs) = (cpL d r ∧ cpRows d rs) := by
  rw [eq_iff_iff, cpL_iff]
  cases d <;> simp [cpRows, cpT]
theorem cpRows_nil (d : Dep) : cpRows d [] = True := by
  cases d <;> simp [cpRows]
attribute [go_sem] cpRows_cons cpRows_nil cpL cpT T.solid T.flat
theorem cpRowsN_map {α : Type} (f : α → List T) (h : ∀ x, ∀ t ∈ f x, t.solid = true) (xs : List α) : cpRows none (xs.map f) = True := by
  rw [eq_iff_iff]
  unfold cpRows
  simp only [List.mem_map, iff_true]
  rintro r ⟨x, _, rfl⟩ t ht
  exact h x t ht
theorem getD_map_ {α : Type} (f : α → List T) (xs : List α) (i : Nat) (d : α) : (xs.map f).getD i (f d) = f (xs.getD i d) := by
  simp only [List.getD_eq_getElem?_getD, List.getElem?_map]
  cases xs[i]? <;> rfl
theorem noShR_map {α : Type} (f : α → List T) (h : ∀ x, T.noShL (f x)) (xs : List α) : T.noShR (xs.map f) = True := by
  rw [eq_iff_iff, T.noShR_iff]
  simp only [List.mem_map, forall_exists_index, and_imp, forall_apply_eq_imp_iff₂, h, implies_true]
theorem roRows_map {α : Type} (f g : α → List T) (h : ∀ x, (f x).map T.ro = g x) (xs : List α) : roRows (xs.map f) = xs.map g := by
  simp only [roRows, List.map_map]
  exact List.map_congr_left fun x _ => h x
theorem cpRows_map {α : Type} (f : α → List T) (h : ∀ x, ∀ t ∈ f x, t.flat = true) (d : Dep) (xs : List α) : cpRows d (xs.map f) = True := by
  rw [eq_iff_iff]
  unfold cpRows
  cases d
  · simp only [List.mem_map, iff_true]
    rintro r ⟨x, _, rfl⟩ t ht
    exact T.flat_solid (h x t ht)
  · simp only [List.mem_map, iff_true]
    rintro r ⟨x, _, rfl⟩ t ht
    exact h x t ht
def eI_i64 (n : Int) : List T := [.int .i64 n]
def zI_i64 : Int := 0
def dI_i64 : List T := eI_i64 zI_i64
theorem getD_I_i64 (xs : List Int) (i : Nat) : (xs.map eI_i64).getD i dI_i64 = eI_i64 (xs.getD i zI_i64) := getD_map_ ..
theorem shrR_I_i64 (xs : List Int) : T.shrR (xs.map eI_i64) = xs.map eI_i64 := T.shrR_map _ _ (fun _ => rfl) xs
theorem noShR_I_i64 (xs : List Int) : T.noShR (xs.map eI_i64) = True := noShR_map _ (fun _ => by simp [eI_i64, T.noShL, T.noSh]) xs
theorem roRows_I_i64 (xs : List Int) : roRows (xs.map eI_i64) = xs.map eI_i64 := roRows_map _ _ (fun _ => rfl) xs
theorem cpRows_I_i64 (d : Dep) (xs : List Int) : cpRows d (xs.map eI_i64) = True := cpRows_map _ (fun _ => by simp [eI_i64, T.flat]) d xs
attribute [go_sem] getD_I_i64 shrR_I_i64 noShR_I_i64 roRows_I_i64 cpRows_I_i64
theorem dropd_I_i64 : List.drop 1 dI_i64 = [] := rfl
theorem tm_I_i64 : tm dI_i64 = [.int .i64 0] := rfl
attribute [go_sem] dropd_I_i64 tm_I_i64
def eI_u8 (n : Int) : List T := [.int .u8 n]
def zI_u8 : Int := 0
def dI_u8 : List T := eI_u8 zI_u8
theorem getD_I_u8 (xs : List Int) (i : Nat) : (xs.map eI_u8).getD i dI_u8 = eI_u8 (xs.getD i zI_u8) := getD_map_ ..
theorem shrR_I_u8 (xs : List Int) : T.shrR (xs.map eI_u8) = xs.map eI_u8 := T.shrR_map _ _ (fun _ => rfl) xs
theorem noShR_I_u8 (xs : List Int) : T.noShR (xs.map eI_u8) = True := noShR_map _ (fun _ => by simp [eI_u8, T.noShL, T.noSh]) xs
theorem roRows_I_u8 (xs : List Int) : roRows (xs.map eI_u8) = xs.map eI_u8 := roRows_map _ _ (fun _ => rfl) xs
theorem cpRows_I_u8 (d : Dep) (xs : List Int) : cpRows d (xs.map eI_u8) = True := cpRows_map _ (fun _ => by simp [eI_u8, T.flat]) d xs
attribute [go_sem] getD_I_u8 shrR_I_u8 noShR_I_u8 roRows_I_u8 cpRows_I_u8
theorem dropd_I_u8 : List.drop 1 dI_u8 = [] := rfl
theorem tm_I_u8 : tm dI_u8 = [.int .u8 0] := rfl
attribute [go_sem] dropd_I_u8 tm_I_u8
def eS (n : ByteArray) : List T := [.str n]
def zS : ByteArray := ByteArray.empty
def dS : List T := eS zS
theorem getD_S (xs : List ByteArray) (i : Nat) : (xs.map eS).getD i dS = eS (xs.getD i zS) := getD_map_ ..
theorem shrR_S (xs : List ByteArray) : T.shrR (xs.map eS) = xs.map eS := T.shrR_map _ _ (fun _ => rfl) xs
theorem noShR_S (xs : List ByteArray) : T.noShR (xs.map eS) = True := noShR_map _ (fun _ => by simp [eS, T.noShL, T.noSh]) xs
theorem roRows_S (xs : List ByteArray) : roRows (xs.map eS) = xs.map eS := roRows_map _ _ (fun _ => rfl) xs
theorem cpRows_S (d : Dep) (xs : List ByteArray) : cpRows d (xs.map eS) = True := cpRows_map _ (fun _ => by simp [eS, T.flat]) d xs
attribute [go_sem] getD_S shrR_S noShR_S roRows_S cpRows_S
theorem dropd_S : List.drop 1 dS = [] := rfl
theorem tm_S : tm dS = [.str ByteArray.empty] := rfl
attribute [go_sem] dropd_S tm_S
structure WordsResult where
  code : Int
  words : List ByteArray
def eWordsResult (o : Bool) (x : WordsResult) : List T := [.int .i64 x.code, .sl o 1 (x.words.map eS)]
def zWordsResult : WordsResult := ⟨0, []⟩
def dWordsResult (o : Bool) : List T := eWordsResult o zWordsResult
theorem getD_WordsResult (o : Bool) (xs : List WordsResult) (i : Nat) : (xs.map (eWordsResult o)).getD i (dWordsResult o) = eWordsResult o (xs.getD i zWordsResult) := getD_map_ ..
theorem shrR_WordsResult (o : Bool) (xs : List WordsResult) : T.shrR (xs.map (eWordsResult o)) = xs.map (eWordsResult false) := T.shrR_map _ _ (fun x => by simp only [eWordsResult, T.shrL, T.shr, shrR_S]) xs
theorem noShR_WordsResult (xs : List WordsResult) : T.noShR (xs.map (eWordsResult true)) = True := noShR_map _ (fun _ => by simp [eWordsResult, T.noShL, T.noSh, noShR_S]) xs
theorem cpRows_WordsResult (o : Bool) (xs : List WordsResult) : cpRows none (xs.map (eWordsResult o)) = True := cpRowsN_map _ (fun _ => by simp [eWordsResult, T.solid]) xs
attribute [go_sem] getD_WordsResult shrR_WordsResult noShR_WordsResult cpRows_WordsResult
theorem dropd_WordsResult (o : Bool) : List.drop 2 (dWordsResult o) = [] := rfl
theorem tm_WordsResult : tm (dWordsResult true) = [.int .i64 0, .sl true 1 []] := rfl
attribute [go_sem] dropd_WordsResult tm_WordsResult
def qWordsResult (x : WordsResult) : Prop := x.words.length ≤ 9223372036854775807
attribute [go_sem] eI_i64 eI_u8 eS eWordsResult
end Go.H
end
section
set_option linter.unusedVariables false
set_option linter.unusedSimpArgs false
namespace Go.H
open Go
def b32 : ByteArray := ⟨#[32]⟩
def at32 (s : ByteArray) (i : Nat) : Bool := decide (((s.data.getD i 0).toNat : Int) = 32)
def cutS (s : ByteArray) : Nat → List ByteArray × Nat
  | 0 => ([], 0)
  | i + 1 => if i = s.size ∨ at32 s i = true then ((cutS s i).1 ++ [s.extract (cutS s i).2 i], i + 1) else cutS s i
noncomputable def pieces (s : ByteArray) : List ByteArray := Lib.splitB b32 0 (Lib.countB s b32) s
theorem ixb_miss {c : UInt8} : ∀ {l : List UInt8}, Lib.indexByte l c = -1 → ∀ j : Nat, l[j]? ≠ some c
  | [], _, j => by simp
  | b :: l, h, j => by
    unfold Lib.indexByte at h
    split at h
    · cases h
    · rename_i hb
      have hl : Lib.indexByte l c = -1 := by
        have := Lib.indexByte_ge l c
        split at h
        · rename_i h2; simpa using h2
        · omega
      cases j with
      | zero => simpa using hb
      | succ j => simpa using ixb_miss hl j
theorem ixb_hit {c : UInt8} : ∀ {l : List UInt8} {m : Nat}, Lib.indexByte l c = m → l[m]? = some c ∧ ∀ j, j < m → l[j]? ≠ some c
  | [], m, h => by
    simp only [Lib.indexByte] at h
    omega
  | b :: l, m, h => by
    unfold Lib.indexByte at h
    split at h
    · rename_i hb
      obtain rfl : m = 0 := by omega
      exact ⟨by simpa using hb, fun j hj => by omega⟩
    · rename_i hb
      split at h
      · omega
      · rename_i h2
        have hge := Lib.indexByte_ge l c
        have h3 : ¬ Lib.indexByte l c = -1 := by simpa using h2
        obtain ⟨k, hk⟩ : ∃ k : Nat, Lib.indexByte l c = k := ⟨(Lib.indexByte l c).toNat, by omega⟩
        obtain rfl : m = k + 1 := by omega
        obtain ⟨h4, h5⟩ := ixb_hit hk
        refine ⟨by simpa using h4, fun j hj => ?_⟩
        cases j with
        | zero => simpa using hb
        | succ j => simpa using h5 j (by omega)
theorem at32_iff {s : ByteArray} {i : Nat} : at32 s i = true ↔ s.data.toList[i]? = some 32 := by
  unfold at32
  rw [decide_eq_true_eq, Array.getD_eq_getD_getElem?, Array.getElem?_toList]
  cases h : s.data[i]? with
  | none => simp
  | some b =>
    simp only [Option.getD_some, Option.some.injEq]
    constructor
    · intro e
      have : b.toNat = 32 := by omega
      exact UInt8.toNat_inj.1 this
    · intro e
      subst e
      rfl
theorem cutS_stay {s : ByteArray} {f : Nat} (hf : (cutS s f).2 = f) : ∀ (d : Nat), f + d ≤ s.size → (∀ j, f ≤ j → j < f + d → at32 s j = false) → cutS s (f + d) = cutS s f
  | 0, _, _ => rfl
  | d + 1, hd, hno => by
    have ih := cutS_stay hf d (by omega) fun j h1 h2 => hno j h1 (by omega)
    rw [show f + (d + 1) = f + d + 1 by omega, cutS, if_neg, ih]
    rintro (h | h)
    · omega
    · rw [hno (f + d) (by omega) (by omega)] at h; cases h
theorem at_tail {s : ByteArray} {f j : Nat} (hf : f ≤ s.size) : (s.extract f s.size).data.toList[j]? = s.data.toList[f + j]? := by
  have e : (s.extract f s.size).data.toList = (s.data.toList.take s.size).drop f := by
    rw [ByteArray.data_extract, Array.toList_extract, List.extract_eq_take_drop]
    rw [List.drop_take]
  rw [e, List.getElem?_drop, List.getElem?_take]
  split
  · rfl
  · rename_i h
    have hl : s.data.toList.length = s.size := rfl
    rw [List.getElem?_eq_none (by omega)]
theorem cut_from {s : ByteArray} : ∀ (k f : Nat), s.size - f ≤ k → f ≤ s.size → (cutS s f).2 = f → (cutS s (s.size + 1)).1 = (cutS s f).1 ++ pieces (s.extract f s.size) := by
  intro k
  induction k with
  | zero =>
    intro f hk hf h2
    obtain rfl : f = s.size := by omega
    rw [cutS, if_pos (.inl rfl), h2]
    have hm : Lib.indexB (s.extract s.size s.size) b32 = -1 := by
      have e0 : (s.extract s.size s.size).data.toList = [] := by rw [ByteArray.data_extract, Array.toList_extract, List.extract_eq_take_drop, Nat.sub_self, List.take_zero]
      show Lib.index (s.extract s.size s.size).data.toList _ = -1
      rw [e0]
      rfl
    unfold pieces
    rw [Lib.splitB_miss _ _ _ _ hm]
  | succ k ih =>
    intro f hk hf h2
    have hone : Lib.indexB (s.extract f s.size) b32 = Lib.indexByte (s.extract f s.size).data.toList 32 := Lib.one _ b32 rfl
    rcases Lib.indexB_cases (s.extract f s.size) b32 with hm | ⟨m, hm, hroom⟩
    · have hno := ixb_miss (hone ▸ hm)
      have hst := cutS_stay h2 (s.size - f) (by omega) fun j h1 h3 => by
        cases h : at32 s j with
        | false => rfl
        | true =>
          exfalso
          have h4 := at32_iff.1 h
          have h5 := hno (j - f)
          rw [at_tail hf, show f + (j - f) = j by omega] at h5
          exact h5 h4
      rw [show f + (s.size - f) = s.size by omega] at hst
      rw [cutS, if_pos (.inl rfl), hst, h2]
      unfold pieces
      rw [Lib.splitB_miss _ _ _ _ hm]
    · have hh := ixb_hit (hone ▸ hm)
      have hts : (s.extract f s.size).size = s.size - f := by rw [ByteArray.size_extract]; omega
      have hb1 : b32.size = 1 := rfl
      have hat : at32 s (f + m) = true := at32_iff.2 (by rw [← at_tail hf]; exact hh.1)
      have hst := cutS_stay h2 m (by omega) fun j h1 h3 => by
        cases h : at32 s j with
        | false => rfl
        | true =>
          exfalso
          have h4 := at32_iff.1 h
          have h5 := hh.2 (j - f) (by omega)
          rw [at_tail hf, show f + (j - f) = j by omega] at h5
          exact h5 h4
      have hstep : cutS s (f + m + 1) = ((cutS s f).1 ++ [s.extract f (f + m)], f + m + 1) := by
        rw [cutS, if_pos (.inr hat), hst, h2]
      have hrec := ih (f + m + 1) (by omega) (by omega) (by rw [hstep])
      rw [hrec, hstep]
      have hcount := Lib.countB_hit (s.extract f s.size) b32 m (by omega) hm
      have e1 : (s.extract f s.size).extract 0 (m + 0) = s.extract f (f + m) := by
        apply ByteArray.ext
        simp only [ByteArray.data_extract, Array.extract_extract]
        congr 1 <;> omega
      have e2 : (s.extract f s.size).extract (m + b32.size) (s.extract f s.size).size = s.extract (f + m + 1) s.size := by
        apply ByteArray.ext
        rw [hts]
        simp only [ByteArray.data_extract, Array.extract_extract, hb1]
        congr 1 <;> omega
      rw [e2] at hcount
      have e3 : pieces (s.extract f s.size) = s.extract f (f + m) :: pieces (s.extract (f + m + 1) s.size) := by
        unfold pieces
        rw [hcount, Nat.add_comm 1, Lib.splitB_hit _ _ _ _ m hm, e1, e2]
      rw [e3]
      simp
theorem cut_pieces (s : ByteArray) : (cutS s (s.size + 1)).1 = pieces s := by
  have := cut_from (s := s) s.size 0 (by omega) (by omega) rfl
  rw [this]
  simp only [cutS, List.nil_append]
  congr 1
  apply ByteArray.ext
  rw [ByteArray.data_extract]
  exact Array.extract_size
def isWord (s : ByteArray) : Bool := !(s.size == 0)
noncomputable def wordsL (s : ByteArray) : List ByteArray := (pieces s).filter isWord
end Go.H
end
section
set_option linter.unusedVariables false
namespace Go.H
open Go
attribute [go_sem] V.scalar TV.noSh T.noSh T.noShL Ob.noSh V.zT liveV liveL verM capM TV.noShs Ob.noShs T.shr T.shrL roCs roC T.isOwn liveD List.take_length List.drop_zero List.take_zero List.map_nil
attribute [go_sem] decide_false Bool.or_false Bool.true_or Bool.or_true Bool.false_or Bool.and_false Int.natCast_add Int.natCast_one Int.cast_ofNat_Int Nat.add_zero
attribute [go_sem] List.length_map Int.toNat_natCast List.length_append List.length_take List.length_drop List.take_take Nat.min_self List.length_cons List.length_nil List.length_set List.length_replicate
theorem take_map' {α β : Type} (f : α → β) (l : List α) (i : Nat) : (l.map f).take i = (l.take i).map f := List.map_take.symm
theorem drop_map' {α β : Type} (f : α → β) (l : List α) (i : Nat) : (l.map f).drop i = (l.drop i).map f := List.map_drop.symm
theorem app_map' {α β : Type} (f : α → β) (l m : List α) : l.map f ++ m.map f = (l ++ m).map f := List.map_append.symm
attribute [go_sem] take_map' drop_map' app_map'
attribute [go_sem] reduceCtorEq Nat.reduceMod Nat.reduceEqDiff Nat.reduceAdd Nat.reduceMul Nat.reduceLeDiff Nat.reduceLT
theorem take_succ_map {α β : Type} (f : α → β) (d : α) {xs : List α} {i : Nat} (h : i < xs.length) : (xs.take (i + 1)).map f = (xs.take i).map f ++ [f (xs.getD i d)] := by
  rw [List.take_add_one, List.map_append, List.getD_eq_getElem?_getD, List.getElem?_eq_getElem h]
  rfl
def inR (a b c : Int) : Bool := decide (b ≤ a) && decide (a ≤ c)
attribute [go_sem] eqVL eqV
attribute [go_sem] T.noShR T.shrL T.shrR roCs roC cVcL Bool.cond_true_left Bool.cond_false_left Bool.cond_true_right Bool.not_eq_true' beq_false obM lkey obOk bne_self_eq_false beq_self_eq_true Bool.not_false ne_eq not_true_eq_false not_false_eq_true eq_self decide_not Bool.not_true
def aS (l : List T) : Arg := .agg (l.map C.t)
def aT (t : T) : Arg := .one (.t t)
def aI (n : Int) : Arg := .one (.t (.int .i64 n))
def rI (n : Int) : TV := .one (.int .i64 n)
def rB (b : Bool) : TV := .one (.bool b)
attribute [go_sem] aS aT aI rI rB okI
theorem drop_getD {α : Type} (d : α) {xs : List α} {i : Nat} (h : i < xs.length) : xs.drop i = xs.getD i d :: xs.drop (i + 1) := by
  rw [List.drop_eq_getElem_cons h, List.getD_eq_getElem?_getD, List.getElem?_eq_getElem h]
  rfl
theorem getD_set_self {α : Type} {l : List α} {i : Nat} (h : i < l.length) (r d : α) : (l.set i r).getD i d = r := by
  rw [List.getD_eq_getElem?_getD, List.getElem?_set_self h]
  rfl
theorem all_getD {α : Type} (d : α) {xs : List α} {p : α → Prop} : (∀ i < xs.length, p (xs.getD i d)) ↔ ∀ x ∈ xs, p x := by
  constructor
  · intro h x hx
    obtain ⟨i, hi, rfl⟩ := List.getElem_of_mem hx
    have := h i hi
    rwa [List.getD_eq_getElem?_getD, List.getElem?_eq_getElem hi] at this
  · intro h i hi
    rw [List.getD_eq_getElem?_getD, List.getElem?_eq_getElem hi]
    exact h _ (List.getElem_mem hi)
theorem getD_bld {α : Type} {l : List α} {n i : Nat} {d : α} (h : l.length = i) : (l ++ List.replicate n d).getD i d = d := by
  rw [List.getD_eq_getElem?_getD, List.getElem?_append_right (by omega)]
  cases h2 : (List.replicate n d)[i - l.length]? with
  | none => rfl
  | some x => exact List.eq_of_mem_replicate (List.mem_of_getElem? h2)
theorem bld_step {α : Type} (f : α → List T) (z : α) (d : List T) {xs : List α} {i : Nat} (h : i < xs.length) : ((xs.take i).map f ++ List.replicate (xs.length - i) d).set i (f (xs.getD i z)) = (xs.take (i + 1)).map f ++ List.replicate (xs.length - (i + 1)) d := by
  rw [take_succ_map f z h]
  have e : xs.length - i = (xs.length - (i + 1)) + 1 := by omega
  have hl : ((xs.take i).map f).length = i := by simp; omega
  rw [e, List.replicate_succ, List.set_append_right _ _ (by omega), hl, Nat.sub_self, List.set_cons_zero, List.append_assoc]
  rfl
attribute [go_sem] Nat.sub_self
def mkL {α : Type} (m : α → Int → α) (s : α → Int → Int) : List α → Int → List α
  | [], _ => []
  | x :: xs, k => m x k :: mkL m s xs (s x k)
def mkK {α : Type} (s : α → Int → Int) : List α → Int → Int
  | [], k => k
  | x :: xs, k => mkK s xs (s x k)
theorem mkL_length {α : Type} (m : α → Int → α) (s : α → Int → Int) : ∀ (xs : List α) (k : Int), (mkL m s xs k).length = xs.length
  | [], _ => rfl
  | x :: xs, k => by simp [mkL, mkL_length m s xs]
theorem mkL_snoc {α : Type} (m : α → Int → α) (s : α → Int → Int) (y : α) : ∀ (xs : List α) (k : Int), mkL m s (xs ++ [y]) k = mkL m s xs k ++ [m y (mkK s xs k)]
  | [], _ => rfl
  | x :: xs, k => by simp [mkL, mkK, mkL_snoc m s y xs]
theorem mkK_snoc {α : Type} (s : α → Int → Int) (y : α) : ∀ (xs : List α) (k : Int), mkK s (xs ++ [y]) k = s y (mkK s xs k)
  | [], _ => rfl
  | x :: xs, k => by simp [mkK, mkK_snoc s y xs]
theorem take_snoc {α : Type} (z : α) {xs : List α} {i : Nat} (h : i < xs.length) : xs.take (i + 1) = xs.take i ++ [xs.getD i z] := by
  rw [List.take_add_one, List.getD_eq_getElem?_getD, List.getElem?_eq_getElem h]
  rfl
theorem mkK_succ {α : Type} (s : α → Int → Int) (z : α) {xs : List α} {i : Nat} (h : i < xs.length) (k : Int) : mkK s (xs.take (i + 1)) k = s (xs.getD i z) (mkK s (xs.take i) k) := by
  rw [take_snoc z h, mkK_snoc]
theorem mk_step {α : Type} (f : α → List T) (m : α → Int → α) (s : α → Int → Int) (z : α) {xs : List α} {i : Nat} (h : i < xs.length) (k : Int) :
    ((mkL m s (xs.take i) k ++ xs.drop i).map f).set i (f (m (xs.getD i z) (mkK s (xs.take i) k))) = (mkL m s (xs.take (i + 1)) k ++ xs.drop (i + 1)).map f := by
  rw [take_snoc z h, mkL_snoc, drop_getD z h]
  have hl : (mkL m s (xs.take i) k).length = i := by rw [mkL_length]; simp; omega
  have e : ∀ y r, ((mkL m s (xs.take i) k ++ y :: r).map f).set i (f (m (xs.getD i z) (mkK s (xs.take i) k))) = (mkL m s (xs.take i) k ++ (m (xs.getD i z) (mkK s (xs.take i) k)) :: r).map f := by
    intro y r
    rw [List.map_append, List.set_append_right _ _ (by rw [List.length_map]; omega), List.length_map, hl, Nat.sub_self, List.map_cons, List.set_cons_zero, List.map_append, List.map_cons]
  rw [e, List.append_assoc]
  rfl
theorem mkL_getD {α : Type} (m : α → Int → α) (s : α → Int → Int) (z : α) : ∀ {xs : List α} {i : Nat} (k : Int), i < xs.length → (mkL m s xs k).getD i z = m (xs.getD i z) (mkK s (xs.take i) k)
  | [], i, k, h => by simp at h
  | x :: xs, 0, k, h => rfl
  | x :: xs, i + 1, k, h => by
    have := mkL_getD m s z (xs := xs) (i := i) (s x k) (by simpa using h)
    simpa only [mkL, List.getD_cons_succ, List.take_succ_cons, mkK] using this
theorem mk_getD {α : Type} (m : α → Int → α) (s : α → Int → Int) (z : α) {xs : List α} {i : Nat} (k : Int) (h : i < xs.length) : (mkL m s (xs.take i) k ++ xs.drop i).getD i z = xs.getD i z := by
  have hl : (mkL m s (xs.take i) k).length = i := by rw [mkL_length]; simp; omega
  rw [List.getD_eq_getElem?_getD, List.getElem?_append_right (by omega), hl, Nat.sub_self, drop_getD z h]
  rfl
theorem mkK_mono {α : Type} {s : α → Int → Int} (hs : ∀ x k, k ≤ s x k) : ∀ (xs : List α) (k : Int), k ≤ mkK s xs k
  | [], k => Int.le_refl k
  | x :: xs, k => Int.le_trans (hs x k) (mkK_mono hs xs _)
theorem mkK_app {α : Type} {s : α → Int → Int} : ∀ (xs ys : List α) (k : Int), mkK s (xs ++ ys) k = mkK s ys (mkK s xs k)
  | [], _, _ => rfl
  | x :: xs, ys, k => by simp [mkK, mkK_app xs ys]
theorem mkK_take {α : Type} {s : α → Int → Int} (hs : ∀ x k, k ≤ s x k) (xs : List α) (i : Nat) (k : Int) : mkK s (xs.take i) k ≤ mkK s xs k := by
  conv => rhs; rw [← List.take_append_drop i xs, mkK_app]
  exact mkK_mono hs _ _
theorem mkK_at {α : Type} {s : α → Int → Int} (hs : ∀ x k, k ≤ s x k) (z : α) {xs : List α} {i : Nat} (h : i < xs.length) {k b : Int} (hb : mkK s xs k ≤ b) : k ≤ mkK s (xs.take i) k ∧ s (xs.getD i z) (mkK s (xs.take i) k) ≤ b := by
  rw [← mkK_succ s z h]
  exact ⟨mkK_mono hs _ _, Int.le_trans (mkK_take hs _ _ _) hb⟩
theorem mkK_bd {α : Type} {s : α → Int → Int} {c : Int} (hc : 0 ≤ c) : ∀ {xs : List α} {k : Int}, (∀ x ∈ xs, ∀ k, s x k ≤ k + c) → mkK s xs k ≤ k + c * xs.length
  | [], k, h => by simp [mkK]
  | x :: xs, k, h => by
    have h1 := h x (by simp) k
    have h2 := mkK_bd hc (xs := xs) (k := s x k) fun y hy => h y (by simp [hy])
    simp only [mkK, List.length_cons]
    rw [show c * ((xs.length + 1 : Nat) : Int) = c * xs.length + c by rw [Int.natCast_add, Int.mul_add]; simp]
    omega
theorem arr_eq {sz v v' : Nat} {c : Option Nat} {r r' : List (List T)} (h1 : r = r') (h2 : v = v') : some (Mem.arr ⟨sz, r, v, c⟩) = some (Mem.arr ⟨sz, r', v', c⟩) := by rw [h1, h2]
theorem int_eq {k : IntKind} {a b : Int} (h : a = b) : some (V.int k a) = some (V.int k b) := by rw [h]
theorem getD_mem {α : Type} (z : α) {xs : List α} {i : Nat} (h : i < xs.length) : xs.getD i z ∈ xs := by
  rw [List.getD_eq_getElem?_getD, List.getElem?_eq_getElem h]
  exact List.getElem_mem h
theorem toNat_sub1 (n : Nat) : ((n : Int) - 1).toNat = n - 1 := by omega
theorem toNat_add1 (n : Nat) : ((n : Int) + 1).toNat = n + 1 := by omega
attribute [go_sem] toNat_sub1 toNat_add1 Int.add_sub_cancel
theorem take_snoc_map {α : Type} (f : α → List T) (xs : List α) (r : List T) : List.take (xs.length + 1) (xs.map f ++ [r]) = xs.map f ++ [r] := List.take_of_length_le (by simp)
theorem take_app_map {α : Type} (f : α → List T) (xs ys : List α) : List.take (xs.length + ys.length) ((xs ++ ys).map f) = (xs ++ ys).map f := List.take_of_length_le (by simp)
theorem take_set_map {α : Type} (f : α → List T) (xs : List α) (n : Nat) (r : List T) : List.take xs.length ((xs.map f).set n r) = (xs.map f).set n r := List.take_of_length_le (by simp)
theorem noShR_set : ∀ {l : List (List T)} {n : Nat} {r : List T}, T.noShR l → T.noShL r → T.noShR (l.set n r)
  | [], _, _, _, _ => by simp [T.noShR]
  | a :: l, 0, r, h, hr => by simp only [List.set_cons_zero, T.noShR] at h ⊢; exact ⟨hr, h.2⟩
  | a :: l, n + 1, r, h, hr => by simp only [List.set_cons_succ, T.noShR] at h ⊢; exact ⟨h.1, noShR_set h.2 hr⟩
theorem noShR_append : ∀ (l l2 : List (List T)), T.noShR (l ++ l2) = (T.noShR l ∧ T.noShR l2)
  | [], l2 => by simp [T.noShR]
  | a :: l, l2 => by simp only [List.cons_append, T.noShR, noShR_append l l2, and_assoc]
theorem getD_set_app {α : Type} {l : List α} {i : Nat} (h : i < l.length) (r : α) (l2 : List α) (d : α) : (l.set i r ++ l2).getD i d = r := by
  rw [List.getD_eq_getElem?_getD, List.getElem?_append_left (by simpa using h), List.getElem?_set_self h]
  rfl
theorem set_app {α : Type} {l : List α} {i : Nat} (h : i < l.length) (r r2 : α) (l2 : List α) : (l.set i r ++ l2).set i r2 = l.set i r2 ++ l2 := by
  rw [List.set_append_left _ _ (by simpa using h), List.set_set]
theorem set_getD_map {α : Type} (f : α → List T) (z : α) {xs : List α} {i : Nat} (h : i < xs.length) : (xs.map f).set i (f (xs.getD i z)) = xs.map f := by
  rw [List.getD_eq_getElem?_getD, List.getElem?_eq_getElem h]
  apply List.ext_getElem
  · simp
  · intro j h1 h2
    rw [List.getElem_set]
    split
    · rename_i e; subst e; simp
    · rfl
attribute [go_sem] take_snoc_map take_app_map take_set_map noShR_append
attribute [go_sem] T.own T.ownL
theorem take_set_len {α : Type} (l : List α) (n : Nat) (v : α) : List.take l.length (l.set n v) = l.set n v := List.take_of_length_le (by simp)
attribute [go_sem] take_set_len
theorem take_drop_take {α : Type} (l : List α) (a k : Nat) : List.take (a - k) (List.drop k (List.take a l)) = List.drop k (List.take a l) := List.take_of_length_le (by simp; omega)
attribute [go_sem] mnxI take_drop_take isZ bnd
theorem toNat0 : Int.toNat 0 = 0 := rfl
theorem toNat_subN (a b : Nat) : ((a : Int) - (b : Int)).toNat = a - b := by omega
theorem toNat_addN (a b : Nat) : ((a : Int) + (b : Int)).toNat = a + b := by omega
theorem toNat_subNN (a b c : Nat) : ((a : Int) - ((b : Int) + (c : Int))).toNat = a - (b + c) := by omega
theorem toNat_addNN (a b c : Nat) : ((a : Int) + (b : Int) + (c : Int)).toNat = a + b + c := by omega
attribute [go_sem] toNat0 toNat_subN toNat_addN toNat_subNN toNat_addNN Int.sub_zero Int.add_zero Int.zero_add
theorem junk_drop {α : Type} (J : List T) (f : α → List T) (xs : List α) (n : Nat) : List.drop (n + 1) (List.replicate n J ++ List.map f (List.drop n xs)) = List.map f (List.drop (n + 1) xs) := by
  rw [List.drop_append, List.drop_of_length_le (by simp), List.nil_append, List.length_replicate, ← List.map_drop, List.drop_drop]
  congr 2
  omega
theorem take_drop_len {α : Type} (xs : List α) (k : Nat) : List.take (xs.length - k) (List.drop k xs) = List.drop k xs := List.take_of_length_le (by simp)
attribute [go_sem] junk_drop take_drop_len
theorem toNat_sub1N (a b : Nat) : ((a : Int) - ((b : Int) + 1)).toNat = a - (b + 1) := by omega
attribute [go_sem] toNat_sub1N false_and and_false Int.one_mul
theorem cutS_bd (s : ByteArray) : ∀ i, (cutS s i).2 ≤ i ∧ (cutS s i).1.length ≤ i
  | 0 => ⟨Nat.le_refl _, Nat.le_refl _⟩
  | i + 1 => by
    have ih := cutS_bd s i
    rw [cutS]
    split
    · simp; omega
    · omega
theorem pieces_len (s : ByteArray) : (pieces s).length ≤ s.size + 1 := by
  rw [← cut_pieces]
  exact (cutS_bd s (s.size + 1)).2
theorem cutS_hit {s : ByteArray} {i : Nat} (h : i = s.size ∨ at32 s i = true) : cutS s (i + 1) = ((cutS s i).1 ++ [s.extract (cutS s i).2 i], i + 1) := by rw [cutS, if_pos h]
theorem cutS_miss {s : ByteArray} {i : Nat} (h : ¬ (i = s.size ∨ at32 s i = true)) : cutS s (i + 1) = cutS s i := by rw [cutS, if_neg h]
theorem isWord_iff (s : ByteArray) : isWord s = decide (¬ s = ⟨#[]⟩) := by
  unfold isWord
  rw [Bool.eq_iff_iff]
  simp only [Bool.not_eq_true', beq_eq_false_iff_ne, ne_eq, decide_eq_true_eq]
  constructor
  · intro h e
    subst e
    exact h rfl
  · intro h e
    refine h ?_
    apply ByteArray.ext
    exact Array.eq_empty_of_size_eq_zero e
theorem filter_take {α : Type} (p : α → Bool) (z : α) {xs : List α} {i : Nat} (h : i < xs.length) : (xs.take (i + 1)).filter p = (xs.take i).filter p ++ (if p (xs.getD i z) = true then [xs.getD i z] else []) := by
  rw [take_snoc z h, List.filter_append]
  congr 1
  simp only [List.filter_cons, List.filter_nil]
def dg (k : Int) : ByteArray := ⟨[UInt8.ofNat (IntKind.wrap .u8 (48 + k.tmod 10)).toNat].toArray⟩
def mtD : Nat → Int → ByteArray → ByteArray
  | 0, _, out => out
  | n + 1, k, out => if k ≤ 0 then out else mtD n (k.tdiv 10) (dg k ++ out)
theorem tdiv_lt {k : Int} (h : 0 < k) : 0 ≤ k.tdiv 10 ∧ k.tdiv 10 < k := by
  rw [Int.tdiv_eq_ediv_of_nonneg (by omega)]
  omega
theorem mtD_fuel : ∀ (n : Nat) (k : Int) (out : ByteArray), k.toNat ≤ n → mtD n k out = mtD k.toNat k out
  | 0, k, out, h => by rw [show k.toNat = 0 by omega]
  | n + 1, k, out, h => by
    by_cases hk : k ≤ 0
    · rw [mtD, if_pos hk]
      rw [show k.toNat = 0 by omega]
      rfl
    · obtain ⟨m, hm⟩ : ∃ m, k.toNat = m + 1 := ⟨k.toNat - 1, by omega⟩
      have h2 := tdiv_lt (k := k) (by omega)
      rw [hm, mtD, mtD, if_neg hk, if_neg hk, mtD_fuel n _ _ (by omega), mtD_fuel m _ _ (by omega)]
def mtF (k : Int) (out : ByteArray) : ByteArray := mtD k.toNat k out
theorem mtF_pos {k : Int} (h : ¬ k ≤ 0) (out : ByteArray) : mtF k out = mtF (k.tdiv 10) (dg k ++ out) := by
  obtain ⟨m, hm⟩ : ∃ m, k.toNat = m + 1 := ⟨k.toNat - 1, by omega⟩
  have h2 := tdiv_lt (k := k) (by omega)
  unfold mtF
  rw [hm, mtD, if_neg h, mtD_fuel m _ _ (by omega)]
theorem mtF_zero {k : Int} (h : k ≤ 0) (out : ByteArray) : mtF k out = out := by
  unfold mtF
  rw [show k.toNat = 0 by omega]
  rfl
def mtext (k : Int) : ByteArray := if k ≤ 0 then ⟨#[109, 48]⟩ else ⟨#[109]⟩ ++ mtF k ⟨#[]⟩
def mT (_ : ByteArray) (k : Int) : ByteArray := mtext k
def sT (_ : ByteArray) (k : Int) : Int := k + 1
theorem sT_up (x : ByteArray) (k : Int) : k ≤ sT x k := by unfold sT; omega
theorem dg_size (k : Int) : (dg k).size = 1 := rfl
theorem wrap_u8 (n : Int) : 0 ≤ IntKind.wrap .u8 n ∧ IntKind.wrap .u8 n ≤ 255 := by
  show 0 ≤ n % 256 ∧ n % 256 ≤ 255
  omega
def keepF (q : ByteArray → Bool) (xs : List ByteArray) : List ByteArray := xs.filter fun s => !q s
theorem keepF_le (q : ByteArray → Bool) (xs : List ByteArray) (i : Nat) : (keepF q (xs.take i)).length ≤ i := by
  unfold keepF
  have := List.length_filter_le (fun s => !q s) (xs.take i)
  simp at this
  omega
theorem keepF_all {q : ByteArray → Bool} {xs : List ByteArray} (h : ∀ j, j < xs.length → q (xs.getD j zS) = false) : keepF q xs = xs := by
  unfold keepF
  rw [List.filter_eq_self]
  intro s hs
  have := (all_getD (p := fun s => q s = false) zS).1 h s hs
  simp [this]
theorem keepF_take {q : ByteArray → Bool} {xs : List ByteArray} {i : Nat} (hi : i ≤ xs.length) (h : ∀ j, j < i → q (xs.getD j zS) = false) : keepF q (xs.take i) = xs.take i := by
  refine keepF_all fun j hj => ?_
  have hj2 : j < i := by simp at hj; omega
  rw [List.getD_eq_getElem?_getD, List.getElem?_take_of_lt hj2, ← List.getD_eq_getElem?_getD]
  exact h j hj2
theorem keep_getD {q : ByteArray → Bool} {xs : List ByteArray} {i : Nat} (hi : i < xs.length) : (keepF q (xs.take i) ++ xs.drop (keepF q (xs.take i)).length).getD i zS = xs.getD i zS := by
  have hl := keepF_le q xs i
  rw [List.getD_eq_getElem?_getD, List.getElem?_append_right hl, List.getElem?_drop, List.getD_eq_getElem?_getD]
  congr 2
  omega
theorem keep_yes {q : ByteArray → Bool} {xs : List ByteArray} {i : Nat} (hi : i < xs.length) (h : q (xs.getD i zS) = false) : keepF q (xs.take (i + 1)) = keepF q (xs.take i) ++ [xs.getD i zS] := by
  unfold keepF
  rw [filter_take _ zS hi, if_pos (by simp only [h, Bool.not_false])]
theorem keep_no {q : ByteArray → Bool} {xs : List ByteArray} {i : Nat} (hi : i < xs.length) (h : q (xs.getD i zS) = true) : keepF q (xs.take (i + 1)) = keepF q (xs.take i) := by
  unfold keepF
  rw [filter_take _ zS hi, if_neg (by simp only [h]; decide), List.append_nil]
theorem keep_set {K xs : List ByteArray} {v : ByteArray} (h : K.length < xs.length) : ((K ++ xs.drop K.length).map eS).set K.length (eS v) = ((K ++ [v]) ++ xs.drop (K ++ [v]).length).map eS := by
  rw [drop_getD zS h]
  rw [List.map_append, List.set_append_right _ _ (by simp), List.length_map, Nat.sub_self, List.map_cons, List.set_cons_zero]
  simp
def idxF (q : ByteArray → Bool) (xs : List ByteArray) : Int := if xs.any q then (xs.findIdx q : Int) else -1
theorem idxF_none {q : ByteArray → Bool} {xs : List ByteArray} (h : ∀ j, j < xs.length → q (xs.getD j zS) = false) : idxF q xs = -1 := by
  unfold idxF
  rw [if_neg]
  intro ha
  obtain ⟨x, hx, hq⟩ := List.any_eq_true.1 ha
  have := (all_getD (p := fun s => q s = false) zS).1 h x hx
  rw [this] at hq
  cases hq
theorem idxF_some {q : ByteArray → Bool} {xs : List ByteArray} {i : Nat} (hi : i < xs.length) (h : ∀ j, j < i → q (xs.getD j zS) = false) (hq : q (xs.getD i zS) = true) : idxF q xs = i := by
  have ha : xs.any q = true := List.any_eq_true.2 ⟨_, getD_mem zS hi, hq⟩
  unfold idxF
  rw [if_pos ha]
  congr 1
  rw [List.findIdx_eq hi]
  have e : ∀ j (hj : j < xs.length), xs[j] = xs.getD j zS := fun j hj => by rw [List.getD_eq_getElem?_getD, List.getElem?_eq_getElem hj]; rfl
  refine ⟨by rw [e i hi]; exact hq, fun j hj => ?_⟩
  rw [e j (by omega)]
  first | exact h j hj | (rw [h j hj]; done) | (rw [h j hj]; rfl) | (rw [h j hj]; decide)
theorem idxF_cases (q : ByteArray → Bool) (xs : List ByteArray) : (idxF q xs = -1 ∧ ∀ j, j < xs.length → q (xs.getD j zS) = false) ∨ ∃ i : Nat, idxF q xs = i ∧ i < xs.length ∧ q (xs.getD i zS) = true ∧ ∀ j, j < i → q (xs.getD j zS) = false := by
  by_cases h : ∀ j, j < xs.length → q (xs.getD j zS) = false
  · exact .inl ⟨idxF_none h, h⟩
  · have ha : ∃ x ∈ xs, q x = true := by
      refine Classical.byContradiction fun hn => h fun j hj => ?_
      cases hq : q (xs.getD j zS) with
      | false => rfl
      | true => exact absurd ⟨_, getD_mem zS hj, hq⟩ hn
    have hlt : xs.findIdx q < xs.length := List.findIdx_lt_length.2 ha
    have e : ∀ j (hj : j < xs.length), xs[j] = xs.getD j zS := fun j hj => by rw [List.getD_eq_getElem?_getD, List.getElem?_eq_getElem hj]; rfl
    have hq : q (xs.getD (xs.findIdx q) zS) = true := by
      rw [← e _ hlt]
      exact List.findIdx_getElem
    have hno : ∀ j, j < xs.findIdx q → q (xs.getD j zS) = false := fun j hj => by
      have := List.not_of_lt_findIdx hj
      rw [← e j (by omega)]
      simpa using this
    exact .inr ⟨_, idxF_some hlt hno hq, hlt, hq, hno⟩
theorem cutS_zero (s : ByteArray) : cutS s 0 = ([], 0) := rfl
attribute [go_sem] cutS_zero
theorem mkT_bd (xs : List ByteArray) (k : Int) : mkK sT xs k ≤ k + 1 * xs.length := mkK_bd (by omega) fun x _ k => by unfold sT; omega
theorem mkL_take {α : Type} (f : α → Int → α) (s : α → Int → Int) (xs : List α) (k : Int) : List.take xs.length (mkL f s xs k) = mkL f s xs k := List.take_of_length_le (by rw [mkL_length]; exact Nat.le_refl _)
end Go.H
end
section
set_option linter.unusedVariables false
namespace Go.H
open Go Go.Proofs.Tryd
noncomputable def tbl : Nat → Bool → List T
  | 2, _ => dI_i64
  | 3, _ => dI_i64
  | 5, _ => dI_u8
  | 6, _ => dI_u8
  | 9, _ => dS
  | 10, _ => dS
  | 11, _ => dS
  | 24, b => dWordsResult b
  | 94, _ => dI_u8
  | 95, _ => dI_u8
  | _, _ => []
theorem tb2 (b : Bool) : tbl 2 b = dI_i64 := rfl
theorem tb3 (b : Bool) : tbl 3 b = dI_i64 := rfl
theorem tb5 (b : Bool) : tbl 5 b = dI_u8 := rfl
theorem tb6 (b : Bool) : tbl 6 b = dI_u8 := rfl
theorem tb9 (b : Bool) : tbl 9 b = dS := rfl
theorem tb10 (b : Bool) : tbl 10 b = dS := rfl
theorem tb11 (b : Bool) : tbl 11 b = dS := rfl
theorem tb24 (b : Bool) : tbl 24 b = dWordsResult b := rfl
theorem tb94 (b : Bool) : tbl 94 b = dI_u8 := rfl
theorem tb95 (b : Bool) : tbl 95 b = dI_u8 := rfl
noncomputable def tr0 : List TypeInfo := [t0, t1, t2, t3, t4, t5, t6, t7, t8, t9, t10, t11, t12, t13, t14, t15]
noncomputable def tr1 : List TypeInfo := [t16, t17, t18, t19, t20, t21, t22, t23, t24, t25, t26, t27, t28, t29, t30, t31]
noncomputable def tr2 : List TypeInfo := [t32, t33, t34, t35, t36, t37, t38, t39, t40, t41, t42, t43, t44, t45, t46, t47]
noncomputable def tr3 : List TypeInfo := [t48, t49, t50, t51, t52, t53, t54, t55, t56, t57, t58, t59, t60, t61, t62, t63]
noncomputable def tr4 : List TypeInfo := [t64, t65, t66, t67, t68, t69, t70, t71, t72, t73, t74, t75, t76, t77, t78, t79]
noncomputable def tr5 : List TypeInfo := [t80, t81, t82, t83, t84, t85, t86, t87, t88, t89, t90, t91, t92, t93, t94, t95]
noncomputable def tr6 : List TypeInfo := [t96, t97, t98, t99, t100, t101, t102]
noncomputable def tys (t : Nat) : Option TypeInfo := tyG [tr0, tr1, tr2, tr3, tr4, tr5, tr6] t
theorem goF [Inv prog] {fn : Func} {f : FuncId} {av : List Arg} {L : List Ob} {rs : List TV} {L' : List Ob} {c : (Nat → Bool → List T) → SC} {c' : SC} {rvs : List RV} (hs : List (Nat × Hn)) (dr : List (Nat × Nat × List Nat × List Nat)) (dp : List (Nat × List Nat)) (hf : prog.funcs[f]? = some fn)
    (k : CW prog c' (endX rvs L rs L') (initS av L)) (hc : ∀ tb, genF tys fn tb hs dr dp = c tb := by intro tb; cbv) (hcc : c tbl = c' := by first | (dsimp only [tb2, tb3, tb5, tb6, tb9, tb10, tb11, tb24, tb94, tb95] <;> exact rfl) | exact rfl) (hk : OkG prog fn (genF tys fn tbl hs dr dp) := by exact ⟨_, rfl, by kernel_rfl, by kernel_rfl⟩)
    (h0 : cmpR prog fn.results.toList = some (rvG tys fn.results.toList) := by kernel_rfl) (hr : rvG tys fn.results.toList = rvs := by cbv) (hn : Nat.ble av.length fn.ntmps = true := by kernel_rfl) (has : Nat.ble av.length 199 = true := by rfl)
    (hok : ∀ o ∈ L, obOk o := by first | (simp; done) | (simp [obOk]; done) | (simp [obOk, go_sem]; done)) (hok2 : ∀ a ∈ av, argOk a := by first | (simp [argOk, aT, aI, aS]; done) | (simp [argOk, go_sem]; done)) : SemX prog f av L rs L' := by
  obtain ⟨cc, g1, g2, g3⟩ := hk
  subst hcc
  subst hr
  rw [hc tbl] at g2 g3
  exact SemX.of_code hf g1 g2 g3 h0 (Nat.le_of_ble_eq_true hn) (Nat.lt_succ_of_le (Nat.le_of_ble_eq_true has)) hok hok2 k
theorem goFC [Inv prog] {fn : Func} {f : FuncId} {av : List Arg} {L : List Ob} {rs : List TV} {L' : List Ob} {c : (Nat → Bool → List T) → SC} {c' : SC} {rvs : List RV} (k0 : Nat) {A : Arr} (hs : List (Nat × Hn)) (dr : List (Nat × Nat × List Nat × List Nat)) (dp : List (Nat × List Nat)) (hf : prog.funcs[f]? = some fn)
    (k : ∀ cp, A.rows.length ≤ cp → cp ≤ 9223372036854775807 → CW prog c' (endX rvs L rs L') ((initS av L).full k0 cp)) (hk0 : look k0 (initS av L).ms = some (.arr A) := by exact rfl) (hc : ∀ tb, genF tys fn tb hs dr dp = c tb := by intro tb; cbv) (hcc : c tbl = c' := by first | (dsimp only [tb2, tb3, tb5, tb6, tb9, tb10, tb11, tb24, tb94, tb95] <;> exact rfl) | exact rfl) (hk : OkG prog fn (genF tys fn tbl hs dr dp) := by exact ⟨_, rfl, by kernel_rfl, by kernel_rfl⟩)
    (h0 : cmpR prog fn.results.toList = some (rvG tys fn.results.toList) := by kernel_rfl) (hr : rvG tys fn.results.toList = rvs := by cbv) (hn : Nat.ble av.length fn.ntmps = true := by kernel_rfl) (has : Nat.ble av.length 199 = true := by rfl)
    (hok : ∀ o ∈ L, obOk o := by first | (simp; done) | (simp [obOk]; done) | (simp [obOk, go_sem]; done)) (hok2 : ∀ a ∈ av, argOk a := by first | (simp [argOk, aT, aI, aS]; done) | (simp [argOk, go_sem]; done)) : SemX prog f av L rs L' := by
  obtain ⟨cc, g1, g2, g3⟩ := hk
  subst hcc
  subst hr
  rw [hc tbl] at g2 g3
  exact SemX.of_codeC k0 hf g1 g2 g3 h0 (Nat.le_of_ble_eq_true hn) (Nat.lt_succ_of_le (Nat.le_of_ble_eq_true has)) hok hok2 hk0 k
end Go.H
end
section
set_option maxRecDepth 100000
set_option maxHeartbeats 4000000
set_option linter.unusedVariables false
set_option linter.unusedSimpArgs false
namespace Go.H
open Go Go.Proofs.Tryd
variable [Inv prog]
theorem s_spec_l16Cut (s : ByteArray) (hs : s.size ≤ 2097152) : SemX prog 24 [.one (.t (.str s)), .one (.t (.int .u8 32))] [] [.one (.sl true 1 ((cutS s (s.size + 1)).1.map eS))] [] := by
 refine goF [] [] [] func24 ?_
 refine D ?_
 refine L (α := Nat) (fun x => [(5, .ref 36864 0 (cutS s x).1.length), (6, .int .i64 (cutS s x).2), (7, .int .i64 x)]) (fun x => [(36864, .arr ⟨1, (cutS s x).1.map eS, 1, none⟩)]) (fun x => s.size + 1 - x) (fun x => x ≤ s.size + 1) 0 [] (fun x hI => ?_)
 have hbd := cutS_bd s x
 refine D ?_
 refine cC (fun c0 => ?_) (fun c0 => ?_)
 · skip
   refine D ?_
   refine cC (fun c1 => ?_) (fun c1 => ?_)
   · skip
     have hc : cutS s (x + 1) = ((cutS s x).1 ++ [s.extract (cutS s x).2 x], x + 1) := cutS_hit (by unfold at32; simp at c1 ⊢; omega)
     have hA := hc
     refine D ?_
     refine lp_next (x+1) [(36864,135168)] ?_ ?_ ?_
     · simp only [go_sem, hA] <;> and_intros <;> first | with_reducible exact rfl | (first | with_reducible exact rfl | omega | (rw [hc]; simp [eS]; done) | (rw [hc]; done) | (simp [hc, eS]; done))
     · omega
     · omega
   · skip
     have hc : cutS s (x + 1) = cutS s x := cutS_miss (by unfold at32; simp at c1 ⊢; omega)
     have hA := hc
     refine D ?_
     refine lp_next (x+1) [] ?_ ?_ ?_
     · simp only [go_sem, hA] <;> and_intros <;> first | with_reducible exact rfl | (first | with_reducible exact rfl | omega | (rw [hc]; simp [eS]; done) | (rw [hc]; done) | (simp [hc, eS]; done))
     · omega
     · omega
 · skip
   obtain rfl : x = s.size + 1 := by omega
   refine D ?_
   exact E trivial
end Go.H
end
section
set_option maxRecDepth 100000
set_option maxHeartbeats 4000000
set_option linter.unusedVariables false
set_option linter.unusedSimpArgs false
namespace Go.H
open Go Go.Proofs.Tryd
variable [Inv prog]
theorem s_spec_l16Words (s : ByteArray) (hs : s.size ≤ 2097152) : SemX prog 14 [.one (.t (.str s))] [] [.one (.sl true 1 ((wordsL s).map eS))] [] := by
 refine goF [] [] [] func14 ?_
 have hcp := cut_pieces s
 have hpl := pieces_len s
 have hA := hcp
 refine D ?_
 refine kR (s_spec_l16Cut s hs) ?_
 refine D ?_
 refine L (α := Nat) (fun x => [(3, .ref 28672 0 (((pieces s).take x).filter isWord).length), (5, .int .i64 x)]) (fun x => [(28672, .arr ⟨1, (((pieces s).take x).filter isWord).map eS, 1, none⟩)]) (fun x => (pieces s).length - x) (fun x => x ≤ (pieces s).length) 0 [] (fun x hI => ?_)
 have hfl : (((pieces s).take x).filter isWord).length ≤ x := by
   have := List.length_filter_le isWord ((pieces s).take x)
   simp at this
   omega
 refine D ?_
 refine cC (fun c0 => ?_) (fun c0 => ?_)
 · skip
   refine D ?_
   refine cC (fun c1 => ?_) (fun c1 => ?_)
   · skip
     have hw : isWord ((pieces s).getD x zS) = true := by rw [isWord_iff]; simpa using c1
     have hft := filter_take isWord zS (xs := pieces s) (i := x) (by omega)
     rw [if_pos hw] at hft
     have hA := And.intro hA (hft)
     refine D ?_
     refine lp_next (x+1) [(28672,110592)] ?_ ?_ ?_
     · simp only [go_sem, hA] <;> and_intros <;> first | with_reducible exact rfl | (first | with_reducible exact rfl | omega | (rw [hft]; simp [eS]; done) | (rw [hft]; done) | (simp [hft, eS]; done))
     · omega
     · omega
   · skip
     have hw : ¬ isWord ((pieces s).getD x zS) = true := by rw [isWord_iff]; simpa using c1
     have hft := filter_take isWord zS (xs := pieces s) (i := x) (by omega)
     rw [if_neg hw, List.append_nil] at hft
     have hA := And.intro hA (hft)
     refine D ?_
     refine lp_next (x+1) [] ?_ ?_ ?_
     · simp only [go_sem, hA] <;> and_intros <;> first | with_reducible exact rfl | (first | with_reducible exact rfl | omega | (rw [hft]; simp [eS]; done) | (rw [hft]; done) | (simp [hft, eS]; done))
     · omega
     · omega
 · skip
   obtain rfl : x = (pieces s).length := by omega
   refine D ?_
   refine E ?_
   first
   | exact trivial
   | simp [wordsL]
end Go.H
end
section
set_option maxRecDepth 100000
set_option maxHeartbeats 4000000
set_option linter.unusedVariables false
set_option linter.unusedSimpArgs false
namespace Go.H
open Go Go.Proofs.Tryd
variable [Inv prog]
theorem s_spec_WordsOf (s : ByteArray) (hs : s.size ≤ 2097152) : SemX prog 5 [.one (.t (.str s))] [] [.agg (eWordsResult true ⟨0, wordsL s⟩)] [] := by
 refine goF [] [] [] func5 ?_
 refine D ?_
 refine kR (s_spec_l16Words s hs) ?_
 refine D ?_
 exact E trivial
end Go.H
end
section
set_option maxRecDepth 100000
set_option maxHeartbeats 4000000
set_option linter.unusedVariables false
set_option linter.unusedSimpArgs false
namespace Go.H
open Go Go.Proofs.Tryd
variable [Inv prog]
theorem s_slices_IndexFunc_string (R : List ByteArray) (hl : R.length ≤ 2097153) (fn : Nat) (q : ByteArray → Bool) (hq : callB prog fn = true) (hf : ∀ s, SemX prog fn [.one (.t (.str s))] [] [rB (q s)] []) : SemX prog 43 [aT (.sl false 1 (R.map eS)), .one (.fn fn [])] [] [rI (idxF q R)] [] := by
 refine goF [] [] [] func43 ?_
 refine D ?_
 refine L (α := Nat) (fun x => [(8, .int .i64 x)]) (fun x => []) (fun x => R.length - x) (fun x => x ≤ R.length ∧ ∀ j, j < x → q (R.getD j zS) = false) 0 [] (fun x hL => ?_) (hi := by exact ⟨Nat.zero_le _, fun j hj => by omega⟩)
 obtain ⟨hx, hno⟩ := hL
 refine D ?_
 refine cC (fun c0 => ?_) (fun c0 => ?_)
 · skip
   refine D ?_
   refine kR (hf (R.getD x zS)) ?_ hq
   refine D ?_
   refine cC (fun c1 => ?_) (fun c1 => ?_)
   · skip
     refine D ?_
     refine E ?_
     rw [idxF_some (by omega) hno c1]
   · skip
     refine D ?_
     refine N (x+1) [] (hi := ?_) (hm := ?_)
     · refine ⟨by omega, fun j hj => ?_⟩
       rcases Nat.lt_or_ge j x with h | h
       · exact hno j h
       · obtain rfl : j = x := by omega
         exact c1
     · omega
 · skip
   obtain rfl : x = R.length := by omega
   refine D ?_
   refine E ?_
   rw [idxF_none hno]
end Go.H
end
section
set_option maxRecDepth 100000
set_option maxHeartbeats 4000000
set_option linter.unusedVariables false
set_option linter.unusedSimpArgs false
namespace Go.H
open Go Go.Proofs.Tryd
variable [Inv prog]
theorem s_slices_DeleteFunc_string (R : List ByteArray) (hl : R.length ≤ 2097153) (fn : Nat) (q : ByteArray → Bool) (hq : callB prog fn = true) (hf : ∀ s, SemX prog fn [.one (.t (.str s))] [] [rB (q s)] []) : SemX prog 25 [.one (.t (.sl true 1 (R.map eS))), .one (.fn fn [])] [] [.one (.sl true 1 ((keepF q R).map eS))] [] := by
 refine goF [] [] [] func25 ?_
 refine D ?_
 refine kR (s_slices_IndexFunc_string R hl fn q hq hf) ?_
 refine D ?_
 refine cC (fun c0 => ?_) (fun c0 => ?_)
 · skip
   refine D ?_
   refine E ?_
   have hall : ∀ j, j < R.length → q (R.getD j zS) = false := by
     rcases idxF_cases q R with ⟨_, h⟩ | ⟨i, hi, _⟩
     · exact h
     · omega
   rw [keepF_all hall]
 · skip
   rcases idxF_cases q R with ⟨h1, _⟩ | ⟨i, hi, hil, hiq, hino⟩
   · exact absurd h1 c0
   have hk0 : keepF q (R.take (i + 1)) = R.take i := by rw [keep_no hil hiq, keepF_take (by omega) hino]
   have hk1 : (keepF q (R.take (i + 1))).length = i := by rw [hk0]; simp; omega
   have hmi : min i R.length = i := by omega
   have hA := hi
   refine D ?_
   refine L (α := Nat) (fun x => [(5, .int .i64 (keepF q (R.take x)).length), (6, .int .i64 x)]) (fun x => [(0, .arr ⟨1, ((keepF q (R.take x)) ++ R.drop (keepF q (R.take x)).length).map eS, 1 + ((keepF q (R.take x)).length - i), none⟩)]) (fun x => R.length - x) (fun x => x ≤ R.length ∧ i ≤ (keepF q (R.take x)).length ∧ (keepF q (R.take x)).length < x) (i + 1) [] (fun x hL => ?_) (by (simp only [go_sem, hA, hk1, hk0, hmi, List.take_append_drop] <;> and_intros <;> first | with_reducible exact rfl | omega | (simp; done))) (by exact ⟨by omega, by omega, by omega⟩)
   obtain ⟨hx, hk, hix⟩ := hL
   refine D ?_
   refine cC (fun c1 => ?_) (fun c1 => ?_)
   · skip
     have hgd := keep_getD (q := q) (xs := R) (i := x) (by omega)
     have hkl := keepF_le q R x
     have hA := And.intro hA (hgd)
     refine D ?_
     refine kR (hf (R.getD x zS)) ?_ hq
     refine D ?_
     refine cC (fun c2 => ?_) (fun c2 => ?_)
     · skip
       have hy := keep_yes (q := q) (xs := R) (i := x) (by omega) c2
       refine D ?_
       refine lp_next (x+1) [] ?_ ?_ ?_
       · simp only [go_sem, hA] <;> and_intros <;> first | with_reducible exact rfl | (first | with_reducible exact rfl | omega | (refine arr_eq ?_ ?_; (rw [hy]; exact keep_set (by omega)); (rw [hy]; simp; omega)) | (rw [hy]; simp; done) | (rw [hn]; done) | (refine int_eq ?_; rw [hy]; simp; done))
       · exact ⟨by omega, by first | omega | (rw [hy]; simp; omega) | (rw [hn]; omega), by first | omega | (rw [hy]; simp; omega) | (rw [hn]; omega)⟩
       · omega
     · skip
       have hn := keep_no (q := q) (xs := R) (i := x) (by omega) c2
       have hA := And.intro hA (hn)
       refine D ?_
       refine lp_next (x+1) [] ?_ ?_ ?_
       · simp only [go_sem, hA] <;> and_intros <;> first | with_reducible exact rfl | (first | with_reducible exact rfl | omega | (refine arr_eq ?_ ?_; (rw [hy]; exact keep_set (by omega)); (rw [hy]; simp; omega)) | (rw [hy]; simp; done) | (rw [hn]; done) | (refine int_eq ?_; rw [hy]; simp; done))
       · exact ⟨by omega, by first | omega | (rw [hy]; simp; omega) | (rw [hn]; omega), by first | omega | (rw [hy]; simp; omega) | (rw [hn]; omega)⟩
       · omega
   · skip
     obtain rfl : x = R.length := by omega
     rw [List.take_length] at hk hix ⊢
     have hmk : min (keepF q R).length ((keepF q R).length + (R.length - (keepF q R).length)) = (keepF q R).length := by omega
     have hle : (keepF q R).length ≤ (keepF q R).length + (R.length - (keepF q R).length) := by omega
     have hne : (R.length - (keepF q R).length = 0) = False := by simp; omega
     have hA := And.intro hA (And.intro hmk (And.intro hne (hle)))
     refine D ?_
     refine E ?_
     have e1 : List.take (keepF q R).length (keepF q R ++ List.drop (keepF q R).length R) = keepF q R := List.take_left
     rw [e1]
     refine congrArg (fun r => [TV.one (T.sl true 1 r)]) ?_
     rw [List.append_assoc]
     exact List.take_left' (by simp)
end Go.H
end
section
set_option maxRecDepth 100000
set_option linter.unusedVariables false
namespace Go.Proofs
open Go.Shelf
def Tryd.lays146_ren : Go.Shelf.Ren := ⟨fun | 146 => 26 | 221 => 44 | 268 => 48 | 138 => 49 | 143 => 50 | 195 => 52 | 197 => 53 | 218 => 54 | 219 => 55 | 260 => 60 | 217 => 61 | 225 => 62 | 224 => 63 | 267 => 64 | 266 => 70 | 314 => 71 | n => n, fun | 9 => 9 | 31 => 22 | 3 => 3 | 4 => 4 | 0 => 0 | 105 => 61 | 21 => 21 | 5 => 5 | 46 => 71 | 119 => 78 | 139 => 81 | 138 => 80 | 146 => 82 | 51 => 74 | n => n, fun | 1 => 0 | 3 => 2 | 4 => 3 | n => n⟩
theorem Tryd.lays146 : Go.Proofs.Lays.n146 Tryd.prog Tryd.lays146_ren := {
  mixed := by kernel_rfl
  f138 := Tryd.func49.trans (congrArg some (by kernel_rfl))
  f143 := Tryd.func50.trans (congrArg some (by kernel_rfl))
  f146 := Tryd.func26.trans (congrArg some (by kernel_rfl))
  f195 := Tryd.func52.trans (congrArg some (by kernel_rfl))
  f197 := Tryd.func53.trans (congrArg some (by kernel_rfl))
  f217 := Tryd.func61.trans (congrArg some (by kernel_rfl))
  f218 := Tryd.func54.trans (congrArg some (by kernel_rfl))
  f219 := Tryd.func55.trans (congrArg some (by kernel_rfl))
  f221 := Tryd.func44.trans (congrArg some (by kernel_rfl))
  f224 := Tryd.func63.trans (congrArg some (by kernel_rfl))
  f225 := Tryd.func62.trans (congrArg some (by kernel_rfl))
  f260 := Tryd.func60.trans (congrArg some (by kernel_rfl))
  f266 := Tryd.func70.trans (congrArg some (by kernel_rfl))
  f267 := Tryd.func64.trans (congrArg some (by kernel_rfl))
  f268 := Tryd.func48.trans (congrArg some (by kernel_rfl))
  f314 := Tryd.func71.trans (congrArg some (by kernel_rfl))
  t0 := Tryd.underlying0
  a0 := Tryd.isAgg0
  z0 := Tryd.sizeOf0
  v0 := Tryd.zeroValue0
  t3 := Tryd.underlying3
  a3 := Tryd.isAgg3
  z3 := Tryd.sizeOf3
  v3 := Tryd.zeroValue3
  t4 := Tryd.underlying4
  a4 := Tryd.isAgg4
  z4 := Tryd.sizeOf4
  v4 := Tryd.zeroValue4
  t5 := Tryd.underlying5
  a5 := Tryd.isAgg5
  z5 := Tryd.sizeOf5
  v5 := Tryd.zeroValue5
  t9 := Tryd.underlying9
  a9 := Tryd.isAgg9
  z9 := Tryd.sizeOf9
  v9 := Tryd.zeroValue9
  t21 := Tryd.underlying21
  a21 := Tryd.isAgg21
  z21 := Tryd.sizeOf21
  v21 := Tryd.zeroValue21
  t31 := Tryd.underlying22
  a31 := Tryd.isAgg22
  z31 := Tryd.sizeOf22
  v31 := Tryd.zeroValue22
  t46 := Tryd.underlying71
  a46 := Tryd.isAgg71
  z46 := Tryd.sizeOf71
  v46 := Tryd.zeroValue71
  t51 := Tryd.underlying74
  a51 := Tryd.isAgg74
  z51 := Tryd.sizeOf74
  v51 := Tryd.zeroValue74
  t105 := Tryd.underlying61
  a105 := Tryd.isAgg61
  z105 := Tryd.sizeOf61
  v105 := Tryd.zeroValue61
  t119 := Tryd.underlying78
  a119 := Tryd.isAgg78
  z119 := Tryd.sizeOf78
  t138 := Tryd.underlying80
  a138 := Tryd.isAgg80
  z138 := Tryd.sizeOf80
  v138 := Tryd.zeroValue80
  t139 := Tryd.underlying81
  a139 := Tryd.isAgg81
  z139 := Tryd.sizeOf81
  v139 := Tryd.zeroValue81
  t146 := Tryd.underlying82
  a146 := Tryd.isAgg82
  z146 := Tryd.sizeOf82
  v146 := Tryd.zeroValue82
  g1 := by kernel_rfl
  g3 := by kernel_rfl
  g4 := by kernel_rfl }
open Go.RowKit Go.Lib in
theorem Tryd.strings_Split (s sep : ByteArray) (m : Int) (w : World) (hs : s.size < 4294967281) (hm : w.cell? ⟨0, 0, none⟩ = some (.int .i64 m)) (h1 : 1 ≤ sep.size) :
    Calls Tryd.prog 26 #[.string s, .string sep] w fun e w' =>
      e = .returned (.slice (some ⟨w.heap.size, 0, none⟩) (Lib.countB s sep + 1) (Lib.countB s sep + 1)) ∧ w' = w.alloc (.cells ((Lib.splitB sep 0 (Lib.countB s sep) s).map Value.string).toArray 9) := Any.strings_Split Tryd.lays146 (by kernel_rfl) s sep m w hs hm h1
end Go.Proofs
namespace Go.H
open Go Go.Proofs.Tryd
theorem strRows_ok {w : World} {fz : Nat → Prop} : ∀ (xs : List ByteArray), OwRows w fz 1 (xs.map eS) (fun _ => False) (xs.map Value.string)
  | [] => by simp only [List.map_nil, OwRows]
  | x :: xs => by
    simp only [List.map_cons, OwRows]
    refine ⟨[.string x], xs.map Value.string, fun _ => False, fun _ => False, rfl, fun _ h => h.elim, fun _ h => h, rfl, ?_, strRows_ok xs⟩
    simp only [eS, OwL, OwT]
    exact ⟨_, _, fun _ => False, fun _ => False, rfl, fun _ h => h.elim, fun _ h => h, rfl, rfl⟩
theorem alloc_facts (w : World) (o : Obj) : (w.alloc o).heap.size = w.heap.size + 1 ∧ (∀ b, b < w.heap.size → (w.alloc o).heap[b]? = w.heap[b]?) ∧ (w.alloc o).heap[w.heap.size]? = some o ∧ (w.alloc o).os = w.os ∧ (w.alloc o).tape = w.tape ∧ (w.alloc o).output = w.output := by
  have e : (w.alloc o).heap = w.heap.push o := rfl
  refine ⟨by rw [e, Array.size_push], fun b hb => ?_, ?_, rfl, rfl, rfl⟩
  · rw [e, Array.getElem?_push, if_neg (by omega)]
  · rw [e, Array.getElem?_push, if_pos rfl]
theorem s_strings_Split [Inv prog] (hML : ∀ w : World, Inv.I prog w → ∃ m, w.cell? ⟨0, 0, none⟩ = some (.int .i64 m)) (s : ByteArray) (hs : s.size ≤ 2097152) : SemX prog 26 [.one (.t (.str s)), .one (.t (.str ⟨#[32]⟩))] [] [.one (.sl true 1 ((pieces s).map eS))] [] := by
  intro w fz Sa So hs' vs hI hfz hS hdj ha ho
  obtain ⟨m, hm⟩ := hML w hI
  simp only [ARepL, ARep, CRep, OwT] at ha
  obtain ⟨_, _, _, _, rfl, _, _, rfl, _, _, _, _, rfl, _, _, rfl, rfl⟩ := ha
  simp only [ObRepL] at ho
  subst ho
  have hl : (pieces s).length = Lib.countB s b32 + 1 := Lib.splitB_all b32 (by decide) 0 _ s rfl
  have hpl := pieces_len s
  have hcall : Calls prog 26 #[.string s, .string ⟨#[32]⟩] w fun e w' => e = .returned (.slice (some ⟨w.heap.size, 0, none⟩) (pieces s).length (pieces s).length) ∧ w' = w.alloc (.cells ((pieces s).map Value.string).toArray 9) := by
    rw [hl]
    exact Go.Proofs.Tryd.strings_Split s ⟨#[32]⟩ m w (by omega) hm (by decide)
  clear hl
  generalize pieces s = ps at hcall hpl ⊢
  obtain ⟨f1, f2, f3, f4, f5, f6⟩ := alloc_facts w (.cells (ps.map Value.string).toArray 9)
  refine hcall.mono ?_
  rintro e w' ⟨rfl, rfl⟩
  generalize w.alloc (.cells (ps.map Value.string).toArray 9) = w' at f1 f2 f3 f4 f5 f6 ⊢
  refine ⟨_, fz, fun b => b = w.heap.size, fun _ => False, ⟨rfl, f4, f5, f6, by omega, fun b hb _ => f2 b hb, fun _ h => h, fun b hb => ⟨by have := hfz b hb; omega, .inl hb⟩, ?_, fun _ _ h => h, ?_, ?_⟩⟩
  · rintro b (rfl | h)
    · exact ⟨by omega, fun hf => by have := hfz _ hf; omega, .inr (Nat.le_refl _)⟩
    · exact h.elim
  · refine ⟨[.slice (some ⟨w.heap.size, 0, none⟩) ps.length ps.length], ?_, rfl⟩
    simp only [RRepL, RRep]
    refine ⟨_, _, fun b => b = w.heap.size, fun _ => False, rfl, fun b hb => ⟨hb, id⟩, fun _ h => h.elim, ?_, rfl⟩
    simp only [OwT, List.length_map]
    refine ⟨some ⟨w.heap.size, 0, none⟩, ps.length, rfl, Nat.le_refl _, by unfold maxLen; omega, .inr ⟨w.heap.size, (ps.map Value.string).toArray, 9, rfl, rfl, f3, by simp, ?_⟩⟩
    rw [Nat.mul_one, List.take_of_length_le (by simp)]
    exact (strRows_ok ps).sub fun _ h => h.elim
  · simp only [ObRepL]
end Go.H
end
section
set_option maxRecDepth 100000
set_option maxHeartbeats 4000000
set_option linter.unusedVariables false
set_option linter.unusedSimpArgs false
namespace Go.H
open Go Go.Proofs.Tryd
variable [Inv prog]
theorem s_impl_wordsOf_1 (s : ByteArray) : SemX prog 27 [.one (.t (.str s))] [] [rB (decide (s = ⟨#[]⟩))] [] := by
 refine goF [] [] [] func27 ?_
 refine D ?_
 exact E trivial
end Go.H
end
section
set_option maxRecDepth 100000
set_option maxHeartbeats 4000000
set_option linter.unusedVariables false
set_option linter.unusedSimpArgs false
namespace Go.H
open Go Go.Proofs.Tryd
variable [Inv prog]
theorem s_impl_wordsOf (s : ByteArray) (hs : s.size ≤ 2097152) (hML : ∀ w : World, Inv.I prog w → ∃ m, w.cell? ⟨0, 0, none⟩ = some (.int .i64 m)) : SemX prog 15 [.one (.t (.str s))] [] [.one (.sl true 1 ((wordsL s).map eS))] [] := by
 refine goF [] [] [] func15 ?_
 have hpl := pieces_len s
 refine D ?_
 refine kR (s_strings_Split hML s hs) ?_
 refine D ?_
 refine kRk [] [20480] [] (s_slices_DeleteFunc_string (pieces s) (by omega) 27 (fun s => decide (s = ⟨#[]⟩)) (by kernel_rfl) s_impl_wordsOf_1) ?_
 refine D ?_
 refine E ?_
 first
 | exact trivial
 | have he : wordsL s = keepF (fun s => decide (s = ⟨#[]⟩)) (pieces s) := by
     unfold wordsL keepF
     congr 1
     funext z
     rw [isWord_iff]
     first | done | simp
   rw [he]
end Go.H
end
section
set_option maxRecDepth 100000
set_option maxHeartbeats 4000000
set_option linter.unusedVariables false
set_option linter.unusedSimpArgs false
namespace Go.H
open Go Go.Proofs.Tryd
variable [Inv prog]
theorem s_impl_WordsOf (s : ByteArray) (hs : s.size ≤ 2097152) (hML : ∀ w : World, Inv.I prog w → ∃ m, w.cell? ⟨0, 0, none⟩ = some (.int .i64 m)) : SemX prog 6 [.one (.t (.str s))] [] [.agg (eWordsResult true ⟨0, wordsL s⟩)] [] := by
 refine goF [] [] [] func6 ?_
 refine D ?_
 refine kR (s_impl_wordsOf s hs hML) ?_
 refine D ?_
 exact E trivial
end Go.H
end
section
set_option maxRecDepth 100000
set_option maxHeartbeats 4000000
set_option linter.unusedVariables false
set_option linter.unusedSimpArgs false
namespace Go.H
open Go Go.Proofs.Tryd
variable [Inv prog]
theorem s_laws_eqStringS (xs : List ByteArray) (hl : xs.length ≤ 2097153) : SemX prog 16 [aT (.sl false 1 (xs.map eS)), aT (.sl false 1 (xs.map eS))] [] [rB true] [] := by
 refine goF [] [] [] func16 ?_
 refine D ?_
 refine cF ?_
 refine D ?_
 refine L (α := Nat) (fun x => [(5, .int .i64 x)]) (fun x => []) (fun x => xs.length - x) (fun x => x ≤ xs.length) 0 [] (fun x hI => ?_)
 refine D ?_
 refine cC (fun c1 => ?_) (fun c1 => ?_)
 · skip
   refine D ?_
   refine cF ?_
   refine D ?_
   exact N (x+1) []
 · skip
   refine D ?_
   exact E trivial
end Go.H
end
section
set_option maxRecDepth 100000
set_option maxHeartbeats 4000000
set_option linter.unusedVariables false
set_option linter.unusedSimpArgs false
namespace Go.H
open Go Go.Proofs.Tryd
variable [Inv prog]
theorem s_laws_eqWordsResult (x : WordsResult) (hx : x.words.length ≤ 2097153) : SemX prog 7 [aS (eWordsResult false x), aS (eWordsResult false x)] [] [rB true] [] := by
 refine goF [] [] [] func7 ?_
 refine D ?_
 refine cF ?_
 refine D ?_
 refine kR (s_laws_eqStringS x.words hx) ?_
 refine D ?_
 refine cF ?_
 refine D ?_
 exact E trivial
end Go.H
end
section
set_option maxRecDepth 100000
set_option maxHeartbeats 4000000
set_option linter.unusedVariables false
set_option linter.unusedSimpArgs false
namespace Go.H
open Go Go.Proofs.Tryd
variable [Inv prog]
theorem s_laws_markText (k : Int) (hk : k ≤ 9000000000000000000) : SemX prog 28 [aI k] [] [.one (.str (mtext k))] [] := by
 refine goF [(36, ⟨some 1, none, none, none⟩)] [] [] func28 ?_
 refine D ?_
 refine cC (fun c0 => ?_) (fun c0 => ?_)
 · skip
   refine D ?_
   refine E ?_
   have he : mtext k = ⟨#[109, 48]⟩ := by unfold mtext; exact if_pos c0
   rw [he]
 · skip
   refine D ?_
   refine L (α := Int × ByteArray) (fun x => [(0, .int .i64 x.1), (3, .str x.2)]) (fun x => []) (fun x => x.1.toNat) (fun x => 0 ≤ x.1 ∧ x.1 + x.2.size ≤ k ∧ mtF x.1 x.2 = mtF k ⟨#[]⟩) (k, ⟨#[]⟩) [] (fun x hL => ?_) (hi := by
         have hz : (⟨#[]⟩ : ByteArray).size = 0 := rfl
         exact ⟨by omega, by show k + (((⟨#[]⟩ : ByteArray).size : Nat) : Int) ≤ k; rw [hz]; omega, rfl⟩)
   obtain ⟨h0, h1, h2⟩ := hL
   refine D ?_
   refine cC (fun c1 => ?_) (fun c1 => ?_)
   · skip
     have h3 := tdiv_lt (k := x.1) (by omega)
     have hw := wrap_u8 (48 + x.1.tmod 10)
     have hds : (⟨[UInt8.ofNat (IntKind.wrap .u8 (48 + x.1.tmod 10)).toNat].toArray⟩ : ByteArray).size = 1 := rfl
     refine D ?_
     refine lp_next (x.1.tdiv 10, dg x.1 ++ x.2) [] ?_ ?_ ?_
     · simp only [go_sem] <;> and_intros <;> first | with_reducible exact rfl | (first | with_reducible exact rfl | omega | exact rfl | (simp only [dg]))
     · exact ⟨h3.1, by simp [dg_size]; omega, by rw [← mtF_pos (by omega)]; exact h2⟩
     · omega
   · skip
     refine D ?_
     refine E ?_
     have he : mtext k = ⟨#[109]⟩ ++ x.2 := by unfold mtext; rw [if_neg c0, ← h2, mtF_zero (by omega)]
     rw [he]
end Go.H
end
section
set_option maxRecDepth 100000
set_option maxHeartbeats 4000000
set_option linter.unusedVariables false
set_option linter.unusedSimpArgs false
namespace Go.H
open Go Go.Proofs.Tryd
variable [Inv prog]
section
attribute [local go_sem] List.set_set mkL_length
theorem s_laws_markStringS (xs : List ByteArray) (k : Int) (hk : 0 ≤ k) (hl : xs.length ≤ 2097153) (hb : mkK sT xs k ≤ 9000000000000000000) : SemX prog 17 [.one (.arr 0), aI k] [.arr 1 (xs.map eS)] [rI (mkK sT xs k)] [.arr 1 ((mkL mT sT xs k).map eS)] := by
 refine goF [] [] [] func17 ?_
 refine D ?_
 refine L (α := Nat) (fun x => [(1, .int .i64 (mkK sT (xs.take x) k)), (5, .int .i64 x)]) (fun x => [(1000000, .arr ⟨1, (mkL mT sT (xs.take x) k ++ xs.drop x).map eS, 1 + 1 * x, none⟩)]) (fun x => xs.length - x) (fun x => x ≤ xs.length) 0 [] (fun x hI => ?_) (by simp only [go_sem] <;> and_intros <;> first | with_reducible exact rfl | (first | omega | (simp [mkL, mkK]; done)))
 refine D ?_
 refine cC (fun c0 => ?_) (fun c0 => ?_)
 · skip
   have hat := mkK_at sT_up zS (xs := xs) (i := x) (by omega) hb
   simp only [sT] at hat
   have hg : ∀ r, (((mkL mT sT (xs.take x) k ++ xs.drop x).map eS).set x r).getD x dS = r := fun r => getD_set_self (by simp [mkL_length]; omega) r _
   have hA := And.intro hg ((mk_getD mT sT zS k (show x < xs.length by omega)))
   refine D ?_
   refine kR (s_laws_markText (mkK sT (xs.take x) k) (by have := sT_up (xs.getD x zS) (mkK sT (xs.take x) k); omega)) ?_
   refine D ?_
   refine lp_next (x+1) [] ?_ ?_ ?_
   · simp only [go_sem, hA] <;> and_intros <;> first | with_reducible exact rfl | (first | omega | (refine int_eq ?_; rw [mkK_succ sT zS (by omega)]; rfl) | (refine arr_eq ?_ (by omega); rw [← mk_step eS mT sT zS (by omega)]; simp only [eS, mT]))
   · omega
   · omega
 · skip
   obtain rfl : x = xs.length := by omega
   refine D ?_
   refine E ?_
   first
   | exact trivial
   | simp only [go_sem, List.drop_length, mkL_length]; done
   | try simp only [go_sem, List.drop_length, mkL_length]
     simp [mkL_length]
end
end Go.H
end
section
set_option maxRecDepth 100000
set_option maxHeartbeats 4000000
set_option linter.unusedVariables false
set_option linter.unusedSimpArgs false
namespace Go.H
open Go Go.Proofs.Tryd
variable [Inv prog]
theorem s_laws_markWordsResult (c : Int) (ws : List ByteArray) (hx : ws.length ≤ 2097153) (k : Int) (hk : 0 ≤ k) (hb : mkK sT ws k ≤ 9000000000000000000) : SemX prog 8 [.agg [.t (.int .i64 c), .arr 0], aI k] [.arr 1 (ws.map eS)] [rI (mkK sT ws k)] [.arr 1 ((mkL mT sT ws k).map eS)] := by
 refine goF [] [] [] func8 ?_
 refine D ?_
 refine kRk [1000000] [] [] (s_laws_markStringS ws k hk hx hb) ?_
 refine D ?_
 refine E ?_
 first
 | exact trivial
 | simp only [go_sem, mkL_length]
end Go.H
end
section
set_option maxRecDepth 100000
set_option maxHeartbeats 4000000
set_option linter.unusedVariables false
set_option linter.unusedSimpArgs false
namespace Go.H
open Go Go.Proofs.Tryd
variable [Inv prog]
section
attribute [local go_sem] mkL_length mT
theorem s_laws_heldStringS (xs : List ByteArray) (k : Int) (hk : 0 ≤ k) (hl : xs.length ≤ 2097153) (hb : mkK sT xs k ≤ 9000000000000000000)  : SemX prog 18 [aT (.sl false 1 ((mkL mT sT xs k).map eS)), aI k] [] [rI (mkK sT xs k)] [] := by
 refine goF [] [] [] func18 ?_
 refine D ?_
 refine L (α := Nat) (fun x => [(1, .int .i64 (mkK sT (xs.take x) k)), (5, .int .i64 x)]) (fun x => []) (fun x => xs.length - x) (fun x => x ≤ xs.length) 0 [] (fun x hI => ?_) (by simp only [go_sem] <;> and_intros <;> first | with_reducible exact rfl | (first | omega | (simp [mkK]; done)))
 refine D ?_
 refine cC (fun c0 => ?_) (fun c0 => ?_)
 · skip
   have hat := mkK_at sT_up zS (xs := xs) (i := x) (by omega) hb
   simp only [sT] at hat
   have hg := mkL_getD mT sT zS k (show x < xs.length by omega)
   have hA := hg
   refine D ?_
   refine kD (s_laws_markText (mkK sT (xs.take x) k) (by have := sT_up (xs.getD x zS) (mkK sT (xs.take x) k); omega)) ?_
   refine D ?_
   refine cF ?_
   refine D ?_
   refine lp_next (x+1) [] ?_ ?_ ?_
   · simp only [go_sem, hA] <;> and_intros <;> first | with_reducible exact rfl | (first | omega | (refine int_eq ?_; rw [mkK_succ sT zS (by omega)]; rfl))
   · omega
   · omega
 · skip
   obtain rfl : x = xs.length := by omega
   refine D ?_
   refine E ?_
   first
   | exact trivial
   | simp [mkL_length]
end
end Go.H
end
section
set_option maxRecDepth 100000
set_option maxHeartbeats 4000000
set_option linter.unusedVariables false
set_option linter.unusedSimpArgs false
namespace Go.H
open Go Go.Proofs.Tryd
variable [Inv prog]
section
attribute [local go_sem] mkL_length
theorem s_laws_heldWordsResult (c : Int) (ws : List ByteArray) (hx : ws.length ≤ 2097153) (k : Int) (hk : 0 ≤ k) (hb : mkK sT ws k ≤ 9000000000000000000) : SemX prog 9 [aS (eWordsResult false ⟨c, mkL mT sT ws k⟩), aI k] [] [rI (mkK sT ws k)] [] := by
 refine goF [] [] [] func9 ?_
 refine D ?_
 refine kR (s_laws_heldStringS ws k hk hx hb) ?_
 refine D ?_
 refine cC (fun c0 => ?_) (fun c0 => ?_)
 · skip
   exfalso
   have := mkK_mono sT_up ws k
   omega
 · skip
   refine D ?_
   exact E trivial
end
end Go.H
end
section
set_option maxRecDepth 100000
set_option maxHeartbeats 4000000
set_option linter.unusedVariables false
set_option linter.unusedSimpArgs false
namespace Go.H
open Go Go.Proofs.Tryd
variable [Inv prog]
section
attribute [local go_sem] mkL_length mkL_take
theorem s_laws_FnExactWordsOf (s : ByteArray) (hML : ∀ w : World, Inv.I prog w → ∃ m, w.cell? ⟨0, 0, none⟩ = some (.int .i64 m)) : SemX prog 3 [.one (.t (.str s))] [] [rB true] [] := by
 refine goF [] [] [] func3 ?_
 refine D ?_
 refine cC (fun c0 => ?_) (fun c0 => ?_)
 · skip
   refine D ?_
   exact E trivial
 · skip
   have hs : s.size ≤ 2097152 := by simp at c0; omega
   have hwl : (wordsL s).length ≤ s.size + 1 := Nat.le_trans (List.length_filter_le ..) (pieces_len s)
   have hbw := mkT_bd (wordsL s) 1
   have huw := mkK_mono sT_up (wordsL s) 1
   refine D ?_
   refine kR (s_spec_WordsOf s hs) ?_
   refine D ?_
   refine kR (s_impl_WordsOf s hs hML) ?_
   refine D ?_
   refine kR (s_laws_eqWordsResult ⟨0, wordsL s⟩ (show (wordsL s).length ≤ 2097153 by omega)) ?_
   refine D ?_
   refine cF ?_
   refine D ?_
   refine kRk [61441] [] [] (s_laws_markWordsResult 0 (wordsL s) (by omega) 1 (by omega) (by omega)) ?_
   refine D ?_
   refine kR (s_laws_heldWordsResult 0 (wordsL s) (by omega) 1 (by omega) (by omega)) ?_
   refine D ?_
   refine cC (fun c2 => ?_) (fun c2 => ?_)
   · skip
     exfalso
     revert c2
     simp
     omega
   · skip
     refine D ?_
     refine cF ?_
     refine D ?_
     refine kR (s_impl_WordsOf s hs hML) ?_
     refine D ?_
     refine kR (s_laws_eqWordsResult ⟨0, wordsL s⟩ (show (wordsL s).length ≤ 2097153 by omega)) ?_
     refine D ?_
     refine cF ?_
     refine D ?_
     refine kR (s_laws_heldWordsResult 0 (wordsL s) (by omega) 1 (by omega) (by omega)) ?_
     refine D ?_
     refine cC (fun c5 => ?_) (fun c5 => ?_)
     · skip
       exfalso
       revert c5
       simp
       omega
     · skip
       refine D ?_
       refine cF ?_
       refine D ?_
       exact E trivial
end
end Go.H
end
