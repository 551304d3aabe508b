/- strconv.FormatInt at base 10 as a contract of E. Conditions: a number of 64 bits, the table of powers in memory. -/
import Derived.Test.YtablhckgkgaaeaaDoorZeLoop
import Derived.KernelRfl
import Derived.Shelf.Strconv.Itoa4
import Derived.Test.YtablhckgkgaaeaaDoorProg
set_option maxRecDepth 100000
set_option linter.unusedVariables false
namespace Go.Proofs
open Go.Shelf
def Tryd.lays173_ren : Go.Shelf.Ren := ⟨(fun | 173 => 47 | 246 => 51 | 283 => 56 | 284 => 57 | 285 => 58 | 286 => 59 | 129 => 66 | 317 => 65 | 318 => 67 | 319 => 68 | 320 => 69 | 337 => 72 | 338 => 73 | n => n), (fun | 2 => 2 | 3 => 3 | 9 => 9 | 4 => 4 | 171 => 64 | 0 => 0 | 53 => 65 | 37 => 54 | 5 => 5 | 173 => 68 | 212 => 73 | 51 => 74 | 20 => 20 | 213 => 75 | 46 => 71 | 232 => 85 | 233 => 86 | n => n), (fun | 17 => 1 | 18 => 4 | 19 => 5 | n => n)⟩
theorem Tryd.lays173 : LaysM.n173 Tryd.prog Tryd.lays173_ren := {
  mixed := by kernel_rfl,
  i171 := by kernel_rfl,
  i212 := by kernel_rfl,
  i232 := by kernel_rfl,
  i233 := by kernel_rfl,
  f129 := Tryd.func66.trans (congrArg some (by kernel_rfl)),
  f173 := Tryd.func47.trans (congrArg some (by kernel_rfl)),
  f246 := Tryd.func51.trans (congrArg some (by kernel_rfl)),
  f283 := Tryd.func56.trans (congrArg some (by kernel_rfl)),
  f284 := Tryd.func57.trans (congrArg some (by kernel_rfl)),
  f285 := Tryd.func58.trans (congrArg some (by kernel_rfl)),
  f286 := Tryd.func59.trans (congrArg some (by kernel_rfl)),
  f317 := Tryd.func65.trans (congrArg some (by kernel_rfl)),
  f318 := Tryd.func67.trans (congrArg some (by kernel_rfl)),
  f319 := Tryd.func68.trans (congrArg some (by kernel_rfl)),
  f320 := Tryd.func69.trans (congrArg some (by kernel_rfl)),
  f337 := Tryd.func72.trans (congrArg some (by kernel_rfl)),
  f338 := Tryd.func73.trans (congrArg some (by kernel_rfl)),
  t0 := Tryd.underlying0,
  a0 := Tryd.isAgg0,
  z0 := Tryd.sizeOf0,
  v0 := Tryd.zeroValue0,
  t2 := Tryd.underlying2,
  a2 := Tryd.isAgg2,
  z2 := Tryd.sizeOf2,
  v2 := Tryd.zeroValue2,
  t3 := Tryd.underlying3,
  a3 := Tryd.isAgg3,
  z3 := Tryd.sizeOf3,
  v3 := Tryd.zeroValue3,
  t4 := Tryd.underlying4,
  a4 := Tryd.isAgg4,
  z4 := Tryd.sizeOf4,
  v4 := Tryd.zeroValue4,
  t5 := Tryd.underlying5,
  a5 := Tryd.isAgg5,
  z5 := Tryd.sizeOf5,
  v5 := Tryd.zeroValue5,
  t9 := Tryd.underlying9,
  a9 := Tryd.isAgg9,
  z9 := Tryd.sizeOf9,
  v9 := Tryd.zeroValue9,
  t20 := Tryd.underlying20,
  a20 := Tryd.isAgg20,
  z20 := Tryd.sizeOf20,
  v20 := Tryd.zeroValue20,
  t37 := Tryd.underlying54,
  a37 := Tryd.isAgg54,
  z37 := Tryd.sizeOf54,
  v37 := Tryd.zeroValue54,
  t46 := Tryd.underlying71,
  a46 := Tryd.isAgg71,
  z46 := Tryd.sizeOf71,
  v46 := Tryd.zeroValue71,
  t51 := Tryd.underlying74,
  a51 := Tryd.isAgg74,
  z51 := Tryd.sizeOf74,
  v51 := Tryd.zeroValue74,
  t53 := Tryd.underlying65,
  a53 := Tryd.isAgg65,
  z53 := Tryd.sizeOf65,
  v53 := Tryd.zeroValue65,
  t171 := Tryd.underlying64,
  a171 := Tryd.isAgg64,
  z171 := Tryd.sizeOf64,
  v171 := Tryd.zeroValue64,
  t173 := Tryd.underlying68,
  a173 := Tryd.isAgg68,
  z173 := Tryd.sizeOf68,
  v173 := Tryd.zeroValue68,
  t212 := Tryd.underlying73,
  a212 := Tryd.isAgg73,
  z212 := Tryd.sizeOf73,
  v212 := Tryd.zeroValue73,
  t213 := Tryd.underlying75,
  a213 := Tryd.isAgg75,
  z213 := Tryd.sizeOf75,
  t232 := Tryd.underlying85,
  a232 := Tryd.isAgg85,
  z232 := Tryd.sizeOf85,
  v232 := Tryd.zeroValue85,
  t233 := Tryd.underlying86,
  a233 := Tryd.isAgg86,
  z233 := Tryd.sizeOf86,
  v233 := Tryd.zeroValue86,
  g17 := by kernel_rfl,
  g18 := by kernel_rfl,
  g19 := by kernel_rfl,
  i0 := by kernel_rfl,
  i2 := by kernel_rfl,
  i3 := by kernel_rfl,
  i4 := by kernel_rfl,
  i5 := by kernel_rfl,
  i9 := by kernel_rfl,
  i20 := by kernel_rfl,
  i37 := by kernel_rfl,
  i46 := by kernel_rfl,
  i51 := by kernel_rfl,
  i53 := by kernel_rfl,
  i173 := by kernel_rfl,
  m17 := by kernel_rfl,
  m18 := by kernel_rfl,
  m19 := by kernel_rfl }
end Go.Proofs
namespace Go.E
open Go Go.Proofs.Tryd

theorem Grows.of_grow (w : World) (k : Nat) (os : Array Obj) : Grows w (Sort.grow (w.drewN k) os) := by
  refine ⟨rfl, rfl, rfl, ?_, fun b hb => ?_⟩
  · show w.heap.size ≤ (w.heap ++ os).size
    simp
  · show (w.heap ++ os)[b]? = w.heap[b]?
    simp [Array.getElem?_append, hb]

theorem var_stable {w w' : World} {n : String} {cs : Array Value} (hs : w.heap.size ≤ w'.heap.size) (ho : ∀ b, b < w.heap.size → w'.heap[b]? = w.heap[b]?) (h : w.var? prog n = some cs) : w'.var? prog n = some cs := by
  unfold World.var? at *
  cases hg : prog.globalNamed n with
  | none => rw [hg] at h; cases h
  | some g =>
    rw [hg] at h
    simp only [Option.bind_some] at h ⊢
    have hlt : g < w.heap.size := by
      rcases Nat.lt_or_ge g w.heap.size with h' | h'
      · exact h'
      · rw [Array.getElem?_eq_none h'] at h; simp at h
    rw [ho g hlt]
    exact h

instance : Inv prog where
  I := fun w => Lib.TabIs prog w "internal/strconv.uint64pow10" .u64 Lib.pow10Tab
  stable := fun w w' hs ho h => var_stable hs ho h
  mixed := by rfl

def itoaB (n : Int) : ByteArray := ⟨(Lib.itoa n).toArray⟩

theorem nDigits_le : ∀ (k u : Nat), u < 10 ^ (k + 1) → Lib.nDigits u ≤ k + 1
  | 0, u, h => by rw [Lib.nDigits_small (by simpa using h)]; omega
  | k + 1, u, h => by
    by_cases h10 : u < 10
    · rw [Lib.nDigits_small h10]; omega
    · rw [Lib.nDigits_big h10]
      have : u / 10 < 10 ^ (k + 1) := by
        rw [Nat.div_lt_iff_lt_mul (by omega)]
        rw [Nat.pow_succ] at h
        exact h
      have := nDigits_le k _ this
      omega
theorem itoaB_size {n : Int} (h0 : -9223372036854775808 ≤ n) (h1 : n ≤ 9223372036854775807) : (itoaB n).size ≤ 20 := by
  show (Lib.itoa n).toArray.size ≤ 20
  rw [List.size_toArray]
  have key : ∀ u : Nat, u ≤ 9223372036854775808 → (Lib.decDigits u).length ≤ 19 := fun u hu => by
    rw [Lib.decDigits_length]
    exact nDigits_le 18 u (by have : (10 : Nat) ^ (18 + 1) = 10000000000000000000 := by decide
                              omega)
  by_cases h : n < 0
  · obtain ⟨u, rfl⟩ : ∃ u : Nat, n = -(u : Int) := ⟨(-n).toNat, by omega⟩
    rw [Lib.itoa_neg u (by omega)]
    have := key u (by omega)
    simp only [List.length_cons]
    omega
  · obtain ⟨u, rfl⟩ : ∃ u : Nat, n = (u : Int) := ⟨n.toNat, by omega⟩
    rw [Lib.itoa_nonneg]
    have := key u (by omega)
    omega

theorem sem47 (n : Int) (h0 : -9223372036854775808 ≤ n) (h1 : n ≤ 9223372036854775807) : SemR prog 47 [.one (.int .i64 n), .one (.int .i64 10)] [.one (.str (itoaB n))] := by
  intro w G vs hI hG hlab hargs
  simp only [RoArgs, RoTV, RoT] at hargs
  obtain ⟨u, us, rfl, rfl, u2, us2, rfl, rfl, rfl⟩ := hargs
  refine (Go.Proofs.Any.strconv_FormatInt_10 lays173 n h0 h1 w hI).mono ?_
  rintro e w' ⟨rfl, k, os, rfl⟩
  have hg := Grows.of_grow w k os
  refine ⟨_, G, rfl, ⟨hg.os, hg.tape, hg.output, hg.size, fun b hb _ => ⟨hg.old b hb, id, id⟩⟩, fun b hb => hlab b (Nat.le_trans hg.size hb), [.string (itoaB n)], ?_, rfl⟩
  simp only [ResTVs, ResTV, OwT]
  exact ⟨_, _, rfl, rfl, rfl⟩
end Go.E
