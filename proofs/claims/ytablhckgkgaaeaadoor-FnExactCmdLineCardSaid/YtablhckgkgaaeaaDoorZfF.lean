/- strconv.FormatInt at base 10 as a contract of E. Conditions: a number of 64 bits, the table of powers in memory. -/
import Derived.Test.YtablhckgkgaaeaaDoorZeLoop
import Derived.KernelRfl
import Derived.Shelf.Strconv.Itoa4
import Derived.Shelf.Lay
import Derived.Ground.NamesProg
import Derived.Test.YtablhckgkgaaeaaDoorProg
set_option maxRecDepth 100000
set_option linter.unusedVariables false
namespace Go.Proofs
open Go.Shelf
shelf_lay LaysM.n173 Nm 173 at Tryd as Tryd.lays173
end Go.Proofs
namespace Go.E
open Go Go.Proofs.Tryd

theorem Grows.of_grow (w : World) (k : Nat) (os : Array Obj) : Grows w (Sort.grow (w.drewN k) os) := by
  refine ⟨rfl, rfl, rfl, ?_, fun b hb => ?_⟩
  · show w.heap.size ≤ (w.heap ++ os).size
    simp
  · show (w.heap ++ os)[b]? = w.heap[b]?
    simp [Array.getElem?_append, hb]

theorem var_stable {w w' : World} {n : String} {cs : Array Value} (hs : w.heap.size ≤ w'.heap.size) (ho : ∀ b, b < w.heap.size → w'.heap[b]? = w.heap[b]?) (h : w.var? prog n = some cs) : w'.var? prog n = some cs := by
  unfold World.var? at *
  cases hg : prog.globalNamed n with
  | none => rw [hg] at h; cases h
  | some g =>
    rw [hg] at h
    simp only [Option.bind_some] at h ⊢
    have hlt : g < w.heap.size := by
      rcases Nat.lt_or_ge g w.heap.size with h' | h'
      · exact h'
      · rw [Array.getElem?_eq_none h'] at h; simp at h
    rw [ho g hlt]
    exact h

instance : Inv prog where
  I := fun w => Lib.TabIs prog w "internal/strconv.uint64pow10" .u64 Lib.pow10Tab
  stable := fun w w' hs ho h => var_stable hs ho h
  mixed := by rfl

def itoaB (n : Int) : ByteArray := ⟨(Lib.itoa n).toArray⟩

theorem nDigits_le : ∀ (k u : Nat), u < 10 ^ (k + 1) → Lib.nDigits u ≤ k + 1
  | 0, u, h => by rw [Lib.nDigits_small (by simpa using h)]; omega
  | k + 1, u, h => by
    by_cases h10 : u < 10
    · rw [Lib.nDigits_small h10]; omega
    · rw [Lib.nDigits_big h10]
      have : u / 10 < 10 ^ (k + 1) := by
        rw [Nat.div_lt_iff_lt_mul (by omega)]
        rw [Nat.pow_succ] at h
        exact h
      have := nDigits_le k _ this
      omega
theorem itoaB_size {n : Int} (h0 : -9223372036854775808 ≤ n) (h1 : n ≤ 9223372036854775807) : (itoaB n).size ≤ 20 := by
  show (Lib.itoa n).toArray.size ≤ 20
  rw [List.size_toArray]
  have key : ∀ u : Nat, u ≤ 9223372036854775808 → (Lib.decDigits u).length ≤ 19 := fun u hu => by
    rw [Lib.decDigits_length]
    exact nDigits_le 18 u (by have : (10 : Nat) ^ (18 + 1) = 10000000000000000000 := by decide
                              omega)
  by_cases h : n < 0
  · obtain ⟨u, rfl⟩ : ∃ u : Nat, n = -(u : Int) := ⟨(-n).toNat, by omega⟩
    rw [Lib.itoa_neg u (by omega)]
    have := key u (by omega)
    simp only [List.length_cons]
    omega
  · obtain ⟨u, rfl⟩ : ∃ u : Nat, n = (u : Int) := ⟨n.toNat, by omega⟩
    rw [Lib.itoa_nonneg]
    have := key u (by omega)
    omega

theorem sem47 (n : Int) (h0 : -9223372036854775808 ≤ n) (h1 : n ≤ 9223372036854775807) : SemR prog 47 [.one (.int .i64 n), .one (.int .i64 10)] [.one (.str (itoaB n))] := by
  intro w G vs hI hG hlab hargs
  simp only [RoArgs, RoTV, RoT] at hargs
  obtain ⟨u, us, rfl, rfl, u2, us2, rfl, rfl, rfl⟩ := hargs
  refine (Go.Proofs.Any.strconv_FormatInt_10 lays173 n h0 h1 w hI).mono ?_
  rintro e w' ⟨rfl, k, os, rfl⟩
  have hg := Grows.of_grow w k os
  refine ⟨_, G, rfl, ⟨hg.os, hg.tape, hg.output, hg.size, fun b hb _ => ⟨hg.old b hb, id, id⟩⟩, fun b hb => hlab b (Nat.le_trans hg.size hb), [.string (itoaB n)], ?_, rfl⟩
  simp only [ResTVs, ResTV, OwT]
  exact ⟨_, _, rfl, rfl, rfl⟩
end Go.E
