/- AncestorsOf of the program and of the reference. -/
import Derived.Test.YtmpfkmbfbeejhaaCommon
namespace Go.Proofs.Ytmpfkmbfbeejhaa
open Go.RowKit
set_option linter.unusedVariables false

/-- What AncestorsOf returns: the code, and the numbers. -/
def ancC (vs : List VerZ) (x : Int) : Int := codeV vs [x]
def ancR (vs : List VerZ) (x : Int) : List Int := if ancC vs x = 0 then (lineV vs x.toNat).tail else []
theorem FrI.mono {w : World} {lo hi lo' hi' : Nat} {e : TypeId} {A : Option Addr} {n : Nat} {xs : List Int} (h : FrI w lo hi e A n xs) (h1 : lo' ≤ lo) (h2 : hi ≤ hi') : FrI w lo' hi' e A n xs := ⟨h.1.mono h1 h2, h.2⟩
theorem tail_mem {α : Type} {l : List α} {x : α} (h : x ∈ l.tail) : x ∈ l := List.mem_of_mem_tail h

theorem RdI.ownSmall {w : World} {base c n : Nat} {A : Option Addr} {vs : List VerZ} {k : Nat} (hh : histB vs = true) (hk : k ≤ 1048576) (h : w.ownsRow base 2 1 (.slice A n c) n (cI (lineV vs k).tail)) :
    FrI w base w.heap.size 2 A n (lineV vs k).tail := FrI.of_own h (fun x hx => line_i64 hh hk x (tail_mem hx))

theorem Fr.tail {w : World} {lo hi b off : Nat} {e : TypeId} {n : Nat} {u : Value} {cs : List Value} (h : Fr w lo hi e 1 (some ⟨b, off, none⟩) (n + 1) (u :: cs)) : Fr w lo hi e 1 (some ⟨b, off + 1, none⟩) n cs := by
  refine ⟨by have := h.1; simp at this ⊢; omega, fun hn => ?_⟩
  obtain ⟨b', off', cur, hA, hl, hh, hc, hr⟩ := h.2 (by omega)
  injection hA with hA
  injection hA with hb ho
  subst hb ho
  refine ⟨b, off + 1, cur, rfl, hl, hh, hc, fun j v hv => ?_⟩
  have := hr (j + 1) v (by simpa using hv)
  rwa [show off + 1 + j = off + (j + 1) by omega]

end Go.Proofs.Ytmpfkmbfbeejhaa
