/- Lists of versions by their plain values: the laws' helpers once more. -/
import Derived.Test.YtmpfkmbfbeejhaaDoorVerTo
namespace Go.Proofs.YtmpfkmbfbeejhaaDoor
open Go.RowKit
set_option linter.unusedVariables false

/-- A slice of versions that reads, plainly, as vs. -/
def RdVz (w : World) (A : Option Addr) (n : Nat) (vs : List VerZ) : Prop := ∃ rs, RdV w A n rs ∧ zV rs = vs
/-- A slice of versions of the call's own that reads, plainly, as vs. -/
def FrVz (w : World) (lo hi : Nat) (A : Option Addr) (n : Nat) (vs : List VerZ) : Prop := ∃ rs, FrV w lo hi A n rs ∧ zV rs = vs
/-- The states are no longer than what the laws let by. -/
def Short (vs : List VerZ) : Prop := ∀ v ∈ vs, v.state.length ≤ 1048576

section
variable {w w' : World} {lo hi : Nat} {A : Option Addr} {n : Nat} {vs : List VerZ}
theorem RdVz.below {B : Nat} (h : RdVz w A n vs) (hb : Below B w w') (hB : w.heap.size ≤ B) : RdVz w' A n vs := by
  obtain ⟨rs, h, e⟩ := h
  exact ⟨rs, h.below hb hB, e⟩
theorem RdVz.len (h : RdVz w A n vs) : vs.length = n := by
  obtain ⟨rs, h, rfl⟩ := h
  rw [zV_len]
  exact h.2.1
theorem FrVz.rd (h : FrVz w lo hi A n vs) : RdVz w A n vs := by
  obtain ⟨rs, h, e⟩ := h
  exact ⟨rs, h.rd, e⟩
theorem FrVz.below {B : Nat} (h : FrVz w lo hi A n vs) (hb : Below B w w') (hB : hi ≤ B) : FrVz w' lo hi A n vs := by
  obtain ⟨rs, h, e⟩ := h
  exact ⟨rs, h.below hb hB, e⟩
theorem FrVz.wr {lo' hi' : Nat} (h : FrVz w lo hi A n vs) (hw : Wr lo' hi' w w') (hd : hi ≤ lo' ∨ hi' ≤ lo) : FrVz w' lo hi A n vs := by
  obtain ⟨rs, h, e⟩ := h
  exact ⟨rs, h.wr hw hd, e⟩
theorem FrVz.mono {lo' hi' : Nat} (h : FrVz w lo hi A n vs) (h1 : lo' ≤ lo) (h2 : hi ≤ hi') : FrVz w lo' hi' A n vs := by
  obtain ⟨rs, h, e⟩ := h
  exact ⟨rs, h.mono h1 h2, e⟩
theorem Short.of {rs : List VerC} (h : RdV w A n rs) (hs : Short (zV rs)) : ∀ r ∈ rs, r.n ≤ 1048576 := fun r hr => by
  have h1 := (h.2.2 r hr).2.2.2.1.2.1
  have h2 := hs r.z (List.mem_map.2 ⟨r, hr, rfl⟩)
  simp only [VerC.z] at h2
  omega
end

end Go.Proofs.YtmpfkmbfbeejhaaDoor
