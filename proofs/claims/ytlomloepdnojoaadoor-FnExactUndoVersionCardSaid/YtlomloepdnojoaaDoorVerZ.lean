/- Lists of versions by their plain values: the laws' helpers once more. -/
import Derived.Test.YtlomloepdnojoaaDoorVerTo
namespace Go.Proofs.YtlomloepdnojoaaDoor
open Go.RowKit
set_option linter.unusedVariables false

/-- A slice of versions that reads, plainly, as vs. -/
def RdVz (w : World) (A : Option Addr) (n : Nat) (vs : List VerZ) : Prop := ∃ rs, RdV w A n rs ∧ zV rs = vs
/-- A slice of versions of the call's own that reads, plainly, as vs. -/
def FrVz (w : World) (lo hi : Nat) (A : Option Addr) (n : Nat) (vs : List VerZ) : Prop := ∃ rs, FrV w lo hi A n rs ∧ zV rs = vs
/-- The states are no longer than what the laws let by. -/
def Short (vs : List VerZ) : Prop := ∀ v ∈ vs, v.state.length ≤ 1048576

section
variable {w w' : World} {lo hi : Nat} {A : Option Addr} {n : Nat} {vs : List VerZ}
theorem RdVz.below {B : Nat} (h : RdVz w A n vs) (hb : Below B w w') (hB : w.heap.size ≤ B) : RdVz w' A n vs := by
  obtain ⟨rs, h, e⟩ := h
  exact ⟨rs, h.below hb hB, e⟩
theorem RdVz.len (h : RdVz w A n vs) : vs.length = n := by
  obtain ⟨rs, h, rfl⟩ := h
  rw [zV_len]
  exact h.2.1
theorem FrVz.rd (h : FrVz w lo hi A n vs) : RdVz w A n vs := by
  obtain ⟨rs, h, e⟩ := h
  exact ⟨rs, h.rd, e⟩
theorem FrVz.below {B : Nat} (h : FrVz w lo hi A n vs) (hb : Below B w w') (hB : hi ≤ B) : FrVz w' lo hi A n vs := by
  obtain ⟨rs, h, e⟩ := h
  exact ⟨rs, h.below hb hB, e⟩
theorem FrVz.wr {lo' hi' : Nat} (h : FrVz w lo hi A n vs) (hw : Wr lo' hi' w w') (hd : hi ≤ lo' ∨ hi' ≤ lo) : FrVz w' lo hi A n vs := by
  obtain ⟨rs, h, e⟩ := h
  exact ⟨rs, h.wr hw hd, e⟩
theorem FrVz.mono {lo' hi' : Nat} (h : FrVz w lo hi A n vs) (h1 : lo' ≤ lo) (h2 : hi ≤ hi') : FrVz w lo' hi' A n vs := by
  obtain ⟨rs, h, e⟩ := h
  exact ⟨rs, h.mono h1 h2, e⟩
theorem Short.of {rs : List VerC} (h : RdV w A n rs) (hs : Short (zV rs)) : ∀ r ∈ rs, r.n ≤ 1048576 := fun r hr => by
  have h1 := (h.2.2 r hr).2.2.2.1.2.1
  have h2 := hs r.z (List.mem_map.2 ⟨r, hr, rfl⟩)
  simp only [VerC.z] at h2
  omega
end

theorem szVersionSz_calls (A : Option Addr) (n c : Nat) (vs : List VerZ) (l : Int) (w : World) (h : RdVz w A n vs) (h0 : 0 ≤ l) (h1 : l ≤ 1048576) (hn : n ≤ 9223372036854775807) :
    Calls Tryd.prog 10 #[.slice A n c, .int .i64 l] w (SzPost l ((n : Int) ≤ l ∧ ∀ v ∈ vs, (v.memo.size : Int) ≤ l ∧ (v.state.length : Int) ≤ l) w) := by
  obtain ⟨rs, h, rfl⟩ := h
  refine (szVersionS_calls A n c rs l w h h0 h1 hn).mono ?_
  rintro e w' ⟨r, he, ha, hb, hf, hw⟩
  refine ⟨r, he, ha, hb, fun hr => ⟨(hf hr).1, fun v hv => ?_⟩, hw⟩
  obtain ⟨q, hq, rfl⟩ := List.mem_map.1 hv
  have h2 := (hf hr).2 q hq
  have h3 := (h.2.2 q hq).2.2.2.1.2.1
  refine ⟨h2.1, ?_⟩
  have := h2.2
  simp only [VerC.z]
  omega
theorem toVersionSz_calls (A : Option Addr) (n c : Nat) (vs : List VerZ) (w : World) (h : RdVz w A n vs) (hn : n ≤ 1048576) (hs : Short vs) :
    Calls Tryd.prog 12 #[.slice A n c] w fun e w' => ∃ A' c', e = .returned (.slice A' n c') ∧ FrVz w' w.heap.size w'.heap.size A' n vs ∧ Below w.heap.size w w' := by
  obtain ⟨rs, h, rfl⟩ := h
  refine (toVersionS_calls A n c rs w h hn (hs.of h)).mono ?_
  rintro e w' ⟨A', c', rs', he, hf, hz, _, hb⟩
  exact ⟨A', c', he, ⟨rs', hf, hz⟩, hb⟩
theorem eqVersionSz_calls (A A' : Option Addr) (n n' c c' : Nat) (vs ts : List VerZ) (w : World) (h : RdVz w A n vs) (h' : RdVz w A' n' ts) (hn : n ≤ 1048576) (hn' : n' ≤ 1048576) (hs : Short vs) (hs' : Short ts) :
    Calls Tryd.prog 14 #[.slice A n c, .slice A' n' c'] w fun e w' => e = .returned (.bool (decide (vs = ts))) ∧ Below w.heap.size w w' := by
  obtain ⟨rs, h, rfl⟩ := h
  obtain ⟨rs', h', rfl⟩ := h'
  exact eqVersionS_calls A A' n n' c c' rs rs' w h h' hn hn' (hs.of h) (hs'.of h')

end Go.Proofs.YtlomloepdnojoaaDoor
