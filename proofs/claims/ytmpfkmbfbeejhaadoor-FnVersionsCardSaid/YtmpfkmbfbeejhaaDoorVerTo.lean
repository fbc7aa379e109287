/- Versions that the call has made: the laws' helpers toVersion and toVersionS. -/
import Derived.Test.YtmpfkmbfbeejhaaDoorVer
namespace Go.Proofs.YtmpfkmbfbeejhaaDoor
open Go.RowKit
set_option linter.unusedVariables false

theorem Tryd.infoVersion : (Tryd.prog.info? 48).map (fun i => (i.zero, i.size, i.bytes)) = some (some (.agg #[.int .i64 0, .int .i64 0, .string ⟨#[]⟩, .slice none 0 0]), 4, 56) := by kernel_rfl

theorem heap3 (w : World) (X Y Z : Obj) : (((w.alloc X).alloc Y).alloc Z).heap[w.heap.size + 1]? = some Y ∧ (((w.alloc X).alloc Y).alloc Z).heap[w.heap.size + 1 + 1]? = some Z := by
  have e : (((w.alloc X).alloc Y).alloc Z).heap = ((w.heap.push X).push Y).push Z := rfl
  rw [e]
  constructor
  · rw [Array.getElem?_push, if_neg (by simp), show w.heap.size + 1 = (w.heap.push X).size by simp, Array.getElem?_push_size]
  · rw [show w.heap.size + 1 + 1 = ((w.heap.push X).push Y).size by simp, Array.getElem?_push_size]

/-- A version's parts are in their types' ranges. -/
def VerC.good (r : VerC) : Prop := I64 r.number ∧ I64 r.parent ∧ r.memo.size ≤ 9223372036854775807 ∧ r.state.length = r.n ∧ (∀ s ∈ r.state, s.fine) ∧ r.n ≤ 9223372036854775807
/-- The states lie apart: the j-th between f j and f (j + 1). -/
def Apart (w : World) (f : Nat → Nat) (rs : List VerC) : Prop := (∀ j, f j ≤ f (j + 1)) ∧ ∀ j r, rs[j]? = some r → Fr w (f j) (f (j + 1)) 57 2 r.A r.n (r.state.map cS).flatten
/-- The states lie apart: the j-th between p j and q j. -/
def ApartP (w : World) (p q : Nat → Nat) (rs : List VerC) : Prop := (∀ j, p j ≤ q j) ∧ (∀ i j, i < rs.length → j < rs.length → i ≠ j → q i ≤ p j ∨ q j ≤ p i) ∧ ∀ j r, rs[j]? = some r → Fr w (p j) (q j) 57 2 r.A r.n (r.state.map cS).flatten
/-- A slice of versions of the call's own, with its states, between lo and hi. -/
def FrV (w : World) (lo hi : Nat) (A : Option Addr) (n : Nat) (rs : List VerC) : Prop :=
  rs.length = n ∧ (∀ r ∈ rs, r.good) ∧ ∃ a0 a1, lo ≤ a0 ∧ a1 ≤ hi ∧ Fr w a0 a1 48 4 A n (rs.map cV).flatten ∧ ∃ p q, ApartP w p q rs ∧ (∀ j, j < n → lo ≤ p j ∧ q j ≤ hi) ∧ ∀ j, j < n → q j ≤ a0 ∨ a1 ≤ p j

theorem mono_of_step {f : Nat → Nat} (h : ∀ j, f j ≤ f (j + 1)) : ∀ {i j : Nat}, i ≤ j → f i ≤ f j := by
  intro i j hij
  induction j with
  | zero => rw [show i = 0 by omega]; exact Nat.le_refl _
  | succ j ih =>
    rcases Nat.lt_or_ge i (j + 1) with h1 | h1
    · exact Nat.le_trans (ih (by omega)) (h j)
    · rw [show i = j + 1 by omega]; exact Nat.le_refl _

theorem Apart.toP {w : World} {f : Nat → Nat} {rs : List VerC} (h : Apart w f rs) : ApartP w f (fun j => f (j + 1)) rs := by
  refine ⟨h.1, fun i j _ _ hij => ?_, h.2⟩
  rcases Nat.lt_or_ge i j with h1 | h1
  · exact .inl (mono_of_step h.1 (i := i + 1) (j := j) (by omega))
  · exact .inr (mono_of_step h.1 (i := j + 1) (j := i) (by omega))

section
variable {w w' : World} {lo hi : Nat} {A : Option Addr} {n : Nat} {rs : List VerC}
theorem FrV.rd (h : FrV w lo hi A n rs) : RdV w A n rs := by
  obtain ⟨hl, hg, a0, a1, h0, h1, hF, p, q, ha, hf1, hd⟩ := h
  refine ⟨hF.rd, hl, fun r hr => ?_⟩
  obtain ⟨j, hj, he⟩ := List.mem_iff_getElem.1 hr
  have hx := hg r hr
  refine ⟨hx.1, hx.2.1, hx.2.2.1, ⟨(ha.2.2 j r (by rw [List.getElem?_eq_getElem hj, he])).rd, hx.2.2.2.1, hx.2.2.2.2.1⟩, hx.2.2.2.2.2⟩
theorem FrV.below {B : Nat} (h : FrV w lo hi A n rs) (hb : Below B w w') (hB : hi ≤ B) : FrV w' lo hi A n rs := by
  obtain ⟨hl, hg, a0, a1, h0, h1, hF, p, q, ha, hf1, hd⟩ := h
  refine ⟨hl, hg, a0, a1, h0, h1, hF.below hb (by omega), p, q, ⟨ha.1, ha.2.1, fun j r hr => (ha.2.2 j r hr).below hb ?_⟩, hf1, hd⟩
  have hj := (List.getElem?_eq_some_iff.1 hr).1
  have := (hf1 j (by omega)).2
  omega
theorem FrV.wr {lo' hi' : Nat} (h : FrV w lo hi A n rs) (hw : Wr lo' hi' w w') (hd : hi ≤ lo' ∨ hi' ≤ lo) : FrV w' lo hi A n rs := by
  obtain ⟨hl, hg, a0, a1, h0, h1, hF, p, q, ha, hf1, hd'⟩ := h
  refine ⟨hl, hg, a0, a1, h0, h1, hF.wr hw (by omega), p, q, ⟨ha.1, ha.2.1, fun j r hr => (ha.2.2 j r hr).wr hw ?_⟩, hf1, hd'⟩
  have hj := (List.getElem?_eq_some_iff.1 hr).1
  have h2 := hf1 j (by omega)
  omega
theorem FrV.mono {lo' hi' : Nat} (h : FrV w lo hi A n rs) (h1 : lo' ≤ lo) (h2 : hi ≤ hi') : FrV w lo' hi' A n rs := by
  obtain ⟨hl, hg, a0, a1, h0, h1', hF, p, q, ha, hf1, hd⟩ := h
  exact ⟨hl, hg, a0, a1, by omega, by omega, hF, p, q, ha, fun j hj => ⟨Nat.le_trans h1 (hf1 j hj).1, Nat.le_trans (hf1 j hj).2 h2⟩, hd⟩
theorem RdV.good (h : RdV w A n rs) : ∀ r ∈ rs, r.good := fun r hr => by
  have := h.2.2 r hr
  exact ⟨this.1, this.2.1, this.2.2.1, this.2.2.2.1.2.1, this.2.2.2.1.2.2, this.2.2.2.2⟩
end

theorem Fr.narrow {w : World} {lo hi lo' hi' b off : Nat} {e : TypeId} {size n : Nat} {cs : List Value} (h : Fr w lo hi e size (some ⟨b, off, none⟩) n cs) (h1 : lo' ≤ b) (h2 : b < hi') : Fr w lo' hi' e size (some ⟨b, off, none⟩) n cs := by
  refine ⟨h.1, fun hn => ?_⟩
  obtain ⟨b', off', cur, hA, _, _, hh, hc⟩ := h.2 hn
  injection hA with hA
  injection hA with hb ho
  subst hb ho
  exact ⟨b, off, cur, rfl, h1, h2, hh, hc⟩
theorem own_lt {w : World} {base : Nat} {e : TypeId} {size g n c : Nat} {cs : List Value} (h : w.ownsRow base e size (.slice (some ⟨g, 0, none⟩) n c) n cs) : g < w.heap.size := by
  rcases h.2 with ⟨hv, _⟩ | ⟨g', cap, cur, hv, hb, hh, _⟩
  · cases hv
  · injection hv with hv
    injection hv with hv
    injection hv with hv
    subst hv
    exact (Array.getElem?_eq_some_iff.1 hh).1
theorem flatV_snoc {rs : List VerC} {r : VerC} : ((rs ++ [r]).map cV).flatten = (rs.map cV).flatten ++ [.int .i64 r.number, .int .i64 r.parent, .string r.memo, .slice r.A r.n r.c] := by simp [cV]
/-- Four cells stored one behind the other. -/
theorem take_set_snoc4 {α : Type} {l : List α} {k : Nat} {u v x y : α} (h : k * 4 + 3 < l.length) : ((((l.set (k * 4) u).set (k * 4 + 1) v).set (k * 4 + 2) x).set (k * 4 + 3) y).take ((k + 1) * 4) = l.take (k * 4) ++ [u, v, x, y] := by
  have e : (k + 1) * 4 = k * 4 + 1 + 1 + 1 + 1 := by omega
  rw [e, take_set_snoc (by simpa using h), take_set_snoc (by simp; omega), take_set_snoc (by simp; omega), take_set_snoc (by omega)]
  simp

theorem apart_snoc {w2 w5 wr : World} {lo hi k : Nat} {f : Nat → Nat} {rs' : List VerC} {r : VerC} (hap : Apart wr f rs') (hl : rs'.length = k) (hf0 : hi ≤ f 0) (hfk : f k = wr.heap.size) (hfe : ∀ j, k ≤ j → f j = f k)
    (hb2 : Below wr.heap.size wr w2) (hF : Fr w2 wr.heap.size w2.heap.size 57 2 r.A r.n (r.state.map cS).flatten) (hw : Wr lo hi w2 w5) (hs : w5.heap.size = w2.heap.size) :
    ∃ f', Apart w5 f' (rs' ++ [r]) ∧ f' 0 = f 0 ∧ f' (k + 1) = w5.heap.size ∧ ∀ j, k + 1 ≤ j → f' j = f' (k + 1) := by
  have hz := hb2.size
  have hfb : ∀ j, f j ≤ wr.heap.size := fun j => by
    rcases Nat.lt_or_ge j k with h1 | h1
    · have := mono_of_step hap.1 (i := j) (j := k) (by omega)
      omega
    · rw [hfe j h1]; omega
  have hlo : ∀ j, hi ≤ f j := fun j => Nat.le_trans hf0 (mono_of_step hap.1 (Nat.zero_le _))
  refine ⟨fun j => if j ≤ k then f j else w5.heap.size, ⟨fun j => ?_, fun j q hq => ?_⟩, by simp, by dsimp only; rw [if_neg (by omega)], fun j hj => ?_⟩
  · dsimp only
    split <;> split
    · exact hap.1 j
    · have := hfb j; omega
    · omega
    · exact Nat.le_refl _
  · dsimp only
    rcases Nat.lt_or_ge j k with h1 | h1
    · rw [List.getElem?_append_left (by omega)] at hq
      rw [if_pos (by omega), if_pos (by omega)]
      have h2 := (hap.2 j q hq).below hb2 (hfb (j + 1))
      exact h2.wr hw (.inr (hlo j))
    · have hj := (List.getElem?_eq_some_iff.1 hq).1
      rw [List.length_append, List.length_singleton] at hj
      obtain rfl : j = k := by omega
      rw [List.getElem?_append_right (by omega)] at hq
      have : q = r := by simpa [hl] using hq.symm
      subst this
      rw [if_pos (Nat.le_refl _), if_neg (by omega), hfk, hs]
      exact hF.wr hw (.inr (by rw [← hfk]; exact hlo _))
  · dsimp only
    rw [if_neg (by omega), if_neg (by omega)]

end Go.Proofs.YtmpfkmbfbeejhaaDoor
