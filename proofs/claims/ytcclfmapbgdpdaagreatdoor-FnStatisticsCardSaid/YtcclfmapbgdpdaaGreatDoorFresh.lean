/- Memory that a call has made: slices that lie in blocks lo .. hi, writable; what a write among such blocks leaves as it was. Over any program. -/
import Derived.Test.YtcclfmapbgdpdaaGreatDoorBase
namespace Go.Proofs.YtcclfmapbgdpdaaGreatDoor
open Go.RowKit

/-- From w to w' only blocks from lo on and below hi, and new ones, may have changed. -/
structure Wr (lo hi : Nat) (w w' : World) : Prop where
  os : w'.os = w.os
  tape : w'.tape = w.tape
  output : w'.output = w.output
  size : w.heap.size ≤ w'.heap.size
  block : ∀ k, k < w.heap.size → (k < lo ∨ hi ≤ k) → w'.heap[k]? = w.heap[k]?

theorem Wr.refl (lo hi : Nat) (w : World) : Wr lo hi w w := ⟨rfl, rfl, rfl, Nat.le_refl _, fun _ _ _ => rfl⟩
theorem Wr.trans {lo hi : Nat} {a b c : World} (h : Wr lo hi a b) (k : Wr lo hi b c) : Wr lo hi a c :=
  ⟨k.os.trans h.os, k.tape.trans h.tape, k.output.trans h.output, Nat.le_trans h.size k.size, fun i hi' hr => (k.block i (Nat.lt_of_lt_of_le hi' h.size) hr).trans (h.block i hi' hr)⟩
theorem Wr.mono {lo hi lo' hi' : Nat} {w w' : World} (h : Wr lo hi w w') (h1 : lo' ≤ lo) (h2 : hi ≤ hi') : Wr lo' hi' w w' :=
  ⟨h.os, h.tape, h.output, h.size, fun k hk hr => h.block k hk (by omega)⟩
theorem Wr.of_below {lo hi : Nat} {w w' : World} (h : Below w.heap.size w w') : Wr lo hi w w' := ⟨h.os, h.tape, h.output, h.size, fun k hk _ => h.block k hk⟩
theorem Wr.below {lo hi B : Nat} {w0 w w' : World} (h : Below B w0 w) (hw : Wr lo hi w w') (hB : B ≤ lo) (hz : B ≤ w.heap.size) : Below B w0 w' :=
  h.trans ⟨hw.os, hw.tape, hw.output, hw.size, fun k hk => hw.block k (by omega) (by omega)⟩
theorem Wr.setCell {lo hi b off : Nat} (w : World) (u : Value) (h1 : lo ≤ b) (h2 : b < hi) : Wr lo hi w (w.setCell ⟨b, off, none⟩ u) :=
  ⟨rfl, rfl, rfl, by simp [World.setCell], fun k _ hr => Below.heap_setCell _ _ _ _ (by simp only; omega)⟩
theorem Wr.drewN {lo hi : Nat} {w w' : World} (h : Wr lo hi w w') (n : Nat) : Wr lo hi w (w'.drewN n) := ⟨h.os, h.tape, h.output, h.size, h.block⟩

/-- A slice of elements of 'size' cells that reads as cs, in one writable block between lo and hi. -/
def Fr (w : World) (lo hi : Nat) (e : TypeId) (size : Nat) (A : Option Addr) (n : Nat) (cs : List Value) : Prop :=
  cs.length = n * size ∧ (0 < n → ∃ b off cur, A = some ⟨b, off, none⟩ ∧ lo ≤ b ∧ b < hi ∧ w.heap[b]? = some (.cells cur e (0, 0)) ∧ ∀ j u, cs[j]? = some u → cur[off + j]? = some u)

section
variable {w w' : World} {lo hi : Nat} {e : TypeId} {size : Nat} {A : Option Addr} {n : Nat} {cs : List Value}
theorem Fr.nil : Fr w lo hi e size A 0 [] := ⟨by simp, fun h => absurd h (by omega)⟩
theorem Fr.of_own {base c : Nat} (h : w.ownsRow base e size (.slice A n c) n cs) : Fr w base w.heap.size e size A n cs := by
  refine ⟨h.1, fun hn => ?_⟩
  rcases h.2 with ⟨_, h0⟩ | ⟨g, cap, cur, hv, hb, hh, _, _, _, ht⟩
  · omega
  · have hA : A = some ⟨g, 0, none⟩ := by injection hv
    subst hA
    refine ⟨g, 0, cur, rfl, hb, (Array.getElem?_eq_some_iff.1 hh).1, hh, fun j u hu => ?_⟩
    rw [← ht, List.getElem?_take] at hu
    split at hu
    · simpa using hu
    · cases hu
theorem Fr.rd (h : Fr w lo hi e size A n cs) : Rd w A n size cs := by
  refine ⟨h.1, fun hn => ?_⟩
  obtain ⟨b, off, cur, hA, _, _, hh, hc⟩ := h.2 hn
  exact ⟨b, off, hA, (Array.getElem?_eq_some_iff.1 hh).1, fun j u hu => by rw [cell_of_row w b (off + j) cur e (0, 0) hh]; exact hc j u hu⟩
theorem Fr.mono {lo' hi' : Nat} (h : Fr w lo hi e size A n cs) (h1 : lo' ≤ lo) (h2 : hi ≤ hi') : Fr w lo' hi' e size A n cs :=
  ⟨h.1, fun hn => by
    obtain ⟨b, off, cur, hA, hl, hh, hw, hc⟩ := h.2 hn
    exact ⟨b, off, cur, hA, by omega, by omega, hw, hc⟩⟩
theorem Fr.wr {lo' hi' : Nat} (h : Fr w lo hi e size A n cs) (hw : Wr lo' hi' w w') (hd : hi ≤ lo' ∨ hi' ≤ lo) : Fr w' lo hi e size A n cs :=
  ⟨h.1, fun hn => by
    obtain ⟨b, off, cur, hA, hl, hh, hb, hc⟩ := h.2 hn
    exact ⟨b, off, cur, hA, hl, hh, (hw.block b (Array.getElem?_eq_some_iff.1 hb).1 (by omega)).trans hb, hc⟩⟩
theorem Fr.below {B : Nat} (h : Fr w lo hi e size A n cs) (hb : Below B w w') (hB : hi ≤ B) : Fr w' lo hi e size A n cs :=
  ⟨h.1, fun hn => by
    obtain ⟨b, off, cur, hA, hl, hh, hw, hc⟩ := h.2 hn
    exact ⟨b, off, cur, hA, hl, hh, (hb.block b (by omega)).trans hw, hc⟩⟩
/-- What a store into it wants, and what it leaves. -/
theorem Fr.store {j : Nat} (h : Fr w lo hi e size A n cs) (hj : j < n * size) :
    ∃ b off v, A = some ⟨b, off, none⟩ ∧ lo ≤ b ∧ b < hi ∧ w.cell? ⟨b, off + j, none⟩ = some v ∧ w.frozen? ⟨b, off + j, none⟩ = false ∧ Hid (∀ u, Fr (w.setCell ⟨b, off + j, none⟩ u) lo hi e size A n (cs.set j u)) := by
  have hn : 0 < n := by
    rcases Nat.eq_zero_or_pos n with h0 | h0
    · rw [h0, Nat.zero_mul] at hj; omega
    · exact h0
  obtain ⟨b, off, cur, hA, hl, hh, hb, hc⟩ := h.2 hn
  have hjl : j < cs.length := by rw [h.1]; exact hj
  have hcj := hc j _ (List.getElem?_eq_getElem hjl)
  refine ⟨b, off, cs[j], hA, hl, hh, by rw [cell_of_row w b (off + j) cur e (0, 0) hb]; exact hcj, frozen_of_row w b (off + j) cur e hb, fun u => ⟨by simpa using h.1, fun _ => ?_⟩⟩
  refine ⟨b, off, cur.setIfInBounds (off + j) u, hA, hl, hh, heap_setCell_same w b (off + j) cur e u hb, fun i v hv => ?_⟩
  by_cases hij : i = j
  · subst hij
    rw [List.getElem?_set_self hjl] at hv
    rw [Array.getElem?_setIfInBounds_self_of_lt (Array.getElem?_eq_some_iff.1 hcj).1]
    exact hv
  · rw [List.getElem?_set_ne (by omega)] at hv
    rw [Array.getElem?_setIfInBounds_ne (by omega)]
    exact hc i v hv
end

/-- A []int64 of the call's own. -/
def FrI (w : World) (lo hi : Nat) (e : TypeId) (A : Option Addr) (n : Nat) (xs : List Int) : Prop := Fr w lo hi e 1 A n (cI xs) ∧ ∀ x ∈ xs, I64 x
theorem FrI.rd {w : World} {lo hi : Nat} {e : TypeId} {A : Option Addr} {n : Nat} {xs : List Int} (h : FrI w lo hi e A n xs) : RdI w A n xs := ⟨h.1.rd, h.2⟩
theorem FrI.wr {w w' : World} {lo hi lo' hi' : Nat} {e : TypeId} {A : Option Addr} {n : Nat} {xs : List Int} (h : FrI w lo hi e A n xs) (hw : Wr lo' hi' w w') (hd : hi ≤ lo' ∨ hi' ≤ lo) : FrI w' lo hi e A n xs := ⟨h.1.wr hw hd, h.2⟩
theorem FrI.below {w w' : World} {lo hi B : Nat} {e : TypeId} {A : Option Addr} {n : Nat} {xs : List Int} (h : FrI w lo hi e A n xs) (hb : Below B w w') (hB : hi ≤ B) : FrI w' lo hi e A n xs := ⟨h.1.below hb hB, h.2⟩
theorem FrI.nil {w : World} {lo hi : Nat} {e : TypeId} {A : Option Addr} : FrI w lo hi e A 0 [] := ⟨Fr.nil, by simp⟩
theorem FrI.of_own {w : World} {base c n : Nat} {e : TypeId} {A : Option Addr} {xs : List Int} (h : w.ownsRow base e 1 (.slice A n c) n (cI xs)) (hx : ∀ x ∈ xs, I64 x) : FrI w base w.heap.size e A n xs := ⟨Fr.of_own h, hx⟩
theorem FrI.len {w : World} {lo hi : Nat} {e : TypeId} {A : Option Addr} {n : Nat} {xs : List Int} (h : FrI w lo hi e A n xs) : xs.length = n := by simpa [cI] using h.1.1

/-- The numbers from k on. -/
def seqZ (k : Int) : Nat → List Int
  | 0 => []
  | n + 1 => seqZ k n ++ [k + n]
theorem seqZ_len (k : Int) (n : Nat) : (seqZ k n).length = n := by
  induction n with
  | zero => rfl
  | succ n ih => simp [seqZ, ih]
theorem seqZ_at (k : Int) {n i : Nat} (h : i < n) : (seqZ k n)[i]? = some (k + i) := by
  induction n with
  | zero => omega
  | succ n ih =>
    rw [seqZ, List.getElem?_append]
    rw [seqZ_len]
    split
    · exact ih (by omega)
    · have : i = n := by omega
      subst this
      simp
theorem seqZ_mem {k x : Int} {n : Nat} (h : x ∈ seqZ k n) : k ≤ x ∧ x < k + n := by
  induction n with
  | zero => simp [seqZ] at h
  | succ n ih =>
    rw [seqZ, List.mem_append] at h
    rcases h with h | h
    · have := ih h; omega
    · simp at h; omega

theorem app1_gen {P : Program} {w : World} {ops : Array Oper} {rest : List Oper} {o : Oper} {a : Act} {Q : Exit → Act → World → Prop} (hgd : o.guard = none) (s x : Operand) (t : TypeId)
    (ho : o.op = .call { callee := .builtin .append, args := #[s, x], argTypes := #[t, t] })
    (base : Nat) (e : TypeId) (z : Value) (bytes : Nat) (ht : P.underlying t = some (.slice e)) (hinfo : (P.info? e).map (fun i => (i.zero, i.size, i.bytes)) = some (some z, 1, bytes)) (hzs : z.cells.size = 1) (hby : bytes ≤ 64)
    (v : Value) (n : Nat) (cs : List Value) (u : Value) (hu : u.oneCell' = true) (hs : a.eval s = v) (hown : w.ownsRow base e 1 v n cs) (hx : a.eval x = .slice (some ⟨w.heap.size, 0, none⟩) 1 1)
    (hn : n ≤ 1099511627776) (hbase : base ≤ w.heap.size)
    (h : ∀ v' w', w'.ownsRow base e 1 v' (n + 1) (cs ++ [u]) → Below base w w' → w.heap.size ≤ w'.heap.size → wpList P ops Q rest (a.put o.dst v') w') : wpList P ops Q (o :: rest) a (w.alloc (.cells #[u] e)) := by
  obtain ⟨i, hi, hz0, hz1, hz2⟩ := info_parts hinfo
  refine wpList_append_own _ hgd s x t ho base e i z 1 bytes ht hi hz0 hz1 hz2 hzs (by decide) v n cs hs (hown.alloc _) ⟨w.heap.size, 0, none⟩ 1 1 [u] hx rfl (cell_one_new _ _ _) ?_ ?_ ?_ ?_ ?_
  · intro y hy; simp at hy; subst hy; exact hu
  · unfold maxLen; omega
  · have : (n + 1) * bytes ≤ (n + 1) * 64 := Nat.mul_le_mul_left _ hby
    omega
  · simp; omega
  · intro v' w' h1 h2 _
    refine h v' w' h1 (((Below.refl base w).alloc hbase _).grown h2 (by simp; omega) (fun g hg => (hown.lt g hg).1)) ?_
    have := h2.size
    simp at this
    omega

end Go.Proofs.YtcclfmapbgdpdaaGreatDoor
