/- A list of versions that a call makes by appending; copies of versions. -/
import Derived.Test.YtmpfkmbfbeejhaaDoorVerZ
import Derived.Test.YtmpfkmbfbeejhaaDoorMg
namespace Go.Proofs.YtmpfkmbfbeejhaaDoor
open Go.RowKit
set_option linter.unusedVariables false

/-- A list of versions that grows: its row, and its states, each in blocks of its own from lo on. -/
def GrV (w : World) (base lo : Nat) (v : Value) (m : Nat) (rs : List VerC) : Prop :=
  w.ownsRow base 48 4 v m (rs.map cV).flatten ∧ rs.length = m ∧ (∀ r ∈ rs, r.good) ∧ ∃ p q, ApartP w p q rs ∧ ∀ j, j < m → lo ≤ p j ∧ q j ≤ w.heap.size

theorem cV_one (r : VerC) : ∀ u ∈ cV r, u.oneCell' = true := by
  intro u hu
  simp only [cV, List.mem_cons, List.not_mem_nil, or_false] at hu
  rcases hu with rfl | rfl | rfl | rfl <;> rfl

/-- The block of a slice of the call's own, and what lies there. -/
theorem own_block {w : World} {base : Nat} {e : TypeId} {size : Nat} {v : Value} {n : Nat} {xs : List Value} (h : w.ownsRow base e size v n xs) {g : Nat} (hg : v.ownBlock = some g) : ∃ cur, w.heap[g]? = some (.cells cur e (0, 0)) := by
  rcases h.2 with ⟨rfl, _⟩ | ⟨g', cap, cur, rfl, _, hgg, _⟩
  · cases hg
  · simp only [Value.ownBlock, Option.some.injEq] at hg
    subst hg
    exact ⟨cur, hgg⟩

/-- What does not lie in the block that is written stays. -/
theorem Fr.kept_of {w w' : World} {lo hi : Nat} {e : TypeId} {size : Nat} {A : Option Addr} {n : Nat} {cs : List Value} {v : Value} (h : Fr w lo hi e size A n cs) (hg : w.grownBy w' v.ownBlock) (e' : TypeId) (hne : e ≠ e') (hv : ∀ g, v.ownBlock = some g → ∃ cur, w.heap[g]? = some (.cells cur e' (0, 0))) : Fr w' lo hi e size A n cs := by
  refine ⟨h.1, fun hn => ?_⟩
  obtain ⟨b, off, cur, hA, hl, hh, hb, hc⟩ := h.2 hn
  refine ⟨b, off, cur, hA, hl, hh, ?_, hc⟩
  rw [hg.block b (Array.getElem?_eq_some_iff.1 hb).1 ?_]
  · exact hb
  · intro hq
    obtain ⟨cur', hc'⟩ := hv b hq.symm
    rw [hb] at hc'
    injection hc' with hc'
    injection hc' with _ h2
    exact hne h2

theorem GrV.push {w w2 w4 : World} {base lo lo2 : Nat} {v v' : Value} {m : Nat} {rs : List VerC} {r : VerC} {s0 s1 : Nat} (h : GrV w base lo v m rs) (hb : Below w.heap.size w w2)
    (hst : Fr w2 s0 s1 57 2 r.A r.n (r.state.map cS).flatten) (h01 : s0 ≤ s1) (hs : s1 ≤ w2.heap.size) (hd : w.heap.size ≤ s0 ∨ s1 ≤ lo) (hl1 : lo2 ≤ lo) (hl2 : lo2 ≤ s0) (hg : r.good)
    (hown : w4.ownsRow base 48 4 v' (m + 1) ((rs.map cV).flatten ++ cV r)) (hgr : w2.grownBy w4 v.ownBlock) : GrV w4 base lo2 v' (m + 1) (rs ++ [r]) := by
  obtain ⟨ho, hl, hgood, p, q, ha, hpq⟩ := h
  have hne : 57 ≠ 48 := by decide
  have hv : ∀ g, v.ownBlock = some g → ∃ cur, w2.heap[g]? = some (.cells cur 48 (0, 0)) := by
    intro g hq
    obtain ⟨cur, hc⟩ := own_block ho hq
    exact ⟨cur, (hb.block g (Array.getElem?_eq_some_iff.1 hc).1).trans hc⟩
  have hz := hb.size
  have hz4 := hgr.size
  refine ⟨by simpa using hown, by simp [hl], ?_, fun j => if j < m then p j else s0, fun j => if j < m then q j else s1, ⟨fun j => ?_, fun i j hi hj hij => ?_, fun j x hx => ?_⟩, fun j hj => ?_⟩
  · intro x hx
    rcases List.mem_append.1 hx with hx | hx
    · exact hgood x hx
    · simp at hx; subst hx; exact hg
  · dsimp only
    split
    · exact ha.1 j
    · exact h01
  · rw [List.length_append, List.length_singleton, hl] at hi hj
    dsimp only
    by_cases hi' : i < m
    · by_cases hj' : j < m
      · rw [if_pos hi', if_pos hj', if_pos hi', if_pos hj']
        exact ha.2.1 i j (by omega) (by omega) hij
      · rw [if_pos hi', if_neg hj', if_pos hi', if_neg hj']
        have := hpq i hi'
        have := ha.1 i
        omega
    · by_cases hj' : j < m
      · rw [if_neg hi', if_pos hj', if_neg hi', if_pos hj']
        have := hpq j hj'
        have := ha.1 j
        omega
      · omega
  · rcases Nat.lt_or_ge j m with h1 | h1
    · rw [List.getElem?_append_left (by omega)] at hx
      dsimp only
      rw [if_pos h1, if_pos h1]
      exact ((ha.2.2 j x hx).below hb (hpq j h1).2).kept_of hgr 48 hne hv
    · rw [List.getElem?_append_right (by omega)] at hx
      have hj := (List.getElem?_eq_some_iff.1 hx).1
      simp at hj
      have : x = r := by
        rw [show j - rs.length = 0 by omega] at hx
        simpa using hx.symm
      subst this
      dsimp only
      rw [if_neg (by omega), if_neg (by omega)]
      exact hst.kept_of hgr 48 hne hv
  · dsimp only
    split
    · rename_i h1
      have := hpq j h1
      omega
    · omega

theorem GrV.nil {w : World} {base lo : Nat} {v : Value} (h : w.ownsRow base 48 4 v 0 []) : GrV w base lo v 0 [] :=
  ⟨by simpa using h, rfl, by simp, fun _ => 0, fun _ => 0, ⟨fun _ => Nat.le_refl _, fun _ _ h _ => absurd h (by simp), by simp⟩, fun j hj => absurd hj (by omega)⟩
theorem GrV.below {w w' : World} {base lo : Nat} {v : Value} {m : Nat} {rs : List VerC} (h : GrV w base lo v m rs) {B : Nat} (hb : Below B w w') (hB : w.heap.size ≤ B) : GrV w' base lo v m rs := by
  obtain ⟨ho, hl, hgood, p, q, ha, hpq⟩ := h
  have hz := hb.size
  refine ⟨own_below ho hb hB, hl, hgood, p, q, ⟨ha.1, ha.2.1, fun j x hx => (ha.2.2 j x hx).below hb ?_⟩, fun j hj => ⟨(hpq j hj).1, Nat.le_trans (hpq j hj).2 hz⟩⟩
  have hj := (List.getElem?_eq_some_iff.1 hx).1
  have := (hpq j (by omega)).2
  omega

/-- At the end it is a list of versions of the call's own. -/
theorem GrV.frV {w : World} {base lo : Nat} {A : Option Addr} {m c : Nat} {rs : List VerC} (h : GrV w base lo (.slice A m c) m rs) (hl0 : lo ≤ base) : FrV w lo w.heap.size A m rs := by
  obtain ⟨ho, hl, hgood, p, q, ha, hpq⟩ := h
  have hne : 57 ≠ 48 := by decide
  -- the blocks in which the states lie
  have hbl : ∀ j : Nat, ∃ p' q', p j ≤ p' ∧ p' ≤ q' ∧ q' ≤ q j ∧ (∀ r, rs[j]? = some r → Fr w p' q' 57 2 r.A r.n (r.state.map cS).flatten) ∧ (p' = q' ∨ ∃ cur, q' = p' + 1 ∧ w.heap[p']? = some (.cells cur 57 (0, 0))) := by
    intro j
    rcases hx : rs[j]? with _ | r
    · exact ⟨p j, p j, Nat.le_refl _, Nat.le_refl _, ha.1 j, by simp, .inl rfl⟩
    · have hF := ha.2.2 j r hx
      rcases Nat.eq_zero_or_pos r.n with h0 | h0
      · refine ⟨p j, p j, Nat.le_refl _, Nat.le_refl _, ha.1 j, ?_, .inl rfl⟩
        intro r' hr'
        obtain rfl := Option.some.inj hr'
        exact ⟨hF.1, fun hn => by omega⟩
      · obtain ⟨b, off, cur, hA, hb1, hb2, hb3, hb4⟩ := hF.2 h0
        refine ⟨b, b + 1, hb1, by omega, by omega, ?_, .inr ⟨cur, rfl, hb3⟩⟩
        intro r' hr'
        obtain rfl := Option.some.inj hr'
        exact ⟨hF.1, fun _ => ⟨b, off, cur, hA, Nat.le_refl _, by omega, hb3, hb4⟩⟩
  let p' := fun j => (hbl j).choose
  let q' := fun j => (hbl j).choose_spec.choose
  have hs : ∀ j, p j ≤ p' j ∧ p' j ≤ q' j ∧ q' j ≤ q j ∧ (∀ r, rs[j]? = some r → Fr w (p' j) (q' j) 57 2 r.A r.n (r.state.map cS).flatten) ∧ (p' j = q' j ∨ ∃ cur, q' j = p' j + 1 ∧ w.heap[p' j]? = some (.cells cur 57 (0, 0))) := fun j => (hbl j).choose_spec.choose_spec
  have hap : ApartP w p' q' rs := ⟨fun j => (hs j).2.1, fun i j hi hj hij => by
    have := ha.2.1 i j hi hj hij
    have h1 := hs i
    have h2 := hs j
    omega, fun j r hr => (hs j).2.2.2.1 r hr⟩
  have hin : ∀ j, j < m → lo ≤ p' j ∧ q' j ≤ w.heap.size := fun j hj => by
    have h1 := hpq j hj
    have h2 := hs j
    omega
  rcases A with _ | ⟨g, off, sp⟩
  · have hm : m = 0 := by
      rcases ho.2 with ⟨_, h0⟩ | ⟨g, cap, cur, hv, _⟩
      · exact h0
      · cases hv
    subst hm
    refine ⟨hl, hgood, lo, 0, Nat.le_refl _, Nat.zero_le _, ?_, p', q', hap, hin, fun j hj => absurd hj (by omega)⟩
    rw [List.eq_nil_of_length_eq_zero hl]
    exact Fr.nil
  · have hF := Fr.of_own ho
    obtain ⟨cur, hc⟩ := own_block ho (g := g) rfl
    have hg1 := (Array.getElem?_eq_some_iff.1 hc).1
    have hgo : off = 0 ∧ sp = none ∧ base ≤ g := by
      rcases ho.2 with ⟨hv, h0⟩ | ⟨g', cap, cur', hv, hb, _⟩
      · cases hv
      · injection hv with hv
        injection hv with hv
        injection hv with h1 h2 h3
        subst h1
        exact ⟨h2, h3, hb⟩
    obtain ⟨rfl, rfl, hbg⟩ := hgo
    refine ⟨hl, hgood, g, g + 1, by omega, by omega, hF.narrow (Nat.le_refl _) (by omega), p', q', hap, hin, fun j hj => ?_⟩
    have h1 := hs j
    rcases h1.2.2.2.2 with h2 | ⟨cur', h2, h3⟩
    · omega
    · have : p' j ≠ g := by
        intro h4
        rw [h4, hc] at h3
        injection h3 with h3
        injection h3 with _ h5
        exact hne h5.symm
      omega

/-- Appending one version: what is written, too. -/
theorem appV {w : World} {ops : Array Oper} {rest : List Oper} {o : Oper} {a : Act} {Q : Exit → Act → World → Prop} (hgd : o.guard = none) (s x : Operand)
    (ho : o.op = .call { callee := .builtin .append, args := #[s, x], argTypes := #[24, 24] })
    (base : Nat) (v : Value) (n : Nat) (xs : List Value) (u : VerC) (hs : a.eval s = v) (hown : w.ownsRow base 48 4 v n xs) (hx : a.eval x = .slice (some ⟨w.heap.size, 0, none⟩) 1 1)
    (hn : n ≤ 1099511627776) (hbase : base ≤ w.heap.size)
    (h : ∀ v' w', w'.ownsRow base 48 4 v' (n + 1) (xs ++ cV u) → w.grownBy w' v.ownBlock → Below base w w' → w.heap.size ≤ w'.heap.size → wpList Tryd.prog ops Q rest (a.put o.dst v') w') : wpList Tryd.prog ops Q (o :: rest) a (w.alloc (.cells #[.int .i64 u.number, .int .i64 u.parent, .string u.memo, .slice u.A u.n u.c] 48)) := by
  obtain ⟨i, hi, hz0, hz1, hz2⟩ := info_parts Tryd.infoVersion
  refine wpList_append_own _ hgd s x _ ho base 48 i (.agg #[.int .i64 0, .int .i64 0, .string ⟨#[]⟩, .slice none 0 0]) 4 56 Tryd.underlying24 hi hz0 hz1 hz2 rfl (by decide) v n xs hs (hown.alloc _) ⟨w.heap.size, 0, none⟩ 1 1 (cV u) hx rfl ?_ (cV_one u) (by unfold maxLen; omega) (by omega) (by simp; omega) ?_
  · intro j y hy
    rw [Addr.add_lit, cell_of_row _ w.heap.size (0 + j) _ 48 (0, 0) (heap_alloc_new w _)]
    simpa [cV] using hy
  · intro v' w' h1 h2 _
    have hz := h2.size
    simp at hz
    refine h v' w' h1 ⟨h2.os, h2.tape, h2.output, by omega, fun k hk hne => ?_⟩ (((Below.refl base w).alloc hbase _).grown h2 (by simp; omega) (fun g hg => (hown.lt g hg).1)) (by omega)
    rw [h2.block k (by simp; omega) hne]
    exact ((Below.refl w.heap.size w).alloc (Nat.le_refl _) _).block k hk

end Go.Proofs.YtmpfkmbfbeejhaaDoor
