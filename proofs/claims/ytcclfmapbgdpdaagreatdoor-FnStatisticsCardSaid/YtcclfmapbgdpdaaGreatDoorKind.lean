/- Slices of flat things, any kind of element: what they read as, those of the call's own, appending to them. Over any program. -/
import Derived.Test.YtcclfmapbgdpdaaGreatDoorFresh
import Derived.Laws.AppendOwnNone
namespace Go.Proofs.YtcclfmapbgdpdaaGreatDoor
open Go.RowKit
set_option linter.unusedVariables false

/-- A kind of element: its cells, how many, and what binds its parts. -/
structure Kind (α : Type) where
  c : α → List Value
  size : Nat
  fine : α → Prop
  len : ∀ x, (c x).length = size
  one : ∀ x, ∀ u ∈ c x, u.oneCell' = true

section
variable {α : Type} {K : Kind α}
def cK (K : Kind α) (xs : List α) : List Value := (xs.map K.c).flatten
theorem mapc_len (xs : List α) : ∀ x ∈ xs.map K.c, x.length = K.size := by
  intro x hx
  obtain ⟨s, _, rfl⟩ := List.mem_map.1 hx
  exact K.len s
theorem cK_len (xs : List α) : (cK K xs).length = xs.length * K.size := by
  unfold cK
  rw [flatten_len (mapc_len xs), List.length_map]
theorem cK_snoc (xs : List α) (x : α) : cK K (xs ++ [x]) = cK K xs ++ K.c x := by simp [cK]
theorem cK_append (xs ys : List α) : cK K (xs ++ ys) = cK K xs ++ cK K ys := by simp [cK]
theorem cK_nil : cK K ([] : List α) = [] := rfl
theorem cK_one {xs : List α} : ∀ u ∈ cK K xs, u.oneCell' = true := by
  intro u hu
  obtain ⟨l, hl, hu⟩ := List.mem_flatten.1 hu
  obtain ⟨x, _, rfl⟩ := List.mem_map.1 hl
  exact K.one x u hu
theorem cK_take_snoc {xs : List α} {k : Nat} {x : α} (h : xs[k]? = some x) : cK K (xs.take (k + 1)) = cK K (xs.take k) ++ K.c x := by
  rw [take_snoc h, cK_snoc]

/-- A slice that reads as xs. -/
def RdK (K : Kind α) (w : World) (A : Option Addr) (n : Nat) (xs : List α) : Prop := Rd w A n K.size (cK K xs) ∧ xs.length = n ∧ ∀ x ∈ xs, K.fine x
/-- A slice of the call's own that reads as xs. -/
def FrK (K : Kind α) (w : World) (lo hi : Nat) (e : TypeId) (A : Option Addr) (n : Nat) (xs : List α) : Prop := Fr w lo hi e K.size A n (cK K xs) ∧ xs.length = n ∧ ∀ x ∈ xs, K.fine x

variable {w w' : World} {lo hi : Nat} {e : TypeId} {A : Option Addr} {n : Nat} {xs : List α}
theorem RdK.len (h : RdK K w A n xs) : xs.length = n := h.2.1
theorem RdK.nil : RdK K w A 0 [] := ⟨by simpa [cK] using Rd.nil, rfl, by simp⟩
theorem RdK.below {B : Nat} (h : RdK K w A n xs) (hb : Below B w w') (hB : w.heap.size ≤ B) : RdK K w' A n xs := ⟨h.1.below hb hB, h.2⟩
theorem RdK.drewN (h : RdK K w A n xs) (k : Nat) : RdK K (w.drewN k) A n xs := h
theorem RdK.of_own {base c : Nat} (h : w.ownsRow base e K.size (.slice A n c) n (cK K xs)) (hl : xs.length = n) (hx : ∀ x ∈ xs, K.fine x) : RdK K w A n xs := ⟨Rd.of_own h, hl, hx⟩
theorem RdK.atK {k : Nat} (h : RdK K w A n xs) (hk : k < n) :
    ∃ b off x, A = some ⟨b, off, none⟩ ∧ b < w.heap.size ∧ xs[k]? = some x ∧ K.fine x ∧ ∀ j u, (K.c x)[j]? = some u → w.cell? ⟨b, off + (k * K.size + j), none⟩ = some u := by
  obtain ⟨b, off, r, e, hb, hr, hc⟩ := Rd.row (rows := xs.map K.c) h.1 (mapc_len xs) hk (by rw [List.length_map, h.2.1])
  have hkl : k < xs.length := by rw [h.2.1]; exact hk
  have hx := List.getElem?_eq_getElem hkl
  rw [List.getElem?_map, hx] at hr
  simp only [Option.map_some, Option.some.injEq] at hr
  subst hr
  exact ⟨b, off, _, e, hb, hx, h.2.2 _ (List.getElem_mem hkl), hc⟩
theorem FrK.nil : FrK K w lo hi e A 0 [] := ⟨by simpa [cK] using Fr.nil, rfl, by simp⟩
theorem FrK.rd (h : FrK K w lo hi e A n xs) : RdK K w A n xs := ⟨h.1.rd, h.2⟩
theorem FrK.below {B : Nat} (h : FrK K w lo hi e A n xs) (hb : Below B w w') (hB : hi ≤ B) : FrK K w' lo hi e A n xs := ⟨h.1.below hb hB, h.2⟩
theorem FrK.wr {lo' hi' : Nat} (h : FrK K w lo hi e A n xs) (hw : Wr lo' hi' w w') (hd : hi ≤ lo' ∨ hi' ≤ lo) : FrK K w' lo hi e A n xs := ⟨h.1.wr hw hd, h.2⟩
theorem FrK.mono {lo' hi' : Nat} (h : FrK K w lo hi e A n xs) (h1 : lo' ≤ lo) (h2 : hi ≤ hi') : FrK K w lo' hi' e A n xs := ⟨h.1.mono h1 h2, h.2⟩
theorem FrK.of_own {base c : Nat} (h : w.ownsRow base e K.size (.slice A n c) n (cK K xs)) (hl : xs.length = n) (hx : ∀ x ∈ xs, K.fine x) : FrK K w base w.heap.size e A n xs := ⟨Fr.of_own h, hl, hx⟩
end

/-! ### stores into a row whose place is known -/
section
variable {w : World} {lo hi : Nat} {e : TypeId} {size : Nat} {b off n : Nat} {cs : List Value}
theorem Fr.put {j : Nat} (h : Fr w lo hi e size (some ⟨b, off, none⟩) n cs) (hj : j < n * size) :
    ∃ v, w.cell? ⟨b, off + j, none⟩ = some v ∧ w.frozen? ⟨b, off + j, none⟩ = false ∧ lo ≤ b ∧ b < hi ∧ Hid (∀ u, Fr (w.setCell ⟨b, off + j, none⟩ u) lo hi e size (some ⟨b, off, none⟩) n (cs.set j u)) := by
  obtain ⟨b', off', v, hA, hl, hh, h1, h2, h3⟩ := h.store hj
  injection hA with hA
  injection hA with hb ho
  subst hb ho
  exact ⟨v, h1, h2, hl, hh, h3⟩
theorem Fr.addr {A : Option Addr} (h : Fr w lo hi e size A n cs) (hn : 0 < n) : ∃ b off, A = some ⟨b, off, none⟩ := by
  obtain ⟨b, off, _, hA, _⟩ := h.2 hn
  exact ⟨b, off, hA⟩
end

/-! ### appending -/
section
variable {α : Type} (K : Kind α)
variable {P : Program} {w : World} {ops : Array Oper} {rest : List Oper} {o : Oper} {a : Act} {Q : Exit → Act → World → Prop}
theorem appK_gen (hgd : o.guard = none) (s x : Operand) (t : TypeId)
    (ho : o.op = .call { callee := .builtin .append, args := #[s, x], argTypes := #[t, t] })
    (base : Nat) (e : TypeId) (z : Value) (bytes : Nat) (ht : P.underlying t = some (.slice e)) (hinfo : (P.info? e).map (fun i => (i.zero, i.size, i.bytes)) = some (some z, K.size, bytes)) (hzs : z.cells.size = K.size) (hsz : 0 < K.size) (hby : bytes ≤ 64)
    (v : Value) (n : Nat) (xs : List α) (u : α) (hs : a.eval s = v) (hown : w.ownsRow base e K.size v n (cK K xs)) (hx : a.eval x = .slice (some ⟨w.heap.size, 0, none⟩) 1 1)
    (hn : n ≤ 1099511627776) (hbase : base ≤ w.heap.size)
    (h : ∀ v' w', w'.ownsRow base e K.size v' (n + 1) (cK K (xs ++ [u])) → Below base w w' → w.heap.size ≤ w'.heap.size → wpList P ops Q rest (a.put o.dst v') w') : wpList P ops Q (o :: rest) a (w.alloc (.cells (K.c u).toArray e)) := by
  obtain ⟨i, hi, hz0, hz1, hz2⟩ := info_parts hinfo
  refine wpList_append_own _ hgd s x t ho base e i z K.size bytes ht hi hz0 hz1 hz2 hzs hsz v n (cK K xs) hs (hown.alloc _) ⟨w.heap.size, 0, none⟩ 1 1 (K.c u) hx (by rw [K.len]; omega) ?_ (K.one u) ?_ ?_ ?_ ?_
  · intro j y hy
    rw [Addr.add_lit, cell_of_row _ w.heap.size (0 + j) (K.c u).toArray e (0, 0) (heap_alloc_new w _)]
    simpa using hy
  · unfold maxLen; omega
  · have : (n + 1) * bytes ≤ (n + 1) * 64 := Nat.mul_le_mul_left _ hby
    omega
  · simp; omega
  · intro v' w' h1 h2 _
    refine h v' w' (by rw [cK_snoc]; exact h1) (((Below.refl base w).alloc hbase _).grown h2 (by simp; omega) (fun g hg => (hown.lt g hg).1)) ?_
    have := h2.size
    simp at this
    omega

theorem run_append_own_nil (base : Nat) (t ty e : TypeId) (i : TypeInfo) (size c : Nat) (ht : P.underlying t = some (.slice e)) (hi : P.info? e = some i)
    (v : Value) (n : Nat) (xs : List Value) (hown : w.ownsRow base e size v n xs) :
    (Builtin.append_ #[t, t] ty #[v, .slice none 0 c]).run P w = .ok v w := by
  rcases hown.2 with ⟨rfl, rfl⟩ | ⟨g, cap, cur, rfl, _, _, hnc, _⟩
  · simp [Builtin.append_, run_underlying ht, sizeOf, typeInfo, hi, Builtin.lenOf, Builtin.firstCells]
  · simp [Builtin.append_, run_underlying ht, sizeOf, typeInfo, hi, Builtin.lenOf, Builtin.firstCells, hnc, storeCells]

theorem wpList_append_own_nil (hgd : o.guard = none) (s x : Operand) (t : TypeId)
    (ho : o.op = .call { callee := .builtin .append, args := #[s, x], argTypes := #[t, t] })
    (base : Nat) (e : TypeId) (i : TypeInfo) (size c : Nat) (ht : P.underlying t = some (.slice e)) (hi : P.info? e = some i)
    (v : Value) (n : Nat) (xs : List Value) (hs : a.eval s = v) (hown : w.ownsRow base e size v n xs) (hx : a.eval x = .slice none 0 c)
    (h : wpList P ops Q rest (a.put o.dst v) w) : wpList P ops Q (o :: rest) a w := by
  refine wpList_plain hgd fun K hK => ?_
  have hrun := run_append_own_nil (P := P) (w := w) base t o.type e i size c ht hi v n xs hown
  unfold Oper.wp
  simp [execOp, ho, resolve, invoke, builtin, hs, hx, hrun, Result.andThen]
  exact hK _ _ h

/-- Appending a whole slice, whatever it lies in. -/
theorem appKs_gen (hgd : o.guard = none) (s x : Operand) (t : TypeId)
    (ho : o.op = .call { callee := .builtin .append, args := #[s, x], argTypes := #[t, t] })
    (base : Nat) (e : TypeId) (z : Value) (bytes : Nat) (ht : P.underlying t = some (.slice e)) (hinfo : (P.info? e).map (fun i => (i.zero, i.size, i.bytes)) = some (some z, K.size, bytes)) (hzs : z.cells.size = K.size) (hsz : 0 < K.size) (hby : bytes ≤ 64)
    (v : Value) (n : Nat) (xs : List α) (hs : a.eval s = v) (hown : w.ownsRow base e K.size v n (cK K xs))
    (Ax : Option Addr) (m cx : Nat) (ys : List α) (hx : a.eval x = .slice Ax m cx) (hy : Rd w Ax m K.size (cK K ys))
    (hn : n + m ≤ 1099511627776) (hbase : base ≤ w.heap.size)
    (h : ∀ v' w', w'.ownsRow base e K.size v' (n + m) (cK K (xs ++ ys)) → Below base w w' → w.heap.size ≤ w'.heap.size → wpList P ops Q rest (a.put o.dst v') w') : wpList P ops Q (o :: rest) a w := by
  obtain ⟨i, hi, hz0, hz1, hz2⟩ := info_parts hinfo
  have hb : (n + m) * bytes ≤ 140737488355328 := by
    have : (n + m) * bytes ≤ (n + m) * 64 := Nat.mul_le_mul_left _ hby
    omega
  have hdone : ∀ v' w', w'.ownsRow base e K.size v' (n + m) (cK K xs ++ cK K ys) → w.grownBy w' v.ownBlock → (v' = .slice none 0 0 ↔ v = .slice none 0 0 ∧ m = 0) → wpList P ops Q rest (a.put o.dst v') w' := fun v' w' h1 h2 _ =>
    h v' w' (by rw [cK_append]; exact h1) ((Below.refl base w).grown h2 hbase (fun g hg => (hown.lt g hg).1)) h2.size
  cases Ax with
  | none =>
    have hm : m = 0 := by
      rcases Nat.eq_zero_or_pos m with h0 | h0
      · exact h0
      · obtain ⟨_, _, hA, _⟩ := hy.2 h0
        cases hA
    subst hm
    refine wpList_append_own_nil hgd s x t ho base e i K.size cx ht hi v n _ hs hown hx (h v w ?_ (Below.refl _ _) (Nat.le_refl _))
    have h0 : cK K ys = [] := by
      have := hy.1
      rw [Nat.zero_mul] at this
      exact List.eq_nil_of_length_eq_zero this
    rw [cK_append, h0, List.append_nil]
    exact hown
  | some ad =>
    refine wpList_append_own w hgd s x t ho base e i z K.size bytes ht hi hz0 hz1 hz2 hzs hsz v n (cK K xs) hs hown ad m cx (cK K ys) hx hy.1 ?_ (fun u hu => cK_one u hu) (by unfold maxLen; omega) hb hbase hdone
    intro j u hu
    rcases Nat.eq_zero_or_pos m with h0 | h0
    · subst h0
      have := (List.getElem?_eq_some_iff.1 hu).1
      rw [hy.1] at this
      omega
    · obtain ⟨b, off, hA, _, hc⟩ := hy.2 h0
      injection hA with hA
      subst hA
      rw [Addr.add_lit]
      exact hc j u hu
end

/-! ### kinds -/
def kB : Kind ByteArray := ⟨fun s => [.string s], 1, fun s => s.size ≤ 9223372036854775807, fun _ => rfl, by intro x u hu; simp at hu; subst hu; rfl⟩
def kI : Kind Int := ⟨fun x => [.int .i64 x], 1, I64, fun _ => rfl, by intro x u hu; simp at hu; subst hu; rfl⟩
theorem cK_kI (xs : List Int) : cK kI xs = cI xs := by
  induction xs with
  | nil => rfl
  | cons x xs ih =>
    have e1 : cK kI (x :: xs) = .int .i64 x :: cK kI xs := rfl
    have e2 : cI (x :: xs) = .int .i64 x :: cI xs := rfl
    rw [e1, e2, ih]
theorem cK_kB (xs : List ByteArray) : cK kB xs = xs.map Value.string := by
  induction xs with
  | nil => rfl
  | cons x xs ih =>
    have e1 : cK kB (x :: xs) = .string x :: cK kB xs := rfl
    rw [e1, List.map_cons, ih]
/-- A []string that reads as xs. -/
abbrev RdB := RdK kB
abbrev FrB := FrK kB
theorem RdK.atB {w : World} {A : Option Addr} {n : Nat} {xs : List ByteArray} {k : Nat} (h : RdK kB w A n xs) (hk : k < n) :
    ∃ b off x, A = some ⟨b, off, none⟩ ∧ b < w.heap.size ∧ Hid (xs[k]? = some x) ∧ w.cell? ⟨b, off + k, none⟩ = some (.string x) ∧ x.size ≤ 9223372036854775807 := by
  obtain ⟨b, off, x, hA, hb, hx, hf, hc⟩ := h.atK hk
  have h0 := hc 0 _ rfl
  have e : off + (k * kB.size + 0) = off + k := by show off + (k * 1 + 0) = off + k; omega
  rw [e] at h0
  exact ⟨b, off, x, hA, hb, hx, h0, hf⟩

end Go.Proofs.YtcclfmapbgdpdaaGreatDoor
