/- Appends that tell where the grown row lies; the counter of nodes. -/
import Derived.Test.YtcclfmapbgdpdaaGreatDoorLoaP
import Derived.Test.YtcclfmapbgdpdaaGreatDoorOwnG
namespace Go.Proofs.YtcclfmapbgdpdaaGreatDoor
open Go.RowKit
set_option linter.unusedVariables false

section
variable {α : Type} (K : Kind α)
variable {P : Program} {w : World} {ops : Array Oper} {rest : List Oper} {o : Oper} {a : Act} {Q : Exit → Act → World → Prop}
theorem appK_at (hgd : o.guard = none) (s x : Operand) (t : TypeId)
    (ho : o.op = .call { callee := .builtin .append, args := #[s, x], argTypes := #[t, t] })
    (base : Nat) (e : TypeId) (z : Value) (bytes : Nat) (ht : P.underlying t = some (.slice e)) (hinfo : (P.info? e).map (fun i => (i.zero, i.size, i.bytes)) = some (some z, K.size, bytes)) (hzs : z.cells.size = K.size) (hsz : 0 < K.size) (hby : bytes ≤ 64)
    (v : Value) (n : Nat) (xs : List α) (u : α) (hs : a.eval s = v) (hown : w.ownsRow base e K.size v n (cK K xs)) (hx : a.eval x = .slice (some ⟨w.heap.size, 0, none⟩) 1 1)
    (hn : n ≤ 1099511627776) (hbase : base ≤ w.heap.size)
    (h : ∀ v' w', w'.ownsRow base e K.size v' (n + 1) (cK K (xs ++ [u])) → (w.alloc (.cells (K.c u).toArray e)).grownBy w' v.ownBlock → (v'.ownBlock = v.ownBlock ∨ v'.ownBlock = some (w.heap.size + 1)) → wpList P ops Q rest (a.put o.dst v') w') : wpList P ops Q (o :: rest) a (w.alloc (.cells (K.c u).toArray e)) := by
  obtain ⟨i, hi, hz0, hz1, hz2⟩ := info_parts hinfo
  refine wpList_append_own_at _ hgd s x t ho base e i z K.size bytes ht hi hz0 hz1 hz2 hzs hsz v n (cK K xs) hs (hown.alloc _) ⟨w.heap.size, 0, none⟩ 1 1 (K.c u) hx (by rw [K.len]; omega) ?_ (K.one u) ?_ ?_ ?_ ?_
  · intro j y hy
    rw [Addr.add_lit, cell_of_row _ w.heap.size (0 + j) (K.c u).toArray e (0, 0) (heap_alloc_new w _)]
    simpa using hy
  · unfold maxLen; omega
  · have : (n + 1) * bytes ≤ (n + 1) * 64 := Nat.mul_le_mul_left _ hby
    omega
  · simp; omega
  · intro v' w' h1 h2 _ h4
    exact h v' w' (by rw [cK_snoc]; exact h1) h2 (by simpa using h4)
/-- The same of the operation alone, in a region walked by hand. -/
theorem opAppK_at {K' : Act → World → Prop} (hgd : o.guard = none) (s x : Operand) (t : TypeId)
    (ho : o.op = .call { callee := .builtin .append, args := #[s, x], argTypes := #[t, t] })
    (base : Nat) (e : TypeId) (z : Value) (bytes : Nat) (ht : P.underlying t = some (.slice e)) (hinfo : (P.info? e).map (fun i => (i.zero, i.size, i.bytes)) = some (some z, K.size, bytes)) (hzs : z.cells.size = K.size) (hsz : 0 < K.size) (hby : bytes ≤ 64)
    (v : Value) (n : Nat) (xs : List α) (u : α) (hs : a.eval s = v) (hown : w.ownsRow base e K.size v n (cK K xs)) (hx : a.eval x = .slice (some ⟨w.heap.size, 0, none⟩) 1 1)
    (hn : n ≤ 1099511627776) (hbase : base ≤ w.heap.size)
    (h : ∀ v' w', w'.ownsRow base e K.size v' (n + 1) (cK K (xs ++ [u])) → (w.alloc (.cells (K.c u).toArray e)).grownBy w' v.ownBlock → (v'.ownBlock = v.ownBlock ∨ v'.ownBlock = some (w.heap.size + 1)) → K' (a.put o.dst v') w') : Oper.wp P o a (w.alloc (.cells (K.c u).toArray e)) K' Q := by
  obtain ⟨i, hi, hz0, hz1, hz2⟩ := info_parts hinfo
  obtain ⟨v', w', hr, h1, h2, _, h4⟩ := run_append_own_at (P := P) (w.alloc (.cells (K.c u).toArray e)) base t o.type e i z K.size bytes ht hi hz0 hz1 hz2 hzs hsz v n (cK K xs) (hown.alloc _) ⟨w.heap.size, 0, none⟩ 1 1 (K.c u) (by rw [K.len]; omega) (by
    intro j y hy
    rw [Addr.add_lit, cell_of_row _ w.heap.size (0 + j) (K.c u).toArray e (0, 0) (heap_alloc_new w _)]
    simpa using hy) (K.one u) (by unfold maxLen; omega) (by
    have : (n + 1) * bytes ≤ (n + 1) * 64 := Nat.mul_le_mul_left _ hby
    omega) (by simp; omega)
  have h' := h v' w' (by rw [cK_snoc]; exact h1) h2 (by simpa using h4)
  unfold Oper.wp execOp
  simp only [ho, resolve, invoke, builtin, Sem.run_bind, Sem.run_pure, Result.andThen_ok, List.map_toArray, List.map_cons, List.map_nil, hs, hx, hr]
  exact h'
end
def kIn : Kind Int := ⟨fun x => [.int .i64 x], 1, fun x => I64 x, fun _ => rfl, by
  intro x u hu
  simp only [List.mem_cons, List.not_mem_nil, or_false] at hu
  rcases hu with rfl
  rfl⟩
theorem cK_kIn (xs : List Int) : cK kIn xs = cI xs := by
  induction xs with
  | nil => rfl
  | cons x xs ih => show kIn.c x ++ cK kIn xs = _; rw [ih]; rfl
theorem appI_at {w : World} {ops : Array Oper} {rest : List Oper} {o : Oper} {a : Act} {Q : Exit → Act → World → Prop} (hgd : o.guard = none) (s x : Operand)
    (ho : o.op = .call { callee := .builtin .append, args := #[s, x], argTypes := #[24, 24] })
    (base : Nat) (v : Value) (n : Nat) (xs : List Int) (u : Int) (hs : a.eval s = v) (hown : w.ownsRow base 2 1 v n (cI xs)) (hx : a.eval x = .slice (some ⟨w.heap.size, 0, none⟩) 1 1)
    (hn : n ≤ 1099511627776) (hbase : base ≤ w.heap.size)
    (h : ∀ v' w', w'.ownsRow base 2 1 v' (n + 1) (cI (xs ++ [u])) → (w.alloc (.cells #[.int .i64 u] 2)).grownBy w' v.ownBlock → (v'.ownBlock = v.ownBlock ∨ v'.ownBlock = some (w.heap.size + 1)) → wpList Tryz.prog ops Q rest (a.put o.dst v') w') : wpList Tryz.prog ops Q (o :: rest) a (w.alloc (.cells #[.int .i64 u] 2)) :=
  appK_at kIn hgd s x 24 ho base 2 (.int .i64 0) 8 Tryz.underlying24 Tryz.info2 rfl (by decide) (by omega) v n xs u hs (by rw [cK_kIn]; exact hown) hx hn hbase
    (fun v' w' h1 h2 h3 => h v' w' (by rw [← cK_kIn]; exact h1) h2 h3)
theorem Tryz.infoRoom : (Tryz.prog.info? 87).map (fun i => (i.zero, i.size, i.bytes)) = some (some (.agg #[.int .i64 0, .int .i64 0, .int .i64 0]), 3, 24) := by kernel_rfl
theorem appRm_at {w : World} {ops : Array Oper} {rest : List Oper} {o : Oper} {a : Act} {Q : Exit → Act → World → Prop} (hgd : o.guard = none) (s x : Operand)
    (ho : o.op = .call { callee := .builtin .append, args := #[s, x], argTypes := #[159, 159] })
    (base : Nat) (v : Value) (n : Nat) (xs : List RmZ) (u : RmZ) (hs : a.eval s = v) (hown : w.ownsRow base 87 3 v n (cK kRm xs)) (hx : a.eval x = .slice (some ⟨w.heap.size, 0, none⟩) 1 1)
    (hn : n ≤ 1099511627776) (hbase : base ≤ w.heap.size)
    (h : ∀ v' w', w'.ownsRow base 87 3 v' (n + 1) (cK kRm (xs ++ [u])) → (w.alloc (.cells #[.int .i64 u.p, .int .i64 u.b, .int .i64 u.k] 87)).grownBy w' v.ownBlock → (v'.ownBlock = v.ownBlock ∨ v'.ownBlock = some (w.heap.size + 1)) → wpList Tryz.prog ops Q rest (a.put o.dst v') w') : wpList Tryz.prog ops Q (o :: rest) a (w.alloc (.cells #[.int .i64 u.p, .int .i64 u.b, .int .i64 u.k] 87)) :=
  appK_at kRm hgd s x 159 ho base 87 (.agg #[.int .i64 0, .int .i64 0, .int .i64 0]) 24 Tryz.underlying159 Tryz.infoRoom rfl (by decide) (by omega) v n xs u hs hown hx hn hbase
    (fun v' w' h1 h2 h3 => h v' w' h1 h2 h3)

theorem opAppRm_at {w : World} {o : Oper} {a : Act} {Q : Exit → Act → World → Prop} {K' : Act → World → Prop} (hgd : o.guard = none) (s x : Operand)
    (ho : o.op = .call { callee := .builtin .append, args := #[s, x], argTypes := #[159, 159] })
    (base : Nat) (v : Value) (n : Nat) (xs : List RmZ) (u : RmZ) (hs : a.eval s = v) (hown : w.ownsRow base 87 3 v n (cK kRm xs)) (hx : a.eval x = .slice (some ⟨w.heap.size, 0, none⟩) 1 1)
    (hn : n ≤ 1099511627776) (hbase : base ≤ w.heap.size)
    (h : ∀ v' w', w'.ownsRow base 87 3 v' (n + 1) (cK kRm (xs ++ [u])) → (w.alloc (.cells #[.int .i64 u.p, .int .i64 u.b, .int .i64 u.k] 87)).grownBy w' v.ownBlock → (v'.ownBlock = v.ownBlock ∨ v'.ownBlock = some (w.heap.size + 1)) → K' (a.put o.dst v') w') : Oper.wp Tryz.prog o a (w.alloc (.cells #[.int .i64 u.p, .int .i64 u.b, .int .i64 u.k] 87)) K' Q :=
  opAppK_at kRm hgd s x 159 ho base 87 (.agg #[.int .i64 0, .int .i64 0, .int .i64 0]) 24 Tryz.underlying159 Tryz.infoRoom rfl (by decide) (by omega) v n xs u hs hown hx hn hbase h

/-! ### what stays -/
structure Kp (w w' : World) (g : Nat) (v1 v2 v1' v2' : Value) : Prop where
  os : w'.os = w.os
  tape : w'.tape = w.tape
  output : w'.output = w.output
  size : w.heap.size ≤ w'.heap.size
  block : ∀ k, k < w.heap.size → k ≠ g → v1.ownBlock ≠ some k → v2.ownBlock ≠ some k → w'.heap[k]? = w.heap[k]?
  o1 : ∀ k, v1'.ownBlock = some k → k < w.heap.size → v1.ownBlock = some k
  o2 : ∀ k, v2'.ownBlock = some k → k < w.heap.size → v2.ownBlock = some k
theorem Kp.refl (w : World) (g : Nat) (v1 v2 : Value) : Kp w w g v1 v2 v1 v2 := ⟨rfl, rfl, rfl, Nat.le_refl _, fun _ _ _ _ _ => rfl, fun _ h _ => h, fun _ h _ => h⟩
theorem Kp.trans {w w1 w2 : World} {g : Nat} {v1 v2 v1' v2' v1'' v2'' : Value} (h : Kp w w1 g v1 v2 v1' v2') (k : Kp w1 w2 g v1' v2' v1'' v2'') : Kp w w2 g v1 v2 v1'' v2'' :=
  ⟨k.os.trans h.os, k.tape.trans h.tape, k.output.trans h.output, Nat.le_trans h.size k.size, fun q hq hg h1 h2 => (k.block q (Nat.lt_of_lt_of_le hq h.size) hg (fun e => h1 (h.o1 q e hq)) (fun e => h2 (h.o2 q e hq))).trans (h.block q hq hg h1 h2),
   fun q e hq => h.o1 q (k.o1 q e (Nat.lt_of_lt_of_le hq h.size)) hq, fun q e hq => h.o2 q (k.o2 q e (Nat.lt_of_lt_of_le hq h.size)) hq⟩
theorem Kp.of_below {w w' : World} {g : Nat} {v1 v2 : Value} (h : Below w.heap.size w w') : Kp w w' g v1 v2 v1 v2 := ⟨h.os, h.tape, h.output, h.size, fun k hk _ _ _ => h.block k hk, fun _ e _ => e, fun _ e _ => e⟩
theorem Kp.set {w : World} {g i : Nat} {v1 v2 u : Value} : Kp w (w.setCell ⟨g, i, none⟩ u) g v1 v2 v1 v2 := ⟨rfl, rfl, rfl, by simp, fun k _ hk _ _ => heap_setCell_other _ _ _ _ hk, fun _ e _ => e, fun _ e _ => e⟩
theorem Kp.as {w w' : World} {g : Nat} {v1 v2 v1' v2' v1'' v2'' : Value} (h : Kp w w' g v1 v2 v1' v2') (e1 : v1''.ownBlock = v1'.ownBlock) (e2 : v2''.ownBlock = v2'.ownBlock) : Kp w w' g v1 v2 v1'' v2'' := ⟨h.os, h.tape, h.output, h.size, h.block, fun k e => h.o1 k (e1 ▸ e), fun k e => h.o2 k (e2 ▸ e)⟩
theorem Kp.grow2 {w w' : World} {g : Nat} {v1 v2 v2' : Value} {o : Obj} (h2 : (w.alloc o).grownBy w' v2.ownBlock) (h3 : v2'.ownBlock = v2.ownBlock ∨ v2'.ownBlock = some (w.heap.size + 1)) : Kp w w' g v1 v2 v1 v2' :=
  ⟨h2.os, h2.tape, h2.output, by have := h2.size; simp at this; omega, fun k hk _ _ hn => (h2.block k (by simp; omega) (fun e => hn e.symm)).trans (heap_alloc_old w o hk), fun _ e _ => e, fun k e hk => by
    rcases h3 with h | h
    · rw [← h]; exact e
    · rw [h] at e; simp only [Option.some.injEq] at e; omega⟩
theorem Kp.grow1 {w w' : World} {g : Nat} {v1 v2 v1' : Value} {o : Obj} (h2 : (w.alloc o).grownBy w' v1.ownBlock) (h3 : v1'.ownBlock = v1.ownBlock ∨ v1'.ownBlock = some (w.heap.size + 1)) : Kp w w' g v1 v2 v1' v2 :=
  ⟨h2.os, h2.tape, h2.output, by have := h2.size; simp at this; omega, fun k hk _ hn _ => (h2.block k (by simp; omega) (fun e => hn e.symm)).trans (heap_alloc_old w o hk), fun k e hk => by
    rcases h3 with h | h
    · rw [← h]; exact e
    · rw [h] at e; simp only [Option.some.injEq] at e; omega, fun _ e _ => e⟩
theorem Kp.put {w : World} {g b m c i j k : Nat} {v2 u0 u1 u2 : Value} : Kp w (((w.setCell ⟨b, i, none⟩ u0).setCell ⟨b, j, none⟩ u1).setCell ⟨b, k, none⟩ u2) g (.slice (some ⟨b, 0, none⟩) m c) v2 (.slice (some ⟨b, 0, none⟩) m c) v2 :=
  ⟨rfl, rfl, rfl, by simp, fun q _ _ h1 _ => by
    have hq : q ≠ b := fun e => h1 (by rw [e]; rfl)
    exact ((heap_setCell_other _ _ _ _ hq).trans (heap_setCell_other _ _ _ _ hq)).trans (heap_setCell_other _ _ _ _ hq), fun _ e _ => e, fun _ e _ => e⟩
section
variable {w w' : World} {g n c left : Nat} {A : Option Addr} {r : RmZ} {v1 v2 v3 v1' v2' : Value} {few : Int} {fd : Bool} {ons : List RmZ} {rs : List Int} {best : Option (List Int × Nat)}
theorem Kp.below (h : LdP w g A n c r left v1 v2 v3 few fd ons rs best) (k : Kp w w' g v1 v2 v1' v2') : Below g w w' :=
  ⟨k.os, k.tape, k.output, k.size, fun q hq => k.block q (Nat.lt_trans hq h.lt) (by omega) (fun e => by have := (own_lt h.on e).1; omega) (fun e => by have := (own_lt h.rd e).1; omega)⟩
theorem Kp.at3 {e : TypeId} {B : Nat} {a0 a1 a2 : Value} (h : LdP w g A n c r left v1 v2 v3 few fd ons rs best) (k : Kp w w' g v1 v2 v1' v2') (hA : At3 e w B a0 a1 a2) (h1 : e ≠ 161) (h2 : B ≠ g) (h3 : v1.ownBlock ≠ some B) (h4 : v2.ownBlock ≠ some B) : At3 e w' B a0 a1 a2 := (k.block B (lt_blk hA) h2 h3 h4).trans hA
/-- The shape of the two rows. -/
theorem LdP.vals (h : LdP w g A n c r left v1 v2 v3 few fd ons rs best) {m k : Nat} (hm : m = ons.length) (hk : k = rs.length) : ∃ A1 c1 A2 c2, v1 = .slice A1 m c1 ∧ v2 = .slice A2 k c2 ∧ m ≤ c1 ∧ k ≤ c2 := by
  obtain ⟨A1, c1, e1⟩ := own_slice h.on
  obtain ⟨A2, c2, e2⟩ := own_slice h.rd
  have h1 := h.on
  have h2 := h.rd
  rw [e1] at h1
  rw [e2] at h2
  exact ⟨A1, c1, A2, c2, by rw [hm]; exact e1, by rw [hk]; exact e2, by rw [hm]; exact own_cap h1, by rw [hk]; exact own_cap h2⟩
/-- Behind an append the loader's cells are as they were. -/
theorem LdP.cell2 {o : Obj} (h : LdP w g A n c r left v1 v2 v3 few fd ons rs best) (h2 : (w.alloc o).grownBy w' v2.ownBlock) : w'.cell? ⟨g, 7, none⟩ = some v2 ∧ w'.frozen? ⟨g, 7, none⟩ = false := by
  have hgk : w'.heap[g]? = _ := ((h2.block g (by have := h.lt; simp; omega) (fun e => by have := (own_lt h.rd e.symm).1; omega)).trans (heap_alloc_old w o h.lt)).trans h.ld
  exact ⟨(cell_of_row _ g 7 _ _ _ hgk).trans rfl, frozen_of_row _ g 7 _ _ hgk⟩
theorem LdP.cell1 {o : Obj} (h : LdP w g A n c r left v1 v2 v3 few fd ons rs best) (h2 : (w.alloc o).grownBy w' v1.ownBlock) : w'.cell? ⟨g, 6, none⟩ = some v1 ∧ w'.frozen? ⟨g, 6, none⟩ = false := by
  have hgk : w'.heap[g]? = _ := ((h2.block g (by have := h.lt; simp; omega) (fun e => by have := (own_lt h.on e.symm).1; omega)).trans (heap_alloc_old w o h.lt)).trans h.ld
  exact ⟨(cell_of_row _ g 6 _ _ _ hgk).trans rfl, frozen_of_row _ g 6 _ _ hgk⟩
end

set_option maxHeartbeats 1000000 in
theorem node_calls (g left : Nat) (w : World) (hl : left ≤ 1000000) (c0 : w.cell? ⟨g, 0, none⟩ = some (.int .i64 ((left : Int) + 1))) (f0 : w.frozen? ⟨g, 0, none⟩ = false) :
    Calls Tryz.prog 194 #[.pointer (some ⟨g, 0, none⟩)] w fun e w' => e = .returned (.bool true) ∧ w' = w.setCell ⟨g, 0, none⟩ (.int .i64 (left : Int)) := by
  have h1 : ¬ (left : Int) + 1 = 0 := by omega
  have h2 : (((left : Int) + 1) == 0) = false := by simp; omega
  have h3 : IntKind.i64.wrap ((left : Int) + 1 - 1) = (left : Int) := by rw [IntKind.wrap_i64]; omega
  go_enter Tryz.func194, Tryz.ntmps194
  go_wp2
  go_ret
  exact ⟨rfl, by simp⟩

end Go.Proofs.YtcclfmapbgdpdaaGreatDoor
