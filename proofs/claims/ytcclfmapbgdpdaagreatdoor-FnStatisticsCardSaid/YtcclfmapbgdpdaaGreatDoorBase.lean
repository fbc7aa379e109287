/-
  Plain words for memory, over any program: a slice value that reads as a list of cells (Rd), worlds that differ by draws, small lemmas.
-/
import Derived.WalkKit
import Derived.WalkSpells
import Derived.WalkLawsBesides
import Derived.BigQuiet
import Derived.Deep.QuietTactic
import Derived.Deep.LoopGhost
import Derived.Deep.Draws
import Derived.Lib.Hide
import Derived.Lib.ConvBytes
import Derived.Lib.Strings
namespace Go.Proofs.YtcclfmapbgdpdaaGreatDoor
open Go.RowKit

theorem b_cases (b : Bool) : b = false ∨ b = true := by cases b <;> simp
theorem hide {p : Prop} (h : p) : Hid p := h

theorem below_drewN {B : Nat} {a w : World} (h : Below B a w) (n : Nat) : Below B a (w.drewN n) := ⟨h.os, h.tape, h.output, h.size, h.block⟩
theorem below_of_drewN {w w' : World} (B : Nat) (h : ∃ m, w' = w.drewN m) : Below B w w' := by
  obtain ⟨m, rfl⟩ := h
  exact below_drewN (Below.refl _ _) m

theorem below_of_draws {w w' : World} (h : ∃ m, w' = w.drewN m) : Below w.heap.size w w' := below_of_drewN _ h

/-- The slice value '.slice A n c' of elements of 'size' cells reads as the cells 'cs'. -/
def Rd (w : World) (A : Option Addr) (n size : Nat) (cs : List Value) : Prop :=
  cs.length = n * size ∧ (0 < n → ∃ b off, A = some ⟨b, off, none⟩ ∧ b < w.heap.size ∧ ∀ j u, cs[j]? = some u → w.cell? ⟨b, off + j, none⟩ = some u)

section
variable {w w' : World} {A : Option Addr} {n size : Nat} {cs : List Value}
theorem Rd.nil : Rd w A 0 size [] := ⟨by simp, fun h => absurd h (by omega)⟩
theorem Rd.keep (h : Rd w A n size cs) (hs : w.heap.size ≤ w'.heap.size) (hk : ∀ p : Addr, p.block < w.heap.size → w'.cell? p = w.cell? p) : Rd w' A n size cs :=
  ⟨h.1, fun hn => by
    obtain ⟨b, off, rfl, hb, hc⟩ := h.2 hn
    exact ⟨b, off, rfl, by omega, fun j u hu => (hk _ hb).trans (hc j u hu)⟩⟩
theorem Rd.below {B : Nat} (h : Rd w A n size cs) (hb : Below B w w') (hB : w.heap.size ≤ B) : Rd w' A n size cs :=
  h.keep hb.size fun _ hp => hb.cell (by omega)
theorem Rd.drewN (h : Rd w A n size cs) (k : Nat) : Rd (w.drewN k) A n size cs := h
theorem Rd.alloc (h : Rd w A n size cs) (o : Obj) : Rd (w.alloc o) A n size cs := h.keep (by simp) fun p hp => World.cell?_alloc_lt w o p hp
theorem Rd.of_own {base : Nat} {e : TypeId} {c : Nat} (h : w.ownsRow base e size (.slice A n c) n cs) : Rd w A n size cs := by
  refine ⟨h.1, fun hn => ?_⟩
  rcases h.2 with ⟨_, h0⟩ | ⟨g, cap, cur, hv, _, hh, _⟩
  · omega
  · have hA : A = some ⟨g, 0, none⟩ := by injection hv
    subst hA
    refine ⟨g, 0, rfl, (Array.getElem?_eq_some_iff.1 hh).1, fun j u hu => ?_⟩
    have := h.cells (g := g) rfl j u hu
    simpa [Addr.add_lit] using this
/-- One cell an element: the cell at k. -/
theorem Rd.at1 {k : Nat} (h : Rd w A n 1 cs) (hk : k < n) : ∃ b off u, A = some ⟨b, off, none⟩ ∧ b < w.heap.size ∧ cs[k]? = some u ∧ w.cell? ⟨b, off + k, none⟩ = some u := by
  obtain ⟨b, off, e, hb, hc⟩ := h.2 (by omega)
  have hl : k < cs.length := by have := h.1; omega
  exact ⟨b, off, cs[k], e, hb, List.getElem?_eq_getElem hl, hc k _ (List.getElem?_eq_getElem hl)⟩
end

/-- A callee that leaves the world alone, met in a region that is walked quietly. -/
theorem quiet_eq {P : Program} {f : FuncId} {args : Array Value} {w : World} {n : Nat} {v : Value} (h : Calls P f args (w.drewN n) fun e w' => e = .returned v ∧ w.drewN n = w') :
    Calls P f args (w.drewN n) fun e w'' => e = .returned v ∧ ∃ m, w'' = w.drewN m := h.mono fun _ _ ⟨he, hm⟩ => ⟨he, n, hm.symm⟩
theorem quiet_eq2 {P : Program} {f : FuncId} {args : Array Value} {w : World} {a n : Nat} {v : Value} (h : Calls P f args (w.drewN (a + n)) fun e w' => e = .returned v ∧ w.drewN (a + n) = w') :
    Calls P f args (w.drewN (a + n)) fun e w'' => e = .returned v ∧ ∃ m, w'' = w.drewN (a + m) := h.mono fun _ _ ⟨he, hm⟩ => ⟨he, n, hm.symm⟩
/-- A callee that draws. -/
theorem quiet_dr {P : Program} {f : FuncId} {args : Array Value} {w : World} {n : Nat} {v : Value} (h : Calls P f args (w.drewN n) fun e w' => e = .returned v ∧ ∃ m, w' = (w.drewN n).drewN m) :
    Calls P f args (w.drewN n) fun e w'' => e = .returned v ∧ ∃ m, w'' = w.drewN m := h.mono fun _ _ ⟨he, m, hm⟩ => ⟨he, n + m, by rw [hm, World.drewN_drewN]⟩
theorem quiet_dr2 {P : Program} {f : FuncId} {args : Array Value} {w : World} {a n : Nat} {v : Value} (h : Calls P f args (w.drewN (a + n)) fun e w' => e = .returned v ∧ ∃ m, w' = (w.drewN (a + n)).drewN m) :
    Calls P f args (w.drewN (a + n)) fun e w'' => e = .returned v ∧ ∃ m, w'' = w.drewN (a + m) := h.mono fun _ _ ⟨he, m, hm⟩ => ⟨he, n + m, by rw [hm, World.drewN_drewN, Nat.add_assoc]⟩

/-! ### lists of integers -/
/-- An int64. -/
def I64 (x : Int) : Prop := -9223372036854775808 ≤ x ∧ x ≤ 9223372036854775807
def cI (xs : List Int) : List Value := xs.map (Value.int .i64)
/-- A []int64 that reads as xs. -/
def RdI (w : World) (A : Option Addr) (n : Nat) (xs : List Int) : Prop := Rd w A n 1 (cI xs) ∧ ∀ x ∈ xs, I64 x

section
variable {w w' : World} {A : Option Addr} {n : Nat} {xs : List Int}
theorem RdI.len (h : RdI w A n xs) : xs.length = n := by simpa [cI] using h.1.1
theorem RdI.below {B : Nat} (h : RdI w A n xs) (hb : Below B w w') (hB : w.heap.size ≤ B) : RdI w' A n xs := ⟨h.1.below hb hB, h.2⟩
theorem RdI.drewN (h : RdI w A n xs) (k : Nat) : RdI (w.drewN k) A n xs := h
theorem RdI.at {k : Nat} (h : RdI w A n xs) (hk : k < n) :
    ∃ b off x, A = some ⟨b, off, none⟩ ∧ b < w.heap.size ∧ Hid (xs[k]? = some x) ∧ w.cell? ⟨b, off + k, none⟩ = some (.int .i64 x) ∧ -9223372036854775808 ≤ x ∧ x ≤ 9223372036854775807 := by
  obtain ⟨b, off, u, e, hb, hu, hc⟩ := h.1.at1 hk
  have hl : k < xs.length := by rw [h.len]; exact hk
  have hx := List.getElem?_eq_getElem hl
  simp only [cI, List.getElem?_map, hx, Option.map_some, Option.some.injEq] at hu
  subst hu
  have hb2 := h.2 _ (List.getElem_mem hl)
  exact ⟨b, off, _, e, hb, hx, hc, hb2.1, hb2.2⟩
theorem RdI.of_own {base : Nat} {e : TypeId} {c : Nat} (h : w.ownsRow base e 1 (.slice A n c) n (cI xs)) (hx : ∀ x ∈ xs, I64 x) : RdI w A n xs := ⟨Rd.of_own h, hx⟩
end

theorem take_snoc {α : Type} {l : List α} {k : Nat} {x : α} (h : l[k]? = some x) : l.take (k + 1) = l.take k ++ [x] := by
  rw [List.take_add_one, h]; rfl

theorem take_set_snoc {α : Type} {l : List α} {k : Nat} {u : α} (h : k < l.length) : (l.set k u).take (k + 1) = l.take k ++ [u] := by
  rw [List.take_add_one, List.getElem?_set_self h, List.take_set_of_le (Nat.le_refl _)]; rfl
/-- What a store into a row of the call's own wants, and what it leaves. -/
theorem own_store {w : World} {base : Nat} {e : TypeId} {size g n cap k : Nat} {cur : List Value} (h : w.ownsRow base e size (.slice (some ⟨g, 0, none⟩) n cap) n cur) (hk : k < n * size) :
    ∃ v, w.cell? ⟨g, k, none⟩ = some v ∧ w.frozen? ⟨g, k, none⟩ = false ∧ Hid (∀ u, (w.setCell ⟨g, k, none⟩ u).ownsRow base e size (.slice (some ⟨g, 0, none⟩) n cap) n (cur.set k u)) := by
  have hl : k < cur.length := by rw [h.1]; exact hk
  refine ⟨cur[k], by rw [h.cellAt k hk, List.getElem?_eq_getElem hl], h.frozenAt k, fun u => (h.stored k u).1⟩

theorem eq_of_takes {α : Type} {xs ys : List α} {n : Nat} (h1 : xs.length = n) (h2 : ys.length = n) (h : xs.take n = ys.take n) : xs = ys := by
  rwa [List.take_of_length_le (by omega), List.take_of_length_le (by omega)] at h
theorem ne_of_at {α : Type} {xs ys : List α} {k : Nat} {x y : α} (h1 : xs[k]? = some x) (h2 : ys[k]? = some y) (h : x ≠ y) : xs ≠ ys := by
  rintro rfl
  rw [h1] at h2
  exact h (Option.some.inj h2)
theorem ne_of_len {α : Type} {xs ys : List α} {n m : Nat} (h1 : xs.length = n) (h2 : ys.length = m) (h : n ≠ m) : xs ≠ ys := by
  rintro rfl
  exact h (h1.symm.trans h2)
theorem any_take_snoc {α : Type} {p : α → Bool} {xs : List α} {k : Nat} {x : α} (hx : xs[k]? = some x) (h : (xs.take k).any p = false) (hp : p x = false) : (xs.take (k + 1)).any p = false := by
  rw [take_snoc hx, List.any_append, h]; simp [hp]
theorem any_of_at {α : Type} {p : α → Bool} {xs : List α} {k : Nat} {x : α} (hx : xs[k]? = some x) (hp : p x = true) : xs.any p = true := by
  rw [List.any_eq_true]
  exact ⟨x, List.mem_of_getElem? hx, hp⟩
theorem any_of_takes {α : Type} {p : α → Bool} {xs : List α} {n : Nat} (h : xs.length = n) (ht : (xs.take n).any p = false) : xs.any p = false := by
  rwa [List.take_of_length_le (by omega)] at ht
theorem drewN2 (w : World) (m n : Nat) : ∃ j, (w.drewN m).drewN n = w.drewN j := ⟨_, World.drewN_drewN w m n⟩

/-! ### rows of one length -/
theorem flatten_len {α : Type} {s : Nat} {rows : List (List α)} (h : ∀ x ∈ rows, x.length = s) : rows.flatten.length = rows.length * s := by
  induction rows with
  | nil => simp
  | cons r rs ih =>
    rw [List.flatten_cons, List.length_append, ih (fun x hx => h x (by simp [hx])), h r (by simp), List.length_cons, Nat.succ_mul, Nat.add_comm]
theorem flatten_at {α : Type} {s : Nat} {rows : List (List α)} (h : ∀ x ∈ rows, x.length = s) {q k : Nat} {r : List α} (hi : rows[q]? = some r) (hk : k < s) : rows.flatten[q * s + k]? = r[k]? := by
  induction rows generalizing q with
  | nil => simp at hi
  | cons r0 rs ih =>
    have h0 : r0.length = s := h r0 (by simp)
    rw [List.flatten_cons]
    cases q with
    | zero =>
      simp at hi
      subst hi
      rw [Nat.zero_mul, Nat.zero_add, List.getElem?_append_left (by omega)]
    | succ q =>
      simp only [List.getElem?_cons_succ] at hi
      rw [List.getElem?_append_right (by rw [h0, Nat.succ_mul]; omega), h0, Nat.succ_mul, show q * s + s + k - s = q * s + k by omega]
      exact ih (fun x hx => h x (by simp [hx])) hi

theorem Rd.row {w : World} {A : Option Addr} {n size : Nat} {rows : List (List Value)} (h : Rd w A n size rows.flatten) (hl : ∀ x ∈ rows, x.length = size) {k : Nat} (hk : k < n) (hn : rows.length = n) :
    ∃ b off r, A = some ⟨b, off, none⟩ ∧ b < w.heap.size ∧ rows[k]? = some r ∧ ∀ j u, r[j]? = some u → w.cell? ⟨b, off + (k * size + j), none⟩ = some u := by
  obtain ⟨b, off, e, hb, hc⟩ := h.2 (by omega)
  have hkl : k < rows.length := by omega
  refine ⟨b, off, rows[k], e, hb, List.getElem?_eq_getElem hkl, fun j u hu => hc _ _ ?_⟩
  have hj : j < size := by
    have := (List.getElem?_eq_some_iff.1 hu).1
    rwa [hl _ (List.getElem_mem hkl)] at this
  rw [flatten_at hl (List.getElem?_eq_getElem hkl) hj]
  exact hu

/-! ### strings -/
/-- A string's bytes. -/
def bs (s : ByteArray) : List UInt8 := s.data.toList
theorem bs_len (s : ByteArray) : (bs s).length = s.size := rfl
theorem toList_bs (s : ByteArray) : s.toList = bs s := Lib.toList_data s
theorem bs_inj {s t : ByteArray} (h : bs s = bs t) : s = t := by
  cases s; cases t
  simp only [bs] at h
  congr
  exact Array.toList_inj.1 h
/-- The byte at k. -/
theorem bs_at (s : ByteArray) {k : Nat} (h : k < s.size) : ∃ c : UInt8, s[k] = c ∧ Hid ((bs s)[k]? = some c) := by
  refine ⟨_, rfl, ?_⟩
  unfold Hid bs
  rw [List.getElem?_eq_getElem (by simpa using h)]
  rfl
theorem below_bytesWorld (w : World) (e : TypeId) (s : ByteArray) : Below w.heap.size w (Lib.bytesWorld w e s) :=
  ⟨rfl, rfl, rfl, by rw [Lib.bytesWorld_size]; omega, fun k hk => Lib.bytesWorld_at_old w e s k hk⟩

theorem own_below {w w' : World} {base : Nat} {e : TypeId} {size : Nat} {v : Value} {n : Nat} {xs : List Value} (h : w.ownsRow base e size v n xs) {B : Nat} (hb : Below B w w') (hB : w.heap.size ≤ B) : w'.ownsRow base e size v n xs := by
  refine ⟨h.1, ?_⟩
  rcases h.2 with hn | ⟨g, cap, cur, rfl, hbg, hgg, rest⟩
  · exact .inl hn
  · refine .inr ⟨g, cap, cur, rfl, hbg, ?_, rest⟩
    have hlt := (Array.getElem?_eq_some_iff.1 hgg).1
    rw [hb.block g (by omega)]
    exact hgg
theorem own_drewN {w : World} {base : Nat} {e : TypeId} {size : Nat} {v : Value} {n : Nat} {xs : List Value} (h : w.ownsRow base e size v n xs) (k : Nat) : (w.drewN k).ownsRow base e size v n xs := h
theorem own_cap {w : World} {base : Nat} {e : TypeId} {size n c : Nat} {A : Option Addr} {xs : List Value} (h : w.ownsRow base e size (.slice A n c) n xs) : n ≤ c := by
  rcases h.2 with ⟨hv, h0⟩ | ⟨g, cap, cur, hv, _, _, hnc, _⟩
  · omega
  · injection hv with _ _ hc
    omega
theorem own_slice {w : World} {base : Nat} {e : TypeId} {size n : Nat} {v : Value} {xs : List Value} (h : w.ownsRow base e size v n xs) : ∃ A c, v = .slice A n c := by
  rcases h.2 with ⟨rfl, rfl⟩ | ⟨g, cap, cur, rfl, _⟩
  · exact ⟨_, _, rfl⟩
  · exact ⟨_, _, rfl⟩
/-- Two cells stored one behind the other, at an even place. -/
theorem take_set_snoc2 {α : Type} {l : List α} {k : Nat} {u v : α} (h : k * 2 + 1 < l.length) : ((l.set (k * 2) u).set (k * 2 + 1) v).take ((k + 1) * 2) = l.take (k * 2) ++ [u, v] := by
  have e : (k + 1) * 2 = k * 2 + 1 + 1 := by omega
  rw [e, take_set_snoc (by simpa using h), take_set_snoc (by omega)]
  simp

/-- The number in a returned value is another's. -/
theorem ret_int {k : IntKind} {a b : Int} (h : a = b) : Ending.returned (.int k a) = .returned (.int k b) := by rw [h]
theorem ret_two {v v' u u' : Value} (h : v = v') (h' : u = u') : Ending.returned (.tuple #[v, u]) = .returned (.tuple #[v', u']) := by rw [h, h']
theorem ret_bool {a b : Bool} (h : a = b) : Ending.returned (.bool a) = .returned (.bool b) := by rw [h]

/-- What the laws' size functions return: less than zero, or what is left; then what was counted is small. -/
def SzPost (l : Int) (F : Prop) (w : World) (e : Ending) (w' : World) : Prop := ∃ r : Int, e = .returned (.int .i64 r) ∧ -1 ≤ r ∧ r ≤ l ∧ (0 ≤ r → F) ∧ Below w.heap.size w w'

theorem str_eq {s s' : ByteArray} (h : s = s') : (s.toList == s'.toList) = true ∧ (s.toList != s'.toList) = false := by
  subst h; simp
theorem str_ne {s s' : ByteArray} (h : s ≠ s') : (s.toList == s'.toList) = false ∧ (s.toList != s'.toList) = true := by
  have : ¬ s.toList = s'.toList := by rw [toList_bs, toList_bs]; exact fun e => h (bs_inj e)
  simp [this]

theorem ret_str {a b : ByteArray} (h : a = b) : Ending.returned (.string a) = .returned (.string b) := by rw [h]

end Go.Proofs.YtcclfmapbgdpdaaGreatDoor
