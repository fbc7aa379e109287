/- Several of the plain texts and contracts in one. -/
import Derived.WalkKit
import Derived.WalkSpells
import Derived.WalkLawsBesides
import Derived.BigQuiet
import Derived.Deep.QuietTactic
import Derived.Deep.LoopGhost
import Derived.Deep.Draws
import Derived.Lib.Hide
import Derived.Lib.ConvBytes
import Derived.Lib.Strings
import Derived.Test.YtmpfkmbfbeejhaaDoorRows
import Derived.Deep.RegionHeld3
import Derived.Laws.BitsLemmas
import Derived.Laws.AppendOwnNone
import Derived.Laws.BytesString
namespace Go.Proofs.YtmpfkmbfbeejhaaDoor
open Go.RowKit

theorem b_cases (b : Bool) : b = false ∨ b = true := by cases b <;> simp
theorem hide {p : Prop} (h : p) : Hid p := h

theorem below_drewN {B : Nat} {a w : World} (h : Below B a w) (n : Nat) : Below B a (w.drewN n) := ⟨h.os, h.tape, h.output, h.size, h.block⟩
theorem below_of_drewN {w w' : World} (B : Nat) (h : ∃ m, w' = w.drewN m) : Below B w w' := by
  obtain ⟨m, rfl⟩ := h
  exact below_drewN (Below.refl _ _) m

theorem below_of_draws {w w' : World} (h : ∃ m, w' = w.drewN m) : Below w.heap.size w w' := below_of_drewN _ h

/-- The slice value '.slice A n c' of elements of 'size' cells reads as the cells 'cs'. -/
def Rd (w : World) (A : Option Addr) (n size : Nat) (cs : List Value) : Prop :=
  cs.length = n * size ∧ (0 < n → ∃ b off, A = some ⟨b, off, none⟩ ∧ b < w.heap.size ∧ ∀ j u, cs[j]? = some u → w.cell? ⟨b, off + j, none⟩ = some u)

section
variable {w w' : World} {A : Option Addr} {n size : Nat} {cs : List Value}
theorem Rd.nil : Rd w A 0 size [] := ⟨by simp, fun h => absurd h (by omega)⟩
theorem Rd.keep (h : Rd w A n size cs) (hs : w.heap.size ≤ w'.heap.size) (hk : ∀ p : Addr, p.block < w.heap.size → w'.cell? p = w.cell? p) : Rd w' A n size cs :=
  ⟨h.1, fun hn => by
    obtain ⟨b, off, rfl, hb, hc⟩ := h.2 hn
    exact ⟨b, off, rfl, by omega, fun j u hu => (hk _ hb).trans (hc j u hu)⟩⟩
theorem Rd.below {B : Nat} (h : Rd w A n size cs) (hb : Below B w w') (hB : w.heap.size ≤ B) : Rd w' A n size cs :=
  h.keep hb.size fun _ hp => hb.cell (by omega)
theorem Rd.drewN (h : Rd w A n size cs) (k : Nat) : Rd (w.drewN k) A n size cs := h
theorem Rd.alloc (h : Rd w A n size cs) (o : Obj) : Rd (w.alloc o) A n size cs := h.keep (by simp) fun p hp => World.cell?_alloc_lt w o p hp
theorem Rd.of_own {base : Nat} {e : TypeId} {c : Nat} (h : w.ownsRow base e size (.slice A n c) n cs) : Rd w A n size cs := by
  refine ⟨h.1, fun hn => ?_⟩
  rcases h.2 with ⟨_, h0⟩ | ⟨g, cap, cur, hv, _, hh, _⟩
  · omega
  · have hA : A = some ⟨g, 0, none⟩ := by injection hv
    subst hA
    refine ⟨g, 0, rfl, (Array.getElem?_eq_some_iff.1 hh).1, fun j u hu => ?_⟩
    have := h.cells (g := g) rfl j u hu
    simpa [Addr.add_lit] using this
/-- One cell an element: the cell at k. -/
theorem Rd.at1 {k : Nat} (h : Rd w A n 1 cs) (hk : k < n) : ∃ b off u, A = some ⟨b, off, none⟩ ∧ b < w.heap.size ∧ cs[k]? = some u ∧ w.cell? ⟨b, off + k, none⟩ = some u := by
  obtain ⟨b, off, e, hb, hc⟩ := h.2 (by omega)
  have hl : k < cs.length := by have := h.1; omega
  exact ⟨b, off, cs[k], e, hb, List.getElem?_eq_getElem hl, hc k _ (List.getElem?_eq_getElem hl)⟩
end

/-- A callee that leaves the world alone, met in a region that is walked quietly. -/
theorem quiet_eq {P : Program} {f : FuncId} {args : Array Value} {w : World} {n : Nat} {v : Value} (h : Calls P f args (w.drewN n) fun e w' => e = .returned v ∧ w.drewN n = w') :
    Calls P f args (w.drewN n) fun e w'' => e = .returned v ∧ ∃ m, w'' = w.drewN m := h.mono fun _ _ ⟨he, hm⟩ => ⟨he, n, hm.symm⟩
theorem quiet_eq2 {P : Program} {f : FuncId} {args : Array Value} {w : World} {a n : Nat} {v : Value} (h : Calls P f args (w.drewN (a + n)) fun e w' => e = .returned v ∧ w.drewN (a + n) = w') :
    Calls P f args (w.drewN (a + n)) fun e w'' => e = .returned v ∧ ∃ m, w'' = w.drewN (a + m) := h.mono fun _ _ ⟨he, hm⟩ => ⟨he, n, hm.symm⟩
/-- A callee that draws. -/
theorem quiet_dr {P : Program} {f : FuncId} {args : Array Value} {w : World} {n : Nat} {v : Value} (h : Calls P f args (w.drewN n) fun e w' => e = .returned v ∧ ∃ m, w' = (w.drewN n).drewN m) :
    Calls P f args (w.drewN n) fun e w'' => e = .returned v ∧ ∃ m, w'' = w.drewN m := h.mono fun _ _ ⟨he, m, hm⟩ => ⟨he, n + m, by rw [hm, World.drewN_drewN]⟩
theorem quiet_dr2 {P : Program} {f : FuncId} {args : Array Value} {w : World} {a n : Nat} {v : Value} (h : Calls P f args (w.drewN (a + n)) fun e w' => e = .returned v ∧ ∃ m, w' = (w.drewN (a + n)).drewN m) :
    Calls P f args (w.drewN (a + n)) fun e w'' => e = .returned v ∧ ∃ m, w'' = w.drewN (a + m) := h.mono fun _ _ ⟨he, m, hm⟩ => ⟨he, n + m, by rw [hm, World.drewN_drewN, Nat.add_assoc]⟩

/-! ### lists of integers -/
/-- An int64. -/
def I64 (x : Int) : Prop := -9223372036854775808 ≤ x ∧ x ≤ 9223372036854775807
def cI (xs : List Int) : List Value := xs.map (Value.int .i64)
/-- A []int64 that reads as xs. -/
def RdI (w : World) (A : Option Addr) (n : Nat) (xs : List Int) : Prop := Rd w A n 1 (cI xs) ∧ ∀ x ∈ xs, I64 x

section
variable {w w' : World} {A : Option Addr} {n : Nat} {xs : List Int}
theorem RdI.len (h : RdI w A n xs) : xs.length = n := by simpa [cI] using h.1.1
theorem RdI.below {B : Nat} (h : RdI w A n xs) (hb : Below B w w') (hB : w.heap.size ≤ B) : RdI w' A n xs := ⟨h.1.below hb hB, h.2⟩
theorem RdI.drewN (h : RdI w A n xs) (k : Nat) : RdI (w.drewN k) A n xs := h
theorem RdI.at {k : Nat} (h : RdI w A n xs) (hk : k < n) :
    ∃ b off x, A = some ⟨b, off, none⟩ ∧ b < w.heap.size ∧ Hid (xs[k]? = some x) ∧ w.cell? ⟨b, off + k, none⟩ = some (.int .i64 x) ∧ -9223372036854775808 ≤ x ∧ x ≤ 9223372036854775807 := by
  obtain ⟨b, off, u, e, hb, hu, hc⟩ := h.1.at1 hk
  have hl : k < xs.length := by rw [h.len]; exact hk
  have hx := List.getElem?_eq_getElem hl
  simp only [cI, List.getElem?_map, hx, Option.map_some, Option.some.injEq] at hu
  subst hu
  have hb2 := h.2 _ (List.getElem_mem hl)
  exact ⟨b, off, _, e, hb, hx, hc, hb2.1, hb2.2⟩
theorem RdI.of_own {base : Nat} {e : TypeId} {c : Nat} (h : w.ownsRow base e 1 (.slice A n c) n (cI xs)) (hx : ∀ x ∈ xs, I64 x) : RdI w A n xs := ⟨Rd.of_own h, hx⟩
end

theorem take_snoc {α : Type} {l : List α} {k : Nat} {x : α} (h : l[k]? = some x) : l.take (k + 1) = l.take k ++ [x] := by
  rw [List.take_add_one, h]; rfl

theorem take_set_snoc {α : Type} {l : List α} {k : Nat} {u : α} (h : k < l.length) : (l.set k u).take (k + 1) = l.take k ++ [u] := by
  rw [List.take_add_one, List.getElem?_set_self h, List.take_set_of_le (Nat.le_refl _)]; rfl
/-- What a store into a row of the call's own wants, and what it leaves. -/
theorem own_store {w : World} {base : Nat} {e : TypeId} {size g n cap k : Nat} {cur : List Value} (h : w.ownsRow base e size (.slice (some ⟨g, 0, none⟩) n cap) n cur) (hk : k < n * size) :
    ∃ v, w.cell? ⟨g, k, none⟩ = some v ∧ w.frozen? ⟨g, k, none⟩ = false ∧ Hid (∀ u, (w.setCell ⟨g, k, none⟩ u).ownsRow base e size (.slice (some ⟨g, 0, none⟩) n cap) n (cur.set k u)) := by
  have hl : k < cur.length := by rw [h.1]; exact hk
  refine ⟨cur[k], by rw [h.cellAt k hk, List.getElem?_eq_getElem hl], h.frozenAt k, fun u => (h.stored k u).1⟩

theorem eq_of_takes {α : Type} {xs ys : List α} {n : Nat} (h1 : xs.length = n) (h2 : ys.length = n) (h : xs.take n = ys.take n) : xs = ys := by
  rwa [List.take_of_length_le (by omega), List.take_of_length_le (by omega)] at h
theorem ne_of_at {α : Type} {xs ys : List α} {k : Nat} {x y : α} (h1 : xs[k]? = some x) (h2 : ys[k]? = some y) (h : x ≠ y) : xs ≠ ys := by
  rintro rfl
  rw [h1] at h2
  exact h (Option.some.inj h2)
theorem ne_of_len {α : Type} {xs ys : List α} {n m : Nat} (h1 : xs.length = n) (h2 : ys.length = m) (h : n ≠ m) : xs ≠ ys := by
  rintro rfl
  exact h (h1.symm.trans h2)
theorem any_take_snoc {α : Type} {p : α → Bool} {xs : List α} {k : Nat} {x : α} (hx : xs[k]? = some x) (h : (xs.take k).any p = false) (hp : p x = false) : (xs.take (k + 1)).any p = false := by
  rw [take_snoc hx, List.any_append, h]; simp [hp]
theorem any_of_at {α : Type} {p : α → Bool} {xs : List α} {k : Nat} {x : α} (hx : xs[k]? = some x) (hp : p x = true) : xs.any p = true := by
  rw [List.any_eq_true]
  exact ⟨x, List.mem_of_getElem? hx, hp⟩
theorem any_of_takes {α : Type} {p : α → Bool} {xs : List α} {n : Nat} (h : xs.length = n) (ht : (xs.take n).any p = false) : xs.any p = false := by
  rwa [List.take_of_length_le (by omega)] at ht
theorem drewN2 (w : World) (m n : Nat) : ∃ j, (w.drewN m).drewN n = w.drewN j := ⟨_, World.drewN_drewN w m n⟩

/-! ### rows of one length -/
theorem flatten_len {α : Type} {s : Nat} {rows : List (List α)} (h : ∀ x ∈ rows, x.length = s) : rows.flatten.length = rows.length * s := by
  induction rows with
  | nil => simp
  | cons r rs ih =>
    rw [List.flatten_cons, List.length_append, ih (fun x hx => h x (by simp [hx])), h r (by simp), List.length_cons, Nat.succ_mul, Nat.add_comm]
theorem flatten_at {α : Type} {s : Nat} {rows : List (List α)} (h : ∀ x ∈ rows, x.length = s) {q k : Nat} {r : List α} (hi : rows[q]? = some r) (hk : k < s) : rows.flatten[q * s + k]? = r[k]? := by
  induction rows generalizing q with
  | nil => simp at hi
  | cons r0 rs ih =>
    have h0 : r0.length = s := h r0 (by simp)
    rw [List.flatten_cons]
    cases q with
    | zero =>
      simp at hi
      subst hi
      rw [Nat.zero_mul, Nat.zero_add, List.getElem?_append_left (by omega)]
    | succ q =>
      simp only [List.getElem?_cons_succ] at hi
      rw [List.getElem?_append_right (by rw [h0, Nat.succ_mul]; omega), h0, Nat.succ_mul, show q * s + s + k - s = q * s + k by omega]
      exact ih (fun x hx => h x (by simp [hx])) hi

theorem Rd.row {w : World} {A : Option Addr} {n size : Nat} {rows : List (List Value)} (h : Rd w A n size rows.flatten) (hl : ∀ x ∈ rows, x.length = size) {k : Nat} (hk : k < n) (hn : rows.length = n) :
    ∃ b off r, A = some ⟨b, off, none⟩ ∧ b < w.heap.size ∧ rows[k]? = some r ∧ ∀ j u, r[j]? = some u → w.cell? ⟨b, off + (k * size + j), none⟩ = some u := by
  obtain ⟨b, off, e, hb, hc⟩ := h.2 (by omega)
  have hkl : k < rows.length := by omega
  refine ⟨b, off, rows[k], e, hb, List.getElem?_eq_getElem hkl, fun j u hu => hc _ _ ?_⟩
  have hj : j < size := by
    have := (List.getElem?_eq_some_iff.1 hu).1
    rwa [hl _ (List.getElem_mem hkl)] at this
  rw [flatten_at hl (List.getElem?_eq_getElem hkl) hj]
  exact hu

/-! ### strings -/
/-- A string's bytes. -/
def bs (s : ByteArray) : List UInt8 := s.data.toList
theorem bs_len (s : ByteArray) : (bs s).length = s.size := rfl
theorem toList_bs (s : ByteArray) : s.toList = bs s := Lib.toList_data s
theorem bs_inj {s t : ByteArray} (h : bs s = bs t) : s = t := by
  cases s; cases t
  simp only [bs] at h
  congr
  exact Array.toList_inj.1 h
/-- The byte at k. -/
theorem bs_at (s : ByteArray) {k : Nat} (h : k < s.size) : ∃ c : UInt8, s[k] = c ∧ Hid ((bs s)[k]? = some c) := by
  refine ⟨_, rfl, ?_⟩
  unfold Hid bs
  rw [List.getElem?_eq_getElem (by simpa using h)]
  rfl
theorem below_bytesWorld (w : World) (e : TypeId) (s : ByteArray) : Below w.heap.size w (Lib.bytesWorld w e s) :=
  ⟨rfl, rfl, rfl, by rw [Lib.bytesWorld_size]; omega, fun k hk => Lib.bytesWorld_at_old w e s k hk⟩

theorem own_below {w w' : World} {base : Nat} {e : TypeId} {size : Nat} {v : Value} {n : Nat} {xs : List Value} (h : w.ownsRow base e size v n xs) {B : Nat} (hb : Below B w w') (hB : w.heap.size ≤ B) : w'.ownsRow base e size v n xs := by
  refine ⟨h.1, ?_⟩
  rcases h.2 with hn | ⟨g, cap, cur, rfl, hbg, hgg, rest⟩
  · exact .inl hn
  · refine .inr ⟨g, cap, cur, rfl, hbg, ?_, rest⟩
    have hlt := (Array.getElem?_eq_some_iff.1 hgg).1
    rw [hb.block g (by omega)]
    exact hgg
theorem own_drewN {w : World} {base : Nat} {e : TypeId} {size : Nat} {v : Value} {n : Nat} {xs : List Value} (h : w.ownsRow base e size v n xs) (k : Nat) : (w.drewN k).ownsRow base e size v n xs := h
theorem own_cap {w : World} {base : Nat} {e : TypeId} {size n c : Nat} {A : Option Addr} {xs : List Value} (h : w.ownsRow base e size (.slice A n c) n xs) : n ≤ c := by
  rcases h.2 with ⟨hv, h0⟩ | ⟨g, cap, cur, hv, _, _, hnc, _⟩
  · omega
  · injection hv with _ _ hc
    omega
theorem own_slice {w : World} {base : Nat} {e : TypeId} {size n : Nat} {v : Value} {xs : List Value} (h : w.ownsRow base e size v n xs) : ∃ A c, v = .slice A n c := by
  rcases h.2 with ⟨rfl, rfl⟩ | ⟨g, cap, cur, rfl, _⟩
  · exact ⟨_, _, rfl⟩
  · exact ⟨_, _, rfl⟩
/-- Two cells stored one behind the other, at an even place. -/
theorem take_set_snoc2 {α : Type} {l : List α} {k : Nat} {u v : α} (h : k * 2 + 1 < l.length) : ((l.set (k * 2) u).set (k * 2 + 1) v).take ((k + 1) * 2) = l.take (k * 2) ++ [u, v] := by
  have e : (k + 1) * 2 = k * 2 + 1 + 1 := by omega
  rw [e, take_set_snoc (by simpa using h), take_set_snoc (by omega)]
  simp

/-- The number in a returned value is another's. -/
theorem ret_int {k : IntKind} {a b : Int} (h : a = b) : Ending.returned (.int k a) = .returned (.int k b) := by rw [h]
theorem ret_two {v v' u u' : Value} (h : v = v') (h' : u = u') : Ending.returned (.tuple #[v, u]) = .returned (.tuple #[v', u']) := by rw [h, h']
theorem ret_bool {a b : Bool} (h : a = b) : Ending.returned (.bool a) = .returned (.bool b) := by rw [h]

/-- What the laws' size functions return: less than zero, or what is left; then what was counted is small. -/
def SzPost (l : Int) (F : Prop) (w : World) (e : Ending) (w' : World) : Prop := ∃ r : Int, e = .returned (.int .i64 r) ∧ -1 ≤ r ∧ r ≤ l ∧ (0 ≤ r → F) ∧ Below w.heap.size w w'

theorem str_eq {s s' : ByteArray} (h : s = s') : (s.toList == s'.toList) = true ∧ (s.toList != s'.toList) = false := by
  subst h; simp
theorem str_ne {s s' : ByteArray} (h : s ≠ s') : (s.toList == s'.toList) = false ∧ (s.toList != s'.toList) = true := by
  have : ¬ s.toList = s'.toList := by rw [toList_bs, toList_bs]; exact fun e => h (bs_inj e)
  simp [this]

theorem ret_str {a b : ByteArray} (h : a = b) : Ending.returned (.string a) = .returned (.string b) := by rw [h]

end Go.Proofs.YtmpfkmbfbeejhaaDoor

namespace Go.Proofs.YtmpfkmbfbeejhaaDoor
open Go.RowKit
set_option linter.unusedVariables false

def withinB (n low high : Int) : Bool := decide (low ≤ n) && decide (n ≤ high)
theorem withinB_iff {n low high : Int} : withinB n low high = true ↔ low ≤ n ∧ n ≤ high := by simp [withinB]
theorem withinB_not {n low high : Int} : withinB n low high = false ↔ n < low ∨ high < n := by
  rw [← Bool.not_eq_true, withinB_iff]; omega

set_option maxHeartbeats 400000 in
theorem within_calls (n low high : Int) (w : World) : Calls Tryd.prog 29 #[.int .i64 n, .int .i64 low, .int .i64 high] w fun e w' => e = .returned (.bool (withinB n low high)) ∧ w = w' := by
  by_cases h : low ≤ n
  · have h1 : decide (low ≤ n) = true := by simpa using h
    go_enter Tryd.func29, Tryd.ntmps29
    go_wp2
    go_ret
    exact ⟨by simp [withinB, h], rfl⟩
  · have h1 : decide (low ≤ n) = false := by simpa using h
    go_enter Tryd.func29, Tryd.ntmps29
    go_wp2
    go_ret
    exact ⟨by simp [withinB, h1], rfl⟩

set_option maxHeartbeats 400000 in
theorem l00In_calls (n low high : Int) (w : World) : Calls Tryd.prog 68 #[.int .i64 n, .int .i64 low, .int .i64 high] w fun e w' => e = .returned (.bool (withinB n low high)) ∧ w = w' := by
  by_cases h : low ≤ n
  · have h1 : decide (low ≤ n) = true := by simpa using h
    go_enter Tryd.func68, Tryd.ntmps68
    go_wp2
    go_ret
    exact ⟨by simp [withinB, h], rfl⟩
  · have h1 : decide (low ≤ n) = false := by simpa using h
    go_enter Tryd.func68, Tryd.ntmps68
    go_wp2
    go_ret
    exact ⟨by simp [withinB, h1], rfl⟩


/-! ### strings in order -/
theorem bless_irrefl : ∀ (x : List UInt8), Op.bytesLess x x = false
  | [] => rfl
  | a :: x => by simp [Op.bytesLess, bless_irrefl x]
theorem bless_cons {a b : UInt8} {x y : List UInt8} : Op.bytesLess (a :: x) (b :: y) = true ↔ a.toNat < b.toNat ∨ (a = b ∧ Op.bytesLess x y = true) := by
  simp [Op.bytesLess, UInt8.lt_iff_toNat_lt]
theorem bless_trans : ∀ {x y z : List UInt8}, Op.bytesLess x y = true → Op.bytesLess y z = true → Op.bytesLess x z = true
  | _, [], _, h, _ => by simp [Op.bytesLess] at h
  | _, _ :: _, [], _, h => by simp [Op.bytesLess] at h
  | [], _ :: _, _ :: _, _, _ => by simp [Op.bytesLess]
  | a :: x, b :: y, c :: z, h, h' => by
    rw [bless_cons] at *
    rcases h with h | ⟨rfl, h⟩
    · rcases h' with h' | ⟨rfl, h'⟩
      · exact .inl (by omega)
      · exact .inl h
    · rcases h' with h' | ⟨rfl, h'⟩
      · exact .inl h'
      · exact .inr ⟨rfl, bless_trans h h'⟩
theorem bless_total : ∀ {x y : List UInt8}, Op.bytesLess x y = false → Op.bytesLess y x = false → x = y
  | [], [], _, _ => rfl
  | [], _ :: _, h, _ => by simp [Op.bytesLess] at h
  | _ :: _, [], _, h => by simp [Op.bytesLess] at h
  | a :: x, b :: y, h, h' => by
    have h1 : ¬ Op.bytesLess (a :: x) (b :: y) = true := by rw [h]; simp
    have h2 : ¬ Op.bytesLess (b :: y) (a :: x) = true := by rw [h']; simp
    rw [bless_cons] at h1 h2
    have hab : a = b := UInt8.toNat_inj.1 (by omega)
    subst hab
    rw [bless_total (x := x) (y := y) (by simpa using h1) (by simpa using h2)]
/-- A string stands before another. -/
def strLess (s t : ByteArray) : Bool := Op.bytesLess s.toList t.toList
theorem strLess_irrefl (s : ByteArray) : strLess s s = false := bless_irrefl _
theorem strLess_trans {s t u : ByteArray} (h : strLess s t = true) (h' : strLess t u = true) : strLess s u = true := bless_trans h h'
theorem strLess_total {s t : ByteArray} (h : strLess s t = false) (h' : strLess t s = false) : s = t := by
  have := bless_total h h'
  rw [toList_bs, toList_bs] at this
  exact bs_inj this
theorem strLess_asymm {s t : ByteArray} (h : strLess s t = true) : strLess t s = false := by
  rcases b_cases (strLess t s) with e | e
  · exact e
  · have := strLess_trans h e
    rw [strLess_irrefl] at this
    exact absurd this (by simp)
/-- The three ways in which two strings stand. -/
theorem str_ways (s t : ByteArray) :
    (Op.bytesLess s.toList t.toList = true ∧ Op.bytesLess t.toList s.toList = false ∧ (s.toList == t.toList) = false ∧ (t.toList == s.toList) = false ∧ strLess s t = true ∧ strLess t s = false ∧ s ≠ t)
    ∨ (Op.bytesLess s.toList t.toList = false ∧ Op.bytesLess t.toList s.toList = false ∧ (s.toList == t.toList) = true ∧ (t.toList == s.toList) = true ∧ strLess s t = false ∧ strLess t s = false ∧ s = t)
    ∨ (Op.bytesLess s.toList t.toList = false ∧ Op.bytesLess t.toList s.toList = true ∧ (s.toList == t.toList) = false ∧ (t.toList == s.toList) = false ∧ strLess s t = false ∧ strLess t s = true ∧ s ≠ t) := by
  rcases b_cases (strLess s t) with e | e
  · rcases b_cases (strLess t s) with e' | e'
    · have := strLess_total e e'
      subst this
      exact .inr (.inl ⟨e, e, by simp, by simp, e, e, rfl⟩)
    · have hne : s ≠ t := by rintro rfl; rw [e] at e'; exact absurd e' (by simp)
      have hl : s.toList ≠ t.toList := by rw [toList_bs, toList_bs]; exact fun h => hne (bs_inj h)
      exact .inr (.inr ⟨e, e', by simpa using hl, by simpa using hl.symm, e, e', hne⟩)
  · have e' := strLess_asymm e
    have hne : s ≠ t := by rintro rfl; rw [e] at e'; exact absurd e' (by simp)
    have hl : s.toList ≠ t.toList := by rw [toList_bs, toList_bs]; exact fun h => hne (bs_inj h)
    exact .inl ⟨e, e', by simpa using hl, by simpa using hl.symm, e, e', hne⟩

end Go.Proofs.YtmpfkmbfbeejhaaDoor

namespace Go.Proofs.YtmpfkmbfbeejhaaDoor
open Go.RowKit
set_option linter.unusedVariables false

section
variable {P : Program} {ops : Array Oper} {Q : Exit → Act → World → Prop} {md : Region.Mode} {S : World → Prop}
theorem skipH {fuel : Nat} {listed : Array Bool} {a : Act} {w : World} (i d : Nat) (hw : ∃ oi, ops[i]? = some oi ∧ oi.dst = some d ∧ Region.wanted oi (yielded ops a.tmps) = false)
    (hs : Region.noSelect ops = true) (hf : Region.free md ops listed i = true) (hr : (Region.ready md ops listed).contains i = true)
    (hQ : ∀ c a w, Q (.panic c) (a.put (some d) undef) w → Q (.panic c) a w) (hS : S w)
    (h : wpAnyH P md ops Q S fuel (listed.setIfInBounds i true) (a.put (some d) undef) w) : wpAnyH P md ops Q S (fuel + 1) listed a w := by
  obtain ⟨oi, hi, hd, hn⟩ := hw
  exact wpAnyH_take hi hs hf hr (by rw [hd]; exact hQ) (Or.inr ⟨hn, rfl⟩) hS (by rw [hd]; exact h)
theorem takeH {fuel : Nat} {listed : Array Bool} {a : Act} {w : World} (i d : Nat) (v : Value) (hw : ∃ oi, ops[i]? = some oi ∧ oi.dst = some d ∧ Region.wanted oi (yielded ops a.tmps) = true ∧ ∀ w, S w → (execOp a.eval oi).run P w = .ok (.value v) w)
    (hs : Region.noSelect ops = true) (hf : Region.free md ops listed i = true) (hr : (Region.ready md ops listed).contains i = true)
    (hQ : ∀ c a w, Q (.panic c) (a.put (some d) v) w → Q (.panic c) a w) (hS : S w)
    (h : wpAnyH P md ops Q S fuel (listed.setIfInBounds i true) (a.put (some d) v) w) : wpAnyH P md ops Q S (fuel + 1) listed a w := by
  obtain ⟨oi, hi, hd, hn, hv⟩ := hw
  exact wpAnyH_take hi hs hf hr (by rw [hd]; exact hQ) (Or.inl ⟨hn, hv⟩) hS (by rw [hd]; exact h)
end

end Go.Proofs.YtmpfkmbfbeejhaaDoor

namespace Go.Proofs.YtmpfkmbfbeejhaaDoor
open Go.RowKit
set_option linter.unusedVariables false

def lowerB (c : UInt8) : Bool := decide (97 ≤ c.toNat) && decide (c.toNat ≤ 122)
def digitB (c : UInt8) : Bool := decide (48 ≤ c.toNat) && decide (c.toNat ≤ 57)
/-- Is a text a name? -/
def nameB (s : ByteArray) : Bool := decide (1 ≤ s.size) && decide (s.size ≤ 10) && lowerB (s.data.toList.getD 0 0) && s.data.toList.all fun c => lowerB c || digitB c

theorem lower_eq (c : UInt8) : lowerB c = (decide ((97 : Int) ≤ c.toNat) && decide ((c.toNat : Int) ≤ 122)) := by
  unfold lowerB
  congr 1 <;> (rw [decide_eq_decide]; omega)
theorem digit_eq (c : UInt8) : digitB c = (decide ((48 : Int) ≤ c.toNat) && decide ((c.toNat : Int) ≤ 57)) := by
  unfold digitB
  congr 1 <;> (rw [decide_eq_decide]; omega)

set_option maxHeartbeats 400000 in
theorem l01Small_calls (c : UInt8) (w : World) : Calls Tryd.prog 98 #[.int .u8 (c.toNat : Int)] w fun e w' => e = .returned (.bool (lowerB c)) ∧ w = w' := by
  have hc := c.toNat_lt
  by_cases h : (97 : Int) ≤ c.toNat
  · have h1 : decide ((97 : Int) ≤ c.toNat) = true := by simpa using h
    go_enter Tryd.func98, Tryd.ntmps98
    go_wp2
    go_ret
    exact ⟨ret_bool (by rw [lower_eq, h1]; simp), rfl⟩
  · have h1 : decide ((97 : Int) ≤ c.toNat) = false := by simpa using h
    go_enter Tryd.func98, Tryd.ntmps98
    go_wp2
    go_ret
    exact ⟨ret_bool (by rw [lower_eq, h1]; simp), rfl⟩
set_option maxHeartbeats 400000 in
theorem l01Digit_calls (c : UInt8) (w : World) : Calls Tryd.prog 99 #[.int .u8 (c.toNat : Int)] w fun e w' => e = .returned (.bool (digitB c)) ∧ w = w' := by
  have hc := c.toNat_lt
  by_cases h : (48 : Int) ≤ c.toNat
  · have h1 : decide ((48 : Int) ≤ c.toNat) = true := by simpa using h
    go_enter Tryd.func99, Tryd.ntmps99
    go_wp2
    go_ret
    exact ⟨ret_bool (by rw [digit_eq, h1]; simp), rfl⟩
  · have h1 : decide ((48 : Int) ≤ c.toNat) = false := by simpa using h
    go_enter Tryd.func99, Tryd.ntmps99
    go_wp2
    go_ret
    exact ⟨ret_bool (by rw [digit_eq, h1]; simp), rfl⟩
theorem allName_snoc {s : ByteArray} {k : Nat} {c : UInt8} (hx : (bs s)[k]? = some c) (h : ((bs s).take k).all (fun c => lowerB c || digitB c) = true) (hc : (lowerB c || digitB c) = true) :
    ((bs s).take (k + 1)).all (fun c => lowerB c || digitB c) = true := by
  rw [take_snoc hx, List.all_append, h]; simpa using hc
theorem name_bad {s : ByteArray} {k : Nat} {c : UInt8} (hx : (bs s)[k]? = some c) (hc : (lowerB c || digitB c) = false) : nameB s = false := by
  have : (bs s).all (fun c => lowerB c || digitB c) = false := by
    rw [List.all_eq_false]
    exact ⟨c, List.mem_of_getElem? hx, by simp [hc]⟩
  unfold nameB
  simp only [bs] at this
  rw [this]; simp
theorem name_first {s : ByteArray} {c : UInt8} (hx : (bs s)[0]? = some c) (hc : lowerB c = false) : nameB s = false := by
  unfold nameB
  simp only [bs] at hx
  simp [List.getD, hx, hc]
theorem name_end {s : ByteArray} (h1 : 1 ≤ s.size) (h2 : s.size ≤ 10) (hf : lowerB ((bs s).getD 0 0) = true) (h : ((bs s).take s.size).all (fun c => lowerB c || digitB c) = true) : nameB s = true := by
  rw [List.take_of_length_le (by rw [bs_len]; omega)] at h
  unfold nameB
  simp only [bs] at h hf
  rw [h, hf]
  simp; omega
theorem name_len {s : ByteArray} (h : s.size < 1 ∨ 10 < s.size) : nameB s = false := by
  unfold nameB
  rcases h with h | h
  · rw [decide_eq_false (by omega : ¬ 1 ≤ s.size)]; rfl
  · rw [decide_eq_false (by omega : ¬ s.size ≤ 10)]; simp

set_option maxHeartbeats 2000000 in
theorem isName_calls (s : ByteArray) (w : World) (hs : s.size ≤ 9223372036854775807) : Calls Tryd.prog 57 #[.string s] w fun e w' => e = .returned (.bool (nameB s)) ∧ Below w.heap.size w w' := by
  by_cases h1 : s.size < 1
  · have e1 : decide ((s.size : Int) < 1) = true := by simp; omega
    go_enter Tryd.func57, Tryd.ntmps57
    go_wp2
    go_ret
    exact ⟨ret_bool (name_len (.inl h1)).symm, Below.refl _ _⟩
  · by_cases h2 : 10 < s.size
    · have e1 : decide ((s.size : Int) < 1) = false := by simp; omega
      have e2 : decide ((10 : Int) < s.size) = true := by simp; omega
      go_enter Tryd.func57, Tryd.ntmps57
      go_wp2
      go_ret
      exact ⟨ret_bool (name_len (.inr h2)).symm, Below.refl _ _⟩
    · have e1 : decide ((s.size : Int) < 1) = false := by simp; omega
      have e2 : decide ((10 : Int) < s.size) = false := by simp; omega
      have hcv := fun wx : World => Lib.run_convert_string_bytes (P := Tryd.prog) wx 9 22 5 s Tryd.underlying9 Tryd.underlying22 Tryd.underlying5
      have hB := below_bytesWorld w 5 s
      have hcell := fun j hj => Lib.bytesWorld_cell w 5 s j hj
      have HC := hide hcell
      clear hcell
      go_enter Tryd.func57, Tryd.ntmps57
      go_wp2
      generalize Lib.bytesWorld w 5 s = w1 at *
      clear hcv
      go_loop [18] (fun i => ∃ (k : Nat), k ≤ s.size ∧ i = .int .i64 k ∧ Hid (((bs s).take k).all (fun c => lowerB c || digitB c) = true ∧ (1 ≤ k → lowerB ((bs s).getD 0 0) = true))) (fun i => s.size - (intOf i).toNat)
      case atStart => exact ⟨0, Nat.zero_le _, rfl, by simp [Hid]⟩
      case round =>
        obtain ⟨k, hk, rfl, hr⟩ := hrel
        by_cases hlt : k < s.size
        · obtain ⟨c, hsc, hx⟩ := bs_at s hlt
          have hc : w1.cell? ⟨w.heap.size, k, none⟩ = some (.int .u8 (c.toNat : Int)) := by
            rw [HC.out k hlt]
            have := hx.out
            simp only [bs] at this
            simp [List.getD, this]
          clear hsc
          have hc2 := c.toNat_lt
          rcases (show (c.toNat : Int) < 48 ∨ (48 ≤ (c.toNat : Int) ∧ (c.toNat : Int) ≤ 57) ∨ (58 ≤ (c.toNat : Int) ∧ (c.toNat : Int) ≤ 96) ∨ (97 ≤ (c.toNat : Int) ∧ (c.toNat : Int) ≤ 122) ∨ 123 ≤ (c.toNat : Int) by omega) with hq | ⟨hq, hq'⟩ | ⟨hq, hq'⟩ | ⟨hq, hq'⟩ | hq
          · have HN := hide (name_bad hx.out (by rw [lower_eq, digit_eq]; simp; omega))
            by_cases hk0 : k = 0
            · subst hk0
              go_wp2
              go_ret
              exact ⟨ret_bool HN.out.symm, hB⟩
            · have e3 : ((k : Int) == 0) = false := by simp; omega
              go_wp2
              go_ret
              exact ⟨ret_bool HN.out.symm, hB⟩
          · by_cases hk0 : k = 0
            · subst hk0
              have HN := hide (name_first hx.out (by rw [lower_eq]; simp; omega))
              go_wp2
              go_ret
              exact ⟨ret_bool HN.out.symm, hB⟩
            · have e3 : ((k : Int) == 0) = false := by simp; omega
              go_wp2
              go_round
              case rel =>
                refine ⟨k + 1, by omega, by go_num, allName_snoc hx.out hr.out.1 (by rw [lower_eq, digit_eq]; simp; omega), fun _ => ?_⟩
                exact hr.out.2 (by omega)
              case measure => simp [intOf]; omega
          · have d57 : decide ((c.toNat : Int) ≤ 57) = false := by simp; omega
            have HN := hide (name_bad hx.out (by rw [lower_eq, digit_eq]; simp; omega))
            by_cases hk0 : k = 0
            · subst hk0
              go_wp2
              go_ret
              exact ⟨ret_bool HN.out.symm, hB⟩
            · have e3 : ((k : Int) == 0) = false := by simp; omega
              go_wp2
              go_ret
              exact ⟨ret_bool HN.out.symm, hB⟩
          · by_cases hk0 : k = 0
            · subst hk0
              go_wp2
              go_round
              case rel =>
                refine ⟨1, by omega, by go_num, allName_snoc (k := 0) hx.out hr.out.1 (by rw [lower_eq, digit_eq]; simp; omega), fun _ => ?_⟩
                have := hx.out
                simp only [List.getD, this, lower_eq]; simp; omega
              case measure => simp [intOf]; omega
            · have e3 : ((k : Int) == 0) = false := by simp; omega
              go_wp2
              go_round
              case rel =>
                refine ⟨k + 1, by omega, by go_num, allName_snoc hx.out hr.out.1 (by rw [lower_eq, digit_eq]; simp; omega), fun _ => ?_⟩
                exact hr.out.2 (by omega)
              case measure => simp [intOf]; omega
          · have d57 : decide ((c.toNat : Int) ≤ 57) = false := by simp; omega
            have d122 : decide ((c.toNat : Int) ≤ 122) = false := by simp; omega
            have HN := hide (name_bad hx.out (by rw [lower_eq, digit_eq]; simp; omega))
            by_cases hk0 : k = 0
            · subst hk0
              go_wp2
              go_ret
              exact ⟨ret_bool HN.out.symm, hB⟩
            · have e3 : ((k : Int) == 0) = false := by simp; omega
              go_wp2
              go_ret
              exact ⟨ret_bool HN.out.symm, hB⟩
        · have hkn : k = s.size := by omega
          have HN := hide (name_end (by omega) (by omega) (hr.out.2 (by omega)) (hkn ▸ hr.out.1))
          go_wp2
          go_ret
          exact ⟨ret_bool HN.out.symm, hB⟩
set_option maxHeartbeats 2000000 in
theorem l01Name_calls (s : ByteArray) (w : World) (hs : s.size ≤ 9223372036854775807) : Calls Tryd.prog 91 #[.string s] w fun e w' => e = .returned (.bool (nameB s)) ∧ w = w' := by
  by_cases h1 : s.size < 1
  · have e0 : s.toList = [] := by
      rw [toList_bs]; exact List.eq_nil_of_length_eq_zero (by rw [bs_len]; omega)
    go_enter Tryd.func91, Tryd.ntmps91
    go_wp2
    go_ret
    exact ⟨ret_bool (name_len (.inl h1)).symm, rfl⟩
  · have e0 : s.toList.isEmpty = false := by
      rw [toList_bs, List.isEmpty_eq_false_iff]
      intro h
      have := bs_len s
      rw [h] at this
      simp at this
      omega
    by_cases h2 : (10 : Int) < s.size
    · go_enter Tryd.func91, Tryd.ntmps91
      go_wp2
      go_ret
      exact ⟨ret_bool (name_len (.inr (by omega))).symm, rfl⟩
    · have h3 : 0 < s.size := by omega
      obtain ⟨c, hsc, hx⟩ := bs_at s h3
      cases hl : lowerB c
      · have HN := hide (name_first hx.out hl)
        go_enter Tryd.func91, Tryd.ntmps91
        go_wp2_with fail
        refine (l01Small_calls c _).mono ?_
        rintro e w' ⟨rfl, rfl⟩
        go_wp2
        go_ret
        exact ⟨ret_bool HN.out.symm, rfl⟩
      · have HF : Hid (lowerB ((bs s).getD 0 0) = true) := by
          have := hx.out
          simp [Hid, List.getD, this, hl]
        go_enter Tryd.func91, Tryd.ntmps91
        go_wp2_with fail
        refine (l01Small_calls c _).mono ?_
        rintro e w' ⟨rfl, rfl⟩
        go_wp2_with fail
        clear hx hsc hl
        go_loop [3] (fun i => ∃ (k : Nat), k ≤ s.size ∧ i = .int .i64 k ∧ Hid (((bs s).take k).all (fun c => lowerB c || digitB c) = true)) (fun i => s.size - (intOf i).toNat)
        case atStart => exact ⟨0, Nat.zero_le _, rfl, by simp [Hid]⟩
        case round =>
          obtain ⟨k, hk, rfl, hr⟩ := hrel
          by_cases hlt : k < s.size
          · obtain ⟨d, hsd, hx⟩ := bs_at s hlt
            cases hl : lowerB d
            · cases hd : digitB d
              · have HN := hide (name_bad hx.out (by rw [hl, hd]; rfl))
                go_wp2_with fail
                refine (l01Small_calls d _).mono ?_
                rintro e w' ⟨rfl, rfl⟩
                go_wp2_with fail
                refine (l01Digit_calls d _).mono ?_
                rintro e w' ⟨rfl, rfl⟩
                go_wp2
                go_ret
                exact ⟨ret_bool HN.out.symm, rfl⟩
              · have HN := hide (allName_snoc hx.out hr.out (by rw [hl, hd]; rfl))
                go_wp2_with fail
                refine (l01Small_calls d _).mono ?_
                rintro e w' ⟨rfl, rfl⟩
                go_wp2_with fail
                refine (l01Digit_calls d _).mono ?_
                rintro e w' ⟨rfl, rfl⟩
                go_wp2
                go_round
                case rel => exact ⟨k + 1, by omega, by go_num, HN⟩
                case measure => simp [intOf]; omega
            · have HN := hide (allName_snoc hx.out hr.out (by rw [hl]; rfl))
              go_wp2_with fail
              refine (l01Small_calls d _).mono ?_
              rintro e w' ⟨rfl, rfl⟩
              go_wp2
              go_round
              case rel => exact ⟨k + 1, by omega, by go_num, HN⟩
              case measure => simp [intOf]; omega
          · have hkn : k = s.size := by omega
            have HN := hide (name_end (by omega) (by omega) HF.out (hkn ▸ hr.out))
            go_wp2
            go_ret
            exact ⟨ret_bool HN.out.symm, rfl⟩
end Go.Proofs.YtmpfkmbfbeejhaaDoor

namespace Go.Proofs.YtmpfkmbfbeejhaaDoor
open Go.RowKit
set_option linter.unusedVariables false

/-- A setting. -/
structure SetZ where
  name : ByteArray
  value : Int
instance : DecidableEq SetZ := fun a b => decidable_of_iff (a.name = b.name ∧ a.value = b.value) (by cases a; cases b; simp)
def cS (s : SetZ) : List Value := [.string s.name, .int .i64 s.value]
def SetZ.fine (s : SetZ) : Prop := s.name.size ≤ 9223372036854775807 ∧ I64 s.value
/-- A slice of settings that reads as ss. -/
def RdS (w : World) (A : Option Addr) (n : Nat) (ss : List SetZ) : Prop := Rd w A n 2 (ss.map cS).flatten ∧ ss.length = n ∧ ∀ s ∈ ss, s.fine

section
variable {w w' : World} {A : Option Addr} {n : Nat} {ss : List SetZ}
theorem cS_len {ss : List SetZ} : ∀ x ∈ ss.map cS, x.length = 2 := by
  intro x hx
  obtain ⟨s, _, rfl⟩ := List.mem_map.1 hx
  rfl
theorem RdS.below {B : Nat} (h : RdS w A n ss) (hb : Below B w w') (hB : w.heap.size ≤ B) : RdS w' A n ss := ⟨h.1.below hb hB, h.2⟩
theorem RdS.at {k : Nat} (h : RdS w A n ss) (hk : k < n) :
    ∃ b off s v, A = some ⟨b, off, none⟩ ∧ b < w.heap.size ∧ Hid (ss[k]? = some ⟨s, v⟩) ∧ w.cell? ⟨b, off + k * 2, none⟩ = some (.string s) ∧ w.cell? ⟨b, off + k * 2 + 1, none⟩ = some (.int .i64 v) ∧ s.size ≤ 9223372036854775807 ∧ -9223372036854775808 ≤ v ∧ v ≤ 9223372036854775807 := by
  obtain ⟨b, off, r, e, hb, hr, hc⟩ := h.1.row cS_len hk (by rw [List.length_map, h.2.1])
  have hkl : k < ss.length := by rw [h.2.1]; exact hk
  have hx := List.getElem?_eq_getElem hkl
  rw [List.getElem?_map, hx] at hr
  simp only [Option.map_some, Option.some.injEq] at hr
  subst hr
  have hf := h.2.2 _ (List.getElem_mem hkl)
  exact ⟨b, off, _, _, e, hb, hx, hc 0 _ rfl, hc 1 _ rfl, hf.1, hf.2.1, hf.2.2⟩
end

/-- Are two settings alike? -/
def eqSB (s : ByteArray) (v : Int) (s' : ByteArray) (v' : Int) : Bool := decide (s = s') && decide (v = v')
theorem Tryd.infoSetting : (Tryd.prog.info? 57).map (fun i => (i.zero, i.size, i.bytes)) = some (some (.agg #[.string ⟨#[]⟩, .int .i64 0]), 2, 24) := by kernel_rfl

theorem flat_take_snoc {ss : List SetZ} {k : Nat} {s : SetZ} (h : ss[k]? = some s) : ((ss.take (k + 1)).map cS).flatten = ((ss.take k).map cS).flatten ++ [.string s.name, .int .i64 s.value] := by
  rw [take_snoc h]; simp [cS]

theorem RdS.of_own {w : World} {A : Option Addr} {n c base : Nat} {e : TypeId} {ss : List SetZ} (h : w.ownsRow base e 2 (.slice A n c) n (ss.map cS).flatten) (hl : ss.length = n) (hx : ∀ s ∈ ss, s.fine) : RdS w A n ss := ⟨Rd.of_own h, hl, hx⟩

/-- Are two states alike? -/
def sameS (ss ts : List SetZ) : Bool := decide (ss = ts)
theorem eqSB_iff {s s' : ByteArray} {v v' : Int} : eqSB s v s' v' = true ↔ (⟨s, v⟩ : SetZ) = ⟨s', v'⟩ := by
  simp [eqSB]
theorem eqSB_not {s s' : ByteArray} {v v' : Int} : eqSB s v s' v' = false ↔ (⟨s, v⟩ : SetZ) ≠ ⟨s', v'⟩ := by
  rw [← Bool.not_eq_true, eqSB_iff]

set_option maxHeartbeats 1000000 in
theorem l27Same_calls (A A' : Option Addr) (n n' c c' : Nat) (ss ts : List SetZ) (w : World) (h : RdS w A n ss) (h' : RdS w A' n' ts) (hn : n ≤ 1048576) (hn' : n' ≤ 1048576) :
    Calls Tryd.prog 33 #[.slice A n c, .slice A' n' c'] w fun e w' => e = .returned (.bool (decide (ss = ts))) ∧ ∃ m, w' = w.drewN m := by
  have HL := hide h.2.1
  have HL' := hide h'.2.1
  by_cases hnn : n = n'
  · subst hnn
    go_enter Tryd.func33, Tryd.ntmps33
    go_wp2
    go_loopw [5] (fun i wr => ∃ (k : Nat), k ≤ n ∧ i = .int .i64 k ∧ Hid (ss.take k = ts.take k) ∧ ∃ m, wr = w.drewN m) (fun i _ => n - (intOf i).toNat)
    case atStart => exact ⟨0, Nat.zero_le _, rfl, by simp [Hid], 0, rfl⟩
    case round =>
      obtain ⟨k, hk, rfl, HC, m, rfl⟩ := hrel
      by_cases hlt : k < n
      · obtain ⟨b, off, s, v, rfl, hbl, hx, hc, hc2, hs1, hv1, hv2⟩ := h.at hlt
        obtain ⟨b', off', s', v', rfl, hbl', hy, hc', hc2', hs1', hv1', hv2'⟩ := h'.at hlt
        by_cases c1 : s = s'
        · by_cases c2 : v = v'
          · subst c1
            subst c2
            go_wp2
            go_quiet (fail)
            go_wp2
            go_roundw
            case rel =>
              refine ⟨k + 1, by omega, by go_num, ?_, (by first | exact ⟨_, rfl⟩ | exact drewN2 _ _ _)⟩
              unfold Hid
              rw [take_snoc hx.out, take_snoc hy.out, HC.out]
            case measure => simp [intOf]; omega
          · have e2 : (v == v') = false := by simpa using c2
            obtain ⟨e1, e1'⟩ := str_eq c1
            have C1 := hide c1
            clear c1
            go_wp2
            go_quiet (fail)
            go_wp2
            go_ret
            exact ⟨ret_bool (decide_eq_false (ne_of_at hx.out hy.out (by simp [c2]))).symm, (by first | exact ⟨_, rfl⟩ | exact drewN2 _ _ _)⟩
        · obtain ⟨e1, e1'⟩ := str_ne c1
          go_wp2
          go_quiet (fail)
          go_wp2
          go_ret
          exact ⟨ret_bool (decide_eq_false (ne_of_at hx.out hy.out (by simp [c1]))).symm, (by first | exact ⟨_, rfl⟩ | exact drewN2 _ _ _)⟩
      · have hkn : k = n := by omega
        subst hkn
        go_wp2
        go_ret
        exact ⟨ret_bool (decide_eq_true (eq_of_takes HL.out HL'.out HC.out)).symm, _, rfl⟩
  · have hne : ((n : Int) != n') = true := by simp; omega
    go_enter Tryd.func33, Tryd.ntmps33
    go_wp2
    go_ret
    exact ⟨ret_bool (decide_eq_false (ne_of_len HL.out HL'.out hnn)).symm, 0, rfl⟩

theorem specSameState_calls (A A' : Option Addr) (n n' c c' : Nat) (ss ts : List SetZ) (w : World) (h : RdS w A n ss) (h' : RdS w A' n' ts) (hn : n ≤ 1048576) (hn' : n' ≤ 1048576) :
    Calls Tryd.prog 10 #[.slice A n c, .slice A' n' c'] w fun e w' => e = .returned (.bool (decide (ss = ts))) ∧ ∃ m, w' = w.drewN m := by
  go_enter Tryd.func10, Tryd.ntmps10
  go_wp2_with (go_at_call 33; refine (l27Same_calls _ _ _ _ _ _ _ _ _ h h' hn hn').mono ?_; rintro e w1 ⟨rfl, m, rfl⟩)
  go_ret
  exact ⟨rfl, _, rfl⟩

end Go.Proofs.YtmpfkmbfbeejhaaDoor

namespace Go.Proofs.YtmpfkmbfbeejhaaDoor
open Go.RowKit
set_option linter.unusedVariables false


/-- Is a setting valid? -/
def setB (s : ByteArray) (v : Int) : Bool := nameB s && withinB v 0 1000

theorem l27Setting_calls (b off : Nat) (s : ByteArray) (v : Int) (w : World) (hc : w.cell? ⟨b, off, none⟩ = some (.string s)) (hc2 : w.cell? ⟨b, off + 1, none⟩ = some (.int .i64 v)) (hs : s.size ≤ 9223372036854775807) :
    Calls Tryd.prog 83 #[.pointer (some ⟨b, off, none⟩)] w fun e w' => e = .returned (.bool (setB s v)) ∧ w = w' := by
  have hfin : Hid (setB s v = (nameB s && withinB v 0 1000)) := rfl
  rcases b_cases (nameB s) with h1 | h1
  · go_enter Tryd.func83, Tryd.ntmps83
    go_wp2_with (go_at_call 91; refine (l01Name_calls _ _ hs).mono ?_; rintro e w' ⟨rfl, rfl⟩)
    go_ret
    exact ⟨ret_bool (by rw [hfin.out, h1]; rfl), rfl⟩
  · go_enter Tryd.func83, Tryd.ntmps83
    go_wp2_with (first
      | (go_at_call 91; refine (l01Name_calls _ _ hs).mono ?_; rintro e w' ⟨rfl, rfl⟩)
      | (go_at_call 68; refine (l00In_calls _ _ _ _).mono ?_; rintro e w' ⟨rfl, rfl⟩))
    go_ret
    exact ⟨ret_bool (by rw [hfin.out, h1]; rfl), rfl⟩

set_option maxHeartbeats 1000000 in
theorem validSetting_calls (s : ByteArray) (v : Int) (w : World) (hs : s.size ≤ 9223372036854775807) :
    Calls Tryd.prog 30 #[.agg #[.string s, .int .i64 v]] w fun e w' => e = .returned (.bool (setB s v)) ∧ Below w.heap.size w w' := by
  have hfin : Hid (setB s v = (nameB s && withinB v 0 1000)) := rfl
  rcases b_cases (nameB s) with h1 | h1
  · go_enter Tryd.func30, Tryd.ntmps30
    go_wp2_with (go_at_call 57; refine (isName_calls _ _ hs).mono ?_; rintro e w' ⟨rfl, hb⟩)
    go_ret
    exact ⟨ret_bool (by rw [hfin.out, h1]; rfl), ((Below.refl _ _).alloc (Nat.le_refl _) _).trans (hb.mono (by simp))⟩
  · go_enter Tryd.func30, Tryd.ntmps30
    go_wp2_with (first
      | (go_at_call 57; refine (isName_calls _ _ hs).mono ?_; rintro e w' ⟨rfl, hb⟩
         have hcell : w'.cell? ⟨w.heap.size, 1, none⟩ = some (.int .i64 v) := ((hb.cell (by simp)).trans (by simp [go_sem])))
      | (go_at_call 29; refine (within_calls _ _ _ _).mono ?_; rintro e w'' ⟨rfl, rfl⟩))
    go_ret
    exact ⟨ret_bool (by rw [hfin.out, h1]; rfl), ((Below.refl _ _).alloc (Nat.le_refl _) _).trans (hb.mono (by simp))⟩

theorem validSetting_q (s : ByteArray) (v : Int) (q : Bool) (w : World) (hq : setB s v = q) (hs : s.size ≤ 9223372036854775807) :
    Calls Tryd.prog 30 #[.agg #[.string s, .int .i64 v]] w fun e w' => e = .returned (.bool q) ∧ Below w.heap.size w w' := hq ▸ validSetting_calls s v w hs

/-- Is the setting at k valid, and does it stand behind the one before? -/
def stepB (ss : List SetZ) (k : Nat) : Bool :=
  match ss[k]? with
  | none => true
  | some s => setB s.name s.value && (k == 0 || match ss[k - 1]? with | none => true | some p => strLess p.name s.name)
/-- Is a state valid? -/
def stateB (ss : List SetZ) : Bool := (List.range ss.length).all (stepB ss) && decide (ss.length ≤ 24)

theorem state_len {ss : List SetZ} (h : stateB ss = true) : ss.length ≤ 24 := by
  unfold stateB at h
  rw [Bool.and_eq_true] at h
  simpa using h.2
theorem step_set {ss : List SetZ} {k : Nat} {s : SetZ} (h : ss[k]? = some s) (hb : setB s.name s.value = false) : stepB ss k = false := by
  unfold stepB
  rw [h]
  simp [hb]
theorem step_first {ss : List SetZ} {s : SetZ} (h : ss[0]? = some s) : stepB ss 0 = setB s.name s.value := by
  unfold stepB
  rw [h]
  simp
theorem step_next {ss : List SetZ} {k : Nat} {s p : SetZ} (h : ss[k]? = some s) (hp : ss[k - 1]? = some p) (hk : 0 < k) (hb : setB s.name s.value = true) : stepB ss k = strLess p.name s.name := by
  unfold stepB
  rw [h, hp]
  have : (k == 0) = false := by simp; omega
  simp [hb, this]
theorem state_bad {ss : List SetZ} {n k : Nat} (hl : ss.length = n) (hk : k < n) (h : stepB ss k = false) : stateB ss = false := by
  unfold stateB
  have : (List.range ss.length).all (stepB ss) = false := by
    rw [List.all_eq_false]
    exact ⟨k, by simp; omega, by simp [h]⟩
  rw [this]; rfl
theorem state_end {ss : List SetZ} {n : Nat} (hl : ss.length = n) (h : ∀ j, j < n → stepB ss j = true) : stateB ss = decide ((n : Int) ≤ 24) := by
  unfold stateB
  have : (List.range ss.length).all (stepB ss) = true := by
    rw [List.all_eq_true]
    intro j hj
    exact h j (by simpa [hl] using hj)
  rw [this, hl]
  simp only [Bool.true_and, decide_eq_decide]
  omega
theorem steps_snoc {ss : List SetZ} {k : Nat} (h : ∀ j, j < k → stepB ss j = true) (hk : stepB ss k = true) : ∀ j, j < k + 1 → stepB ss j = true := by
  intro j hj
  rcases Nat.lt_or_ge j k with h1 | h1
  · exact h j h1
  · rw [show j = k by omega]
    exact hk

set_option maxHeartbeats 1000000 in
theorem l27State_calls (A : Option Addr) (n c : Nat) (ss : List SetZ) (w : World) (h : RdS w A n ss) (hn : n ≤ 1048576) :
    Calls Tryd.prog 70 #[.slice A n c] w fun e w' => e = .returned (.bool (stateB ss)) ∧ ∃ m, w' = w.drewN m := by
  have HL := hide h.2.1
  go_enter Tryd.func70, Tryd.ntmps70
  go_wp2
  go_loopw [3] (fun i wr => ∃ (k : Nat), k ≤ n ∧ i = .int .i64 k ∧ Hid (∀ j, j < k → stepB ss j = true) ∧ ∃ m, wr = w.drewN m) (fun i _ => n - (intOf i).toNat)
  case atStart => exact ⟨0, Nat.zero_le _, rfl, fun j hj => absurd hj (by omega), 0, rfl⟩
  case round =>
    obtain ⟨k, hk, rfl, HC, m, rfl⟩ := hrel
    by_cases hlt : k < n
    · obtain ⟨b, off, s, v, rfl, hbl, hx, hc, hc2, hs1, hv1, hv2⟩ := h.at hlt
      rcases b_cases (setB s v) with hB | hB
      · have HN := hide (state_bad HL.out hlt (step_set hx.out hB))
        go_wp2
        go_quiet (first | exact quiet_eq (l27Setting_calls _ _ _ _ _ hc hc2 hs1) | exact quiet_eq2 (l27Setting_calls _ _ _ _ _ hc hc2 hs1))
        go_wp2
        go_ret
        exact ⟨ret_bool HN.out.symm, (by first | exact ⟨_, rfl⟩ | exact drewN2 _ _ _)⟩
      · by_cases hk0 : k = 0
        · have HN := hide ((step_first (hk0 ▸ hx.out)).trans hB)
          subst hk0
          go_wp2
          go_quiet (first | exact quiet_eq (l27Setting_calls _ _ _ _ _ hc hc2 hs1) | exact quiet_eq2 (l27Setting_calls _ _ _ _ _ hc hc2 hs1))
          go_wp2
          go_roundw
          case rel => exact ⟨1, by omega, by go_num, steps_snoc HC.out HN.out, (by first | exact ⟨_, rfl⟩ | exact drewN2 _ _ _)⟩
          case measure => (simp [intOf]; try omega)
        · obtain ⟨k', rfl⟩ : ∃ k', k = k' + 1 := ⟨k - 1, by omega⟩
          obtain ⟨_, _, p, vp, hA, _, hy, hp, _, hps, _, _⟩ := h.at (k := k') (by omega)
          obtain ⟨rfl, rfl⟩ : b = _ ∧ off = _ := by injection hA with hA; injection hA; exact ⟨‹_›, ‹_›⟩
          clear hA
          have hst := step_next hx.out (p := ⟨p, vp⟩) (by simpa using hy.out) (by omega) hB
          have hd : decide ((0 : Int) < ((k' + 1 : Nat) : Int)) = true := decide_eq_true (by omega)
          rcases str_ways p s with ⟨q1, q2, q3, q4, q5, q6, q7⟩ | ⟨q1, q2, q3, q4, q5, q6, q7⟩ | ⟨q1, q2, q3, q4, q5, q6, q7⟩
          · have HN := hide (steps_snoc HC.out (hst.trans q5))
            clear q2 q3 q4 q5 q6 q7 hst
            go_wp2
            go_quiet (first | exact quiet_eq (l27Setting_calls _ _ _ _ _ hc hc2 hs1) | exact quiet_eq2 (l27Setting_calls _ _ _ _ _ hc hc2 hs1))
            go_wp2
            go_roundw
            case rel => exact ⟨k' + 1 + 1, by omega, by go_num, HN, (by first | exact ⟨_, rfl⟩ | exact drewN2 _ _ _)⟩
            case measure => (simp [intOf]; try omega)
          all_goals
            have HN := hide (state_bad HL.out hlt (hst.trans q5))
            clear q2 q3 q4 q5 q6 q7 hst
            go_wp2
            go_quiet (first | exact quiet_eq (l27Setting_calls _ _ _ _ _ hc hc2 hs1) | exact quiet_eq2 (l27Setting_calls _ _ _ _ _ hc hc2 hs1))
            go_wp2
            go_ret
            exact ⟨ret_bool HN.out.symm, (by first | exact ⟨_, rfl⟩ | exact drewN2 _ _ _)⟩
    · have hkn : k = n := by omega
      have HN := hide (state_end HL.out (hkn ▸ HC.out))
      clear HC
      go_wp2
      go_ret
      exact ⟨ret_bool HN.out.symm, _, rfl⟩

set_option maxHeartbeats 2000000 in
theorem implValidState_calls (A : Option Addr) (n c : Nat) (ss : List SetZ) (w : World) (h : RdS w A n ss) (hn : n ≤ 1048576) :
    Calls Tryd.prog 26 #[.slice A n c] w fun e w' => e = .returned (.bool (stateB ss)) ∧ Below w.heap.size w w' := by
  have HL := hide h.2.1
  go_enter Tryd.func26, Tryd.ntmps26
  go_wp2
  go_loopw [7] (fun i wr => ∃ (k : Nat), k ≤ n ∧ i = .int .i64 k ∧ Hid (∀ j, j < k → stepB ss j = true) ∧ Below w.heap.size w wr) (fun i _ => n - (intOf i).toNat)
  case atStart => exact ⟨0, Nat.zero_le _, rfl, fun j hj => absurd hj (by omega), Below.refl _ _⟩
  case round =>
    obtain ⟨k, hk, rfl, HC, hb⟩ := hrel
    by_cases hlt : k < n
    · obtain ⟨b, off, s, v, rfl, hbl, hx, hc, hc2, hs1, hv1, hv2⟩ := (h.below hb (Nat.le_refl _)).at hlt
      rcases b_cases (setB s v) with hB | hB
      · have HN := hide (state_bad HL.out hlt (step_set hx.out hB))
        go_wp2
        obtain ⟨w1, hw1⟩ : ∃ w1, w1 = wr.alloc (.cells #[.string s, .int .i64 v] 57) := ⟨_, rfl⟩
        rw [← hw1]
        have hbw : Below wr.heap.size wr w1 := hw1 ▸ (Below.refl _ _).alloc (Nat.le_refl _) _
        have c0 : w1.cell? ⟨wr.heap.size, 0, none⟩ = some (.string s) := by rw [hw1]; simp [go_sem]
        have c1 : w1.cell? ⟨wr.heap.size, 1, none⟩ = some (.int .i64 v) := by rw [hw1]; simp [go_sem]
        have hz : wr.heap.size < w1.heap.size := by rw [hw1]; simp
        clear hw1
        refine wp_region_held_drew (S := fun w' => w'.cell? ⟨wr.heap.size, 0, none⟩ = some (.string s) ∧ w'.cell? ⟨wr.heap.size, 1, none⟩ = some (.int .i64 v)) (by kernel_rfl) ⟨c0, c1⟩ (fun hHeld => ?_)
        refine takeH 0 12 (.agg #[.string s, .int .i64 v]) ⟨_, rfl, rfl, rfl, ?_⟩ (by kernel_rfl) (by kernel_rfl) (by kernel_rfl) (fun _ _ _ h => h) hHeld ?_
        · intro w hSw; (try dsimp only at hSw); go_simp
        try simp only [Act.put, List.setIfInBounds_toArray, List.set_cons_zero, List.set_cons_succ]
        refine wpAnyH_ready (rs := [1]) (by kernel_rfl) (by simp) ?_
        refine AllReadyH.cons rfl (fun K hK => ?_) AllReadyH.nil
        go_simp
        go_at_call 30; refine (validSetting_q _ _ _ _ hB hs1).mono ?_; rintro e w3 ⟨rfl, hb3⟩
        try go_wp2_with fail
        refine hK.out _ _ ⟨(hb3.cell (p := ⟨wr.heap.size, 0, none⟩) hz).trans c0, (hb3.cell (p := ⟨wr.heap.size, 1, none⟩) hz).trans c1⟩ (fun hHeld => ?_)
        clear hK K
        try simp only [Act.put, List.setIfInBounds_toArray, List.set_cons_zero, List.set_cons_succ]
        refine takeH 2 14 (.bool true) ⟨_, rfl, rfl, rfl, ?_⟩ (by kernel_rfl) (by kernel_rfl) (by kernel_rfl) (fun _ _ _ h => h) hHeld ?_
        · intro w hSw; (try dsimp only at hSw); go_simp
        try simp only [Act.put, List.setIfInBounds_toArray, List.set_cons_zero, List.set_cons_succ]
        refine takeH 3 15 (.bool true) ⟨_, rfl, rfl, rfl, ?_⟩ (by kernel_rfl) (by kernel_rfl) (by kernel_rfl) (fun _ _ _ h => h) hHeld ?_
        · intro w hSw; (try dsimp only at hSw); go_simp
        try simp only [Act.put, List.setIfInBounds_toArray, List.set_cons_zero, List.set_cons_succ]
        refine skipH 4 16 ⟨_, rfl, rfl, rfl⟩ (by kernel_rfl) (by kernel_rfl) (by kernel_rfl) (fun _ _ _ h => h) hHeld ?_
        try simp only [Act.put, List.setIfInBounds_toArray, List.set_cons_zero, List.set_cons_succ]
        refine skipH 5 17 ⟨_, rfl, rfl, rfl⟩ (by kernel_rfl) (by kernel_rfl) (by kernel_rfl) (fun _ _ _ h => h) hHeld ?_
        try simp only [Act.put, List.setIfInBounds_toArray, List.set_cons_zero, List.set_cons_succ]
        refine skipH 6 18 ⟨_, rfl, rfl, rfl⟩ (by kernel_rfl) (by kernel_rfl) (by kernel_rfl) (fun _ _ _ h => h) hHeld ?_
        try simp only [Act.put, List.setIfInBounds_toArray, List.set_cons_zero, List.set_cons_succ]
        refine skipH 7 19 ⟨_, rfl, rfl, rfl⟩ (by kernel_rfl) (by kernel_rfl) (by kernel_rfl) (fun _ _ _ h => h) hHeld ?_
        try simp only [Act.put, List.setIfInBounds_toArray, List.set_cons_zero, List.set_cons_succ]
        refine skipH 8 20 ⟨_, rfl, rfl, rfl⟩ (by kernel_rfl) (by kernel_rfl) (by kernel_rfl) (fun _ _ _ h => h) hHeld ?_
        try simp only [Act.put, List.setIfInBounds_toArray, List.set_cons_zero, List.set_cons_succ]
        refine skipH 9 21 ⟨_, rfl, rfl, rfl⟩ (by kernel_rfl) (by kernel_rfl) (by kernel_rfl) (fun _ _ _ h => h) hHeld ?_
        try simp only [Act.put, List.setIfInBounds_toArray, List.set_cons_zero, List.set_cons_succ]
        refine skipH 10 22 ⟨_, rfl, rfl, rfl⟩ (by kernel_rfl) (by kernel_rfl) (by kernel_rfl) (fun _ _ _ h => h) hHeld ?_
        try simp only [Act.put, List.setIfInBounds_toArray, List.set_cons_zero, List.set_cons_succ]
        refine skipH 11 23 ⟨_, rfl, rfl, rfl⟩ (by kernel_rfl) (by kernel_rfl) (by kernel_rfl) (fun _ _ _ h => h) hHeld ?_
        try simp only [Act.put, List.setIfInBounds_toArray, List.set_cons_zero, List.set_cons_succ]
        refine skipH 12 24 ⟨_, rfl, rfl, rfl⟩ (by kernel_rfl) (by kernel_rfl) (by kernel_rfl) (fun _ _ _ h => h) hHeld ?_
        try simp only [Act.put, List.setIfInBounds_toArray, List.set_cons_zero, List.set_cons_succ]
        refine skipH 13 25 ⟨_, rfl, rfl, rfl⟩ (by kernel_rfl) (by kernel_rfl) (by kernel_rfl) (fun _ _ _ h => h) hHeld ?_
        try simp only [Act.put, List.setIfInBounds_toArray, List.set_cons_zero, List.set_cons_succ]
        refine skipH 14 26 ⟨_, rfl, rfl, rfl⟩ (by kernel_rfl) (by kernel_rfl) (by kernel_rfl) (fun _ _ _ h => h) hHeld ?_
        try simp only [Act.put, List.setIfInBounds_toArray, List.set_cons_zero, List.set_cons_succ]
        refine skipH 15 27 ⟨_, rfl, rfl, rfl⟩ (by kernel_rfl) (by kernel_rfl) (by kernel_rfl) (fun _ _ _ h => h) hHeld ?_
        try simp only [Act.put, List.setIfInBounds_toArray, List.set_cons_zero, List.set_cons_succ]
        refine skipH 16 28 ⟨_, rfl, rfl, rfl⟩ (by kernel_rfl) (by kernel_rfl) (by kernel_rfl) (fun _ _ _ h => h) hHeld ?_
        try simp only [Act.put, List.setIfInBounds_toArray, List.set_cons_zero, List.set_cons_succ]
        refine takeH 17 29 (.bool true) ⟨_, rfl, rfl, rfl, ?_⟩ (by kernel_rfl) (by kernel_rfl) (by kernel_rfl) (fun _ _ _ h => h) hHeld ?_
        · intro w hSw; (try dsimp only at hSw); go_simp
        try simp only [Act.put, List.setIfInBounds_toArray, List.set_cons_zero, List.set_cons_succ]
        refine wpAnyH_done (by kernel_rfl) ?_ _
        have hbx : Below w.heap.size w w3 := (hb.trans (hbw.mono hb.size)).drew.trans (hb3.mono (Nat.le_trans hb.size hbw.size))
        go_wp2
        go_ret
        exact ⟨ret_bool HN.out.symm, hbx⟩
      · by_cases hk0 : k = 0
        · have HN := hide ((step_first (hk0 ▸ hx.out)).trans hB)
          subst hk0
          have hc' : wr.cell? ⟨b, off, none⟩ = some (.string s) := by simpa using hc
          have hc2' : wr.cell? ⟨b, off + 1, none⟩ = some (.int .i64 v) := by simpa using hc2
          go_wp2
          obtain ⟨w1, hw1⟩ : ∃ w1, w1 = wr.alloc (.cells #[.string s, .int .i64 v] 57) := ⟨_, rfl⟩
          rw [← hw1]
          have hbw : Below wr.heap.size wr w1 := hw1 ▸ (Below.refl _ _).alloc (Nat.le_refl _) _
          have c0 : w1.cell? ⟨wr.heap.size, 0, none⟩ = some (.string s) := by rw [hw1]; simp [go_sem]
          have c1 : w1.cell? ⟨wr.heap.size, 1, none⟩ = some (.int .i64 v) := by rw [hw1]; simp [go_sem]
          have hz : wr.heap.size < w1.heap.size := by rw [hw1]; simp
          clear hw1
          refine wp_region_held_drew (S := fun w' => w'.cell? ⟨wr.heap.size, 0, none⟩ = some (.string s) ∧ w'.cell? ⟨wr.heap.size, 1, none⟩ = some (.int .i64 v)) (by kernel_rfl) ⟨c0, c1⟩ (fun hHeld => ?_)
          refine takeH 0 12 (.agg #[.string s, .int .i64 v]) ⟨_, rfl, rfl, rfl, ?_⟩ (by kernel_rfl) (by kernel_rfl) (by kernel_rfl) (fun _ _ _ h => h) hHeld ?_
          · intro w hSw; (try dsimp only at hSw); go_simp
          try simp only [Act.put, List.setIfInBounds_toArray, List.set_cons_zero, List.set_cons_succ]
          refine wpAnyH_ready (rs := [1]) (by kernel_rfl) (by simp) ?_
          refine AllReadyH.cons rfl (fun K hK => ?_) AllReadyH.nil
          go_simp
          go_at_call 30; refine (validSetting_q _ _ _ _ hB hs1).mono ?_; rintro e w3 ⟨rfl, hb3⟩
          try go_wp2_with fail
          refine hK.out _ _ ⟨(hb3.cell (p := ⟨wr.heap.size, 0, none⟩) hz).trans c0, (hb3.cell (p := ⟨wr.heap.size, 1, none⟩) hz).trans c1⟩ (fun hHeld => ?_)
          clear hK K
          try simp only [Act.put, List.setIfInBounds_toArray, List.set_cons_zero, List.set_cons_succ]
          refine takeH 2 14 (.bool false) ⟨_, rfl, rfl, rfl, ?_⟩ (by kernel_rfl) (by kernel_rfl) (by kernel_rfl) (fun _ _ _ h => h) hHeld ?_
          · intro w hSw; (try dsimp only at hSw); go_simp
          try simp only [Act.put, List.setIfInBounds_toArray, List.set_cons_zero, List.set_cons_succ]
          refine takeH 3 15 (.bool false) ⟨_, rfl, rfl, rfl, ?_⟩ (by kernel_rfl) (by kernel_rfl) (by kernel_rfl) (fun _ _ _ h => h) hHeld ?_
          · intro w hSw; (try dsimp only at hSw); go_simp
          try simp only [Act.put, List.setIfInBounds_toArray, List.set_cons_zero, List.set_cons_succ]
          refine takeH 4 16 (.int .i64 ((0 : Nat) : Int)) ⟨_, rfl, rfl, rfl, ?_⟩ (by kernel_rfl) (by kernel_rfl) (by kernel_rfl) (fun _ _ _ h => h) hHeld ?_
          · intro w hSw; (try dsimp only at hSw); go_simp
          try simp only [Act.put, List.setIfInBounds_toArray, List.set_cons_zero, List.set_cons_succ]
          refine takeH 5 17 (.bool false) ⟨_, rfl, rfl, rfl, ?_⟩ (by kernel_rfl) (by kernel_rfl) (by kernel_rfl) (fun _ _ _ h => h) hHeld ?_
          · intro w hSw; (try dsimp only at hSw); go_simp
          try simp only [Act.put, List.setIfInBounds_toArray, List.set_cons_zero, List.set_cons_succ]
          refine takeH 6 18 (.bool false) ⟨_, rfl, rfl, rfl, ?_⟩ (by kernel_rfl) (by kernel_rfl) (by kernel_rfl) (fun _ _ _ h => h) hHeld ?_
          · intro w hSw; (try dsimp only at hSw); go_simp
          try simp only [Act.put, List.setIfInBounds_toArray, List.set_cons_zero, List.set_cons_succ]
          refine skipH 7 19 ⟨_, rfl, rfl, rfl⟩ (by kernel_rfl) (by kernel_rfl) (by kernel_rfl) (fun _ _ _ h => h) hHeld ?_
          try simp only [Act.put, List.setIfInBounds_toArray, List.set_cons_zero, List.set_cons_succ]
          refine skipH 8 20 ⟨_, rfl, rfl, rfl⟩ (by kernel_rfl) (by kernel_rfl) (by kernel_rfl) (fun _ _ _ h => h) hHeld ?_
          try simp only [Act.put, List.setIfInBounds_toArray, List.set_cons_zero, List.set_cons_succ]
          refine skipH 9 21 ⟨_, rfl, rfl, rfl⟩ (by kernel_rfl) (by kernel_rfl) (by kernel_rfl) (fun _ _ _ h => h) hHeld ?_
          try simp only [Act.put, List.setIfInBounds_toArray, List.set_cons_zero, List.set_cons_succ]
          refine skipH 10 22 ⟨_, rfl, rfl, rfl⟩ (by kernel_rfl) (by kernel_rfl) (by kernel_rfl) (fun _ _ _ h => h) hHeld ?_
          try simp only [Act.put, List.setIfInBounds_toArray, List.set_cons_zero, List.set_cons_succ]
          refine skipH 11 23 ⟨_, rfl, rfl, rfl⟩ (by kernel_rfl) (by kernel_rfl) (by kernel_rfl) (fun _ _ _ h => h) hHeld ?_
          try simp only [Act.put, List.setIfInBounds_toArray, List.set_cons_zero, List.set_cons_succ]
          refine skipH 12 24 ⟨_, rfl, rfl, rfl⟩ (by kernel_rfl) (by kernel_rfl) (by kernel_rfl) (fun _ _ _ h => h) hHeld ?_
          try simp only [Act.put, List.setIfInBounds_toArray, List.set_cons_zero, List.set_cons_succ]
          refine skipH 13 25 ⟨_, rfl, rfl, rfl⟩ (by kernel_rfl) (by kernel_rfl) (by kernel_rfl) (fun _ _ _ h => h) hHeld ?_
          try simp only [Act.put, List.setIfInBounds_toArray, List.set_cons_zero, List.set_cons_succ]
          refine skipH 14 26 ⟨_, rfl, rfl, rfl⟩ (by kernel_rfl) (by kernel_rfl) (by kernel_rfl) (fun _ _ _ h => h) hHeld ?_
          try simp only [Act.put, List.setIfInBounds_toArray, List.set_cons_zero, List.set_cons_succ]
          refine skipH 15 27 ⟨_, rfl, rfl, rfl⟩ (by kernel_rfl) (by kernel_rfl) (by kernel_rfl) (fun _ _ _ h => h) hHeld ?_
          try simp only [Act.put, List.setIfInBounds_toArray, List.set_cons_zero, List.set_cons_succ]
          refine takeH 16 28 (.bool false) ⟨_, rfl, rfl, rfl, ?_⟩ (by kernel_rfl) (by kernel_rfl) (by kernel_rfl) (fun _ _ _ h => h) hHeld ?_
          · intro w hSw; (try dsimp only at hSw); go_simp
          try simp only [Act.put, List.setIfInBounds_toArray, List.set_cons_zero, List.set_cons_succ]
          refine takeH 17 29 (.bool false) ⟨_, rfl, rfl, rfl, ?_⟩ (by kernel_rfl) (by kernel_rfl) (by kernel_rfl) (fun _ _ _ h => h) hHeld ?_
          · intro w hSw; (try dsimp only at hSw); go_simp
          try simp only [Act.put, List.setIfInBounds_toArray, List.set_cons_zero, List.set_cons_succ]
          refine wpAnyH_done (by kernel_rfl) ?_ _
          have hbx : Below w.heap.size w w3 := (hb.trans (hbw.mono hb.size)).drew.trans (hb3.mono (Nat.le_trans hb.size hbw.size))
          go_wp2
          go_roundw
          case rel => exact ⟨1, by omega, by go_num, steps_snoc HC.out HN.out, hbx⟩
          case measure => (simp [intOf]; try omega)
        · obtain ⟨k', rfl⟩ : ∃ k', k = k' + 1 := ⟨k - 1, by omega⟩
          obtain ⟨_, _, p, vp, hA, _, hy, hp, _, hps, _, _⟩ := (h.below hb (Nat.le_refl _)).at (k := k') (by omega)
          obtain ⟨rfl, rfl⟩ : b = _ ∧ off = _ := by injection hA with hA; injection hA; exact ⟨‹_›, ‹_›⟩
          clear hA
          have hst := step_next hx.out (p := ⟨p, vp⟩) (by simpa using hy.out) (by omega) hB
          have hd : decide ((0 : Int) < ((k' + 1 : Nat) : Int)) = true := decide_eq_true (by omega)
          have hi1 : ((k' + 1 : Nat) : Int) - 1 = (k' : Int) := by omega
          have hi2 : (0 : Int) ≤ (k' : Int) := by omega
          have hi3 : (k' : Int) < (n : Int) := by omega
          have hi4 : IntKind.i64.wrap (k' : Int) = (k' : Int) := IntWalk.i64_in _ (by omega)
          rcases str_ways p s with ⟨q1, q2, q3, q4, q5, q6, q7⟩ | ⟨q1, q2, q3, q4, q5, q6, q7⟩ | ⟨q1, q2, q3, q4, q5, q6, q7⟩
          · have HN := hide (steps_snoc HC.out (hst.trans q5))
            clear q1 q3 q5 q6 q7 hst
            go_wp2
            obtain ⟨w1, hw1⟩ : ∃ w1, w1 = wr.alloc (.cells #[.string s, .int .i64 v] 57) := ⟨_, rfl⟩
            rw [← hw1]
            have hbw : Below wr.heap.size wr w1 := hw1 ▸ (Below.refl _ _).alloc (Nat.le_refl _) _
            have c0 : w1.cell? ⟨wr.heap.size, 0, none⟩ = some (.string s) := by rw [hw1]; simp [go_sem]
            have c1 : w1.cell? ⟨wr.heap.size, 1, none⟩ = some (.int .i64 v) := by rw [hw1]; simp [go_sem]
            have hz : wr.heap.size < w1.heap.size := by rw [hw1]; simp
            clear hw1
            have cp : w1.cell? ⟨b, off + k' * 2, none⟩ = some (.string p) := (hbw.cell (p := ⟨b, off + k' * 2, none⟩) hbl).trans hp
            have hbz : b < w1.heap.size := by omega
            refine wp_region_held_drew (S := fun w' => w'.cell? ⟨wr.heap.size, 0, none⟩ = some (.string s) ∧ w'.cell? ⟨wr.heap.size, 1, none⟩ = some (.int .i64 v) ∧ w'.cell? ⟨b, off + k' * 2, none⟩ = some (.string p)) (by kernel_rfl) ⟨c0, c1, cp⟩ (fun hHeld => ?_)
            refine takeH 0 12 (.agg #[.string s, .int .i64 v]) ⟨_, rfl, rfl, rfl, ?_⟩ (by kernel_rfl) (by kernel_rfl) (by kernel_rfl) (fun _ _ _ h => h) hHeld ?_
            · intro w hSw; (try dsimp only at hSw); go_simp
            try simp only [Act.put, List.setIfInBounds_toArray, List.set_cons_zero, List.set_cons_succ]
            refine wpAnyH_ready (rs := [1]) (by kernel_rfl) (by simp) ?_
            refine AllReadyH.cons rfl (fun K hK => ?_) AllReadyH.nil
            go_simp
            go_at_call 30; refine (validSetting_q _ _ _ _ hB hs1).mono ?_; rintro e w3 ⟨rfl, hb3⟩
            try go_wp2_with fail
            refine hK.out _ _ ⟨(hb3.cell (p := ⟨wr.heap.size, 0, none⟩) hz).trans c0, (hb3.cell (p := ⟨wr.heap.size, 1, none⟩) hz).trans c1, (hb3.cell (p := ⟨b, off + k' * 2, none⟩) hbz).trans cp⟩ (fun hHeld => ?_)
            clear hK K
            try simp only [Act.put, List.setIfInBounds_toArray, List.set_cons_zero, List.set_cons_succ]
            refine takeH 2 14 (.bool false) ⟨_, rfl, rfl, rfl, ?_⟩ (by kernel_rfl) (by kernel_rfl) (by kernel_rfl) (fun _ _ _ h => h) hHeld ?_
            · intro w hSw; (try dsimp only at hSw); go_simp
            try simp only [Act.put, List.setIfInBounds_toArray, List.set_cons_zero, List.set_cons_succ]
            refine takeH 3 15 (.bool false) ⟨_, rfl, rfl, rfl, ?_⟩ (by kernel_rfl) (by kernel_rfl) (by kernel_rfl) (fun _ _ _ h => h) hHeld ?_
            · intro w hSw; (try dsimp only at hSw); go_simp
            try simp only [Act.put, List.setIfInBounds_toArray, List.set_cons_zero, List.set_cons_succ]
            refine takeH 4 16 (.int .i64 ((k' + 1 : Nat) : Int)) ⟨_, rfl, rfl, rfl, ?_⟩ (by kernel_rfl) (by kernel_rfl) (by kernel_rfl) (fun _ _ _ h => h) hHeld ?_
            · intro w hSw; (try dsimp only at hSw); go_simp
            try simp only [Act.put, List.setIfInBounds_toArray, List.set_cons_zero, List.set_cons_succ]
            refine takeH 5 17 (.bool true) ⟨_, rfl, rfl, rfl, ?_⟩ (by kernel_rfl) (by kernel_rfl) (by kernel_rfl) (fun _ _ _ h => h) hHeld ?_
            · intro w hSw; (try dsimp only at hSw); go_simp
            try simp only [Act.put, List.setIfInBounds_toArray, List.set_cons_zero, List.set_cons_succ]
            refine takeH 6 18 (.bool true) ⟨_, rfl, rfl, rfl, ?_⟩ (by kernel_rfl) (by kernel_rfl) (by kernel_rfl) (fun _ _ _ h => h) hHeld ?_
            · intro w hSw; (try dsimp only at hSw); go_simp
            try simp only [Act.put, List.setIfInBounds_toArray, List.set_cons_zero, List.set_cons_succ]
            refine takeH 7 19 (.pointer (some ⟨wr.heap.size, 0, none⟩)) ⟨_, rfl, rfl, rfl, ?_⟩ (by kernel_rfl) (by kernel_rfl) (by kernel_rfl) (fun _ _ _ h => h) hHeld ?_
            · intro w hSw; (try dsimp only at hSw); go_simp
            try simp only [Act.put, List.setIfInBounds_toArray, List.set_cons_zero, List.set_cons_succ]
            refine takeH 8 20 (.string s) ⟨_, rfl, rfl, rfl, ?_⟩ (by kernel_rfl) (by kernel_rfl) (by kernel_rfl) (fun _ _ _ h => h) hHeld ?_
            · intro w hSw; (try dsimp only at hSw); go_simp
            try simp only [Act.put, List.setIfInBounds_toArray, List.set_cons_zero, List.set_cons_succ]
            refine takeH 9 21 (.slice (some ⟨b, off, none⟩) n c) ⟨_, rfl, rfl, rfl, ?_⟩ (by kernel_rfl) (by kernel_rfl) (by kernel_rfl) (fun _ _ _ h => h) hHeld ?_
            · intro w hSw; (try dsimp only at hSw); go_simp
            try simp only [Act.put, List.setIfInBounds_toArray, List.set_cons_zero, List.set_cons_succ]
            refine takeH 10 22 (.int .i64 ((k' + 1 : Nat) : Int)) ⟨_, rfl, rfl, rfl, ?_⟩ (by kernel_rfl) (by kernel_rfl) (by kernel_rfl) (fun _ _ _ h => h) hHeld ?_
            · intro w hSw; (try dsimp only at hSw); go_simp
            try simp only [Act.put, List.setIfInBounds_toArray, List.set_cons_zero, List.set_cons_succ]
            refine takeH 11 23 (.int .i64 (k' : Int)) ⟨_, rfl, rfl, rfl, ?_⟩ (by kernel_rfl) (by kernel_rfl) (by kernel_rfl) (fun _ _ _ h => h) hHeld ?_
            · intro w hSw; (try dsimp only at hSw); go_simp
            try simp only [Act.put, List.setIfInBounds_toArray, List.set_cons_zero, List.set_cons_succ]
            refine takeH 12 24 (.pointer (some ⟨b, off + k' * 2, none⟩)) ⟨_, rfl, rfl, rfl, ?_⟩ (by kernel_rfl) (by kernel_rfl) (by kernel_rfl) (fun _ _ _ h => h) hHeld ?_
            · intro w hSw; (try dsimp only at hSw); go_simp
            try simp only [Act.put, List.setIfInBounds_toArray, List.set_cons_zero, List.set_cons_succ]
            refine takeH 13 25 (.pointer (some ⟨b, off + k' * 2, none⟩)) ⟨_, rfl, rfl, rfl, ?_⟩ (by kernel_rfl) (by kernel_rfl) (by kernel_rfl) (fun _ _ _ h => h) hHeld ?_
            · intro w hSw; (try dsimp only at hSw); go_simp
            try simp only [Act.put, List.setIfInBounds_toArray, List.set_cons_zero, List.set_cons_succ]
            refine takeH 14 26 (.string p) ⟨_, rfl, rfl, rfl, ?_⟩ (by kernel_rfl) (by kernel_rfl) (by kernel_rfl) (fun _ _ _ h => h) hHeld ?_
            · intro w hSw; (try dsimp only at hSw); go_simp
            try simp only [Act.put, List.setIfInBounds_toArray, List.set_cons_zero, List.set_cons_succ]
            refine takeH 15 27 (.bool false) ⟨_, rfl, rfl, rfl, ?_⟩ (by kernel_rfl) (by kernel_rfl) (by kernel_rfl) (fun _ _ _ h => h) hHeld ?_
            · intro w hSw; (try dsimp only at hSw); go_simp
            try simp only [Act.put, List.setIfInBounds_toArray, List.set_cons_zero, List.set_cons_succ]
            refine takeH 16 28 (.bool false) ⟨_, rfl, rfl, rfl, ?_⟩ (by kernel_rfl) (by kernel_rfl) (by kernel_rfl) (fun _ _ _ h => h) hHeld ?_
            · intro w hSw; (try dsimp only at hSw); go_simp
            try simp only [Act.put, List.setIfInBounds_toArray, List.set_cons_zero, List.set_cons_succ]
            refine takeH 17 29 (.bool false) ⟨_, rfl, rfl, rfl, ?_⟩ (by kernel_rfl) (by kernel_rfl) (by kernel_rfl) (fun _ _ _ h => h) hHeld ?_
            · intro w hSw; (try dsimp only at hSw); go_simp
            try simp only [Act.put, List.setIfInBounds_toArray, List.set_cons_zero, List.set_cons_succ]
            refine wpAnyH_done (by kernel_rfl) ?_ _
            have hbx : Below w.heap.size w w3 := (hb.trans (hbw.mono hb.size)).drew.trans (hb3.mono (Nat.le_trans hb.size hbw.size))
            go_wp2
            go_roundw
            case rel => exact ⟨k' + 1 + 1, by omega, by go_num, HN, hbx⟩
            case measure => (simp [intOf]; try omega)
          all_goals
            have HN := hide (state_bad HL.out hlt (hst.trans q5))
            clear q1 q3 q5 q6 q7 hst
            go_wp2
            obtain ⟨w1, hw1⟩ : ∃ w1, w1 = wr.alloc (.cells #[.string s, .int .i64 v] 57) := ⟨_, rfl⟩
            rw [← hw1]
            have hbw : Below wr.heap.size wr w1 := hw1 ▸ (Below.refl _ _).alloc (Nat.le_refl _) _
            have c0 : w1.cell? ⟨wr.heap.size, 0, none⟩ = some (.string s) := by rw [hw1]; simp [go_sem]
            have c1 : w1.cell? ⟨wr.heap.size, 1, none⟩ = some (.int .i64 v) := by rw [hw1]; simp [go_sem]
            have hz : wr.heap.size < w1.heap.size := by rw [hw1]; simp
            clear hw1
            have cp : w1.cell? ⟨b, off + k' * 2, none⟩ = some (.string p) := (hbw.cell (p := ⟨b, off + k' * 2, none⟩) hbl).trans hp
            have hbz : b < w1.heap.size := by omega
            refine wp_region_held_drew (S := fun w' => w'.cell? ⟨wr.heap.size, 0, none⟩ = some (.string s) ∧ w'.cell? ⟨wr.heap.size, 1, none⟩ = some (.int .i64 v) ∧ w'.cell? ⟨b, off + k' * 2, none⟩ = some (.string p)) (by kernel_rfl) ⟨c0, c1, cp⟩ (fun hHeld => ?_)
            refine takeH 0 12 (.agg #[.string s, .int .i64 v]) ⟨_, rfl, rfl, rfl, ?_⟩ (by kernel_rfl) (by kernel_rfl) (by kernel_rfl) (fun _ _ _ h => h) hHeld ?_
            · intro w hSw; (try dsimp only at hSw); go_simp
            try simp only [Act.put, List.setIfInBounds_toArray, List.set_cons_zero, List.set_cons_succ]
            refine wpAnyH_ready (rs := [1]) (by kernel_rfl) (by simp) ?_
            refine AllReadyH.cons rfl (fun K hK => ?_) AllReadyH.nil
            go_simp
            go_at_call 30; refine (validSetting_q _ _ _ _ hB hs1).mono ?_; rintro e w3 ⟨rfl, hb3⟩
            try go_wp2_with fail
            refine hK.out _ _ ⟨(hb3.cell (p := ⟨wr.heap.size, 0, none⟩) hz).trans c0, (hb3.cell (p := ⟨wr.heap.size, 1, none⟩) hz).trans c1, (hb3.cell (p := ⟨b, off + k' * 2, none⟩) hbz).trans cp⟩ (fun hHeld => ?_)
            clear hK K
            try simp only [Act.put, List.setIfInBounds_toArray, List.set_cons_zero, List.set_cons_succ]
            refine takeH 2 14 (.bool false) ⟨_, rfl, rfl, rfl, ?_⟩ (by kernel_rfl) (by kernel_rfl) (by kernel_rfl) (fun _ _ _ h => h) hHeld ?_
            · intro w hSw; (try dsimp only at hSw); go_simp
            try simp only [Act.put, List.setIfInBounds_toArray, List.set_cons_zero, List.set_cons_succ]
            refine takeH 3 15 (.bool false) ⟨_, rfl, rfl, rfl, ?_⟩ (by kernel_rfl) (by kernel_rfl) (by kernel_rfl) (fun _ _ _ h => h) hHeld ?_
            · intro w hSw; (try dsimp only at hSw); go_simp
            try simp only [Act.put, List.setIfInBounds_toArray, List.set_cons_zero, List.set_cons_succ]
            refine takeH 4 16 (.int .i64 ((k' + 1 : Nat) : Int)) ⟨_, rfl, rfl, rfl, ?_⟩ (by kernel_rfl) (by kernel_rfl) (by kernel_rfl) (fun _ _ _ h => h) hHeld ?_
            · intro w hSw; (try dsimp only at hSw); go_simp
            try simp only [Act.put, List.setIfInBounds_toArray, List.set_cons_zero, List.set_cons_succ]
            refine takeH 5 17 (.bool true) ⟨_, rfl, rfl, rfl, ?_⟩ (by kernel_rfl) (by kernel_rfl) (by kernel_rfl) (fun _ _ _ h => h) hHeld ?_
            · intro w hSw; (try dsimp only at hSw); go_simp
            try simp only [Act.put, List.setIfInBounds_toArray, List.set_cons_zero, List.set_cons_succ]
            refine takeH 6 18 (.bool true) ⟨_, rfl, rfl, rfl, ?_⟩ (by kernel_rfl) (by kernel_rfl) (by kernel_rfl) (fun _ _ _ h => h) hHeld ?_
            · intro w hSw; (try dsimp only at hSw); go_simp
            try simp only [Act.put, List.setIfInBounds_toArray, List.set_cons_zero, List.set_cons_succ]
            refine takeH 7 19 (.pointer (some ⟨wr.heap.size, 0, none⟩)) ⟨_, rfl, rfl, rfl, ?_⟩ (by kernel_rfl) (by kernel_rfl) (by kernel_rfl) (fun _ _ _ h => h) hHeld ?_
            · intro w hSw; (try dsimp only at hSw); go_simp
            try simp only [Act.put, List.setIfInBounds_toArray, List.set_cons_zero, List.set_cons_succ]
            refine takeH 8 20 (.string s) ⟨_, rfl, rfl, rfl, ?_⟩ (by kernel_rfl) (by kernel_rfl) (by kernel_rfl) (fun _ _ _ h => h) hHeld ?_
            · intro w hSw; (try dsimp only at hSw); go_simp
            try simp only [Act.put, List.setIfInBounds_toArray, List.set_cons_zero, List.set_cons_succ]
            refine takeH 9 21 (.slice (some ⟨b, off, none⟩) n c) ⟨_, rfl, rfl, rfl, ?_⟩ (by kernel_rfl) (by kernel_rfl) (by kernel_rfl) (fun _ _ _ h => h) hHeld ?_
            · intro w hSw; (try dsimp only at hSw); go_simp
            try simp only [Act.put, List.setIfInBounds_toArray, List.set_cons_zero, List.set_cons_succ]
            refine takeH 10 22 (.int .i64 ((k' + 1 : Nat) : Int)) ⟨_, rfl, rfl, rfl, ?_⟩ (by kernel_rfl) (by kernel_rfl) (by kernel_rfl) (fun _ _ _ h => h) hHeld ?_
            · intro w hSw; (try dsimp only at hSw); go_simp
            try simp only [Act.put, List.setIfInBounds_toArray, List.set_cons_zero, List.set_cons_succ]
            refine takeH 11 23 (.int .i64 (k' : Int)) ⟨_, rfl, rfl, rfl, ?_⟩ (by kernel_rfl) (by kernel_rfl) (by kernel_rfl) (fun _ _ _ h => h) hHeld ?_
            · intro w hSw; (try dsimp only at hSw); go_simp
            try simp only [Act.put, List.setIfInBounds_toArray, List.set_cons_zero, List.set_cons_succ]
            refine takeH 12 24 (.pointer (some ⟨b, off + k' * 2, none⟩)) ⟨_, rfl, rfl, rfl, ?_⟩ (by kernel_rfl) (by kernel_rfl) (by kernel_rfl) (fun _ _ _ h => h) hHeld ?_
            · intro w hSw; (try dsimp only at hSw); go_simp
            try simp only [Act.put, List.setIfInBounds_toArray, List.set_cons_zero, List.set_cons_succ]
            refine takeH 13 25 (.pointer (some ⟨b, off + k' * 2, none⟩)) ⟨_, rfl, rfl, rfl, ?_⟩ (by kernel_rfl) (by kernel_rfl) (by kernel_rfl) (fun _ _ _ h => h) hHeld ?_
            · intro w hSw; (try dsimp only at hSw); go_simp
            try simp only [Act.put, List.setIfInBounds_toArray, List.set_cons_zero, List.set_cons_succ]
            refine takeH 14 26 (.string p) ⟨_, rfl, rfl, rfl, ?_⟩ (by kernel_rfl) (by kernel_rfl) (by kernel_rfl) (fun _ _ _ h => h) hHeld ?_
            · intro w hSw; (try dsimp only at hSw); go_simp
            try simp only [Act.put, List.setIfInBounds_toArray, List.set_cons_zero, List.set_cons_succ]
            refine takeH 15 27 (.bool true) ⟨_, rfl, rfl, rfl, ?_⟩ (by kernel_rfl) (by kernel_rfl) (by kernel_rfl) (fun _ _ _ h => h) hHeld ?_
            · intro w hSw; (try dsimp only at hSw); go_simp
            try simp only [Act.put, List.setIfInBounds_toArray, List.set_cons_zero, List.set_cons_succ]
            refine takeH 16 28 (.bool true) ⟨_, rfl, rfl, rfl, ?_⟩ (by kernel_rfl) (by kernel_rfl) (by kernel_rfl) (fun _ _ _ h => h) hHeld ?_
            · intro w hSw; (try dsimp only at hSw); go_simp
            try simp only [Act.put, List.setIfInBounds_toArray, List.set_cons_zero, List.set_cons_succ]
            refine takeH 17 29 (.bool true) ⟨_, rfl, rfl, rfl, ?_⟩ (by kernel_rfl) (by kernel_rfl) (by kernel_rfl) (fun _ _ _ h => h) hHeld ?_
            · intro w hSw; (try dsimp only at hSw); go_simp
            try simp only [Act.put, List.setIfInBounds_toArray, List.set_cons_zero, List.set_cons_succ]
            refine wpAnyH_done (by kernel_rfl) ?_ _
            have hbx : Below w.heap.size w w3 := (hb.trans (hbw.mono hb.size)).drew.trans (hb3.mono (Nat.le_trans hb.size hbw.size))
            go_wp2
            go_ret
            exact ⟨ret_bool HN.out.symm, hbx⟩
    · have hkn : k = n := by omega
      have HN := hide (state_end HL.out (hkn ▸ HC.out))
      clear HC
      go_wp2
      go_ret
      exact ⟨ret_bool HN.out.symm, hb⟩


end Go.Proofs.YtmpfkmbfbeejhaaDoor

namespace Go.Proofs.YtmpfkmbfbeejhaaDoor
open Go.RowKit
set_option linter.unusedVariables false

def SortedZ (ss : List SetZ) : Prop := ∀ (i j : Nat) (a b : SetZ), i < j → ss[i]? = some a → ss[j]? = some b → strLess a.name b.name = true
def hasZ (ss : List SetZ) (nm : ByteArray) : Bool := ss.any (fun s => decide (s.name = nm))
def getZ (ss : List SetZ) (nm : ByteArray) : Option SetZ := ss.find? (fun s => decide (s.name = nm))
def valZ (ss : List SetZ) (nm : ByteArray) : Int := match getZ ss nm with | some s => s.value | none => -1
/-- The place at which a name stands, or would. -/
def IsIdx (ss : List SetZ) (nm : ByteArray) (i : Nat) : Prop := i ≤ ss.length ∧ (∀ (k : Nat) (s : SetZ), ss[k]? = some s → k < i → strLess s.name nm = true) ∧ ∀ (k : Nat) (s : SetZ), ss[k]? = some s → i ≤ k → strLess s.name nm = false

theorem state_step {ss : List SetZ} (h : stateB ss = true) (k : Nat) (hk : k < ss.length) : stepB ss k = true := by
  unfold stateB at h
  rw [Bool.and_eq_true, List.all_eq_true] at h
  exact h.1 k (by simpa using hk)
theorem state_set {ss : List SetZ} (h : stateB ss = true) {k : Nat} {s : SetZ} (hs : ss[k]? = some s) : setB s.name s.value = true := by
  have h1 := state_step h k (List.getElem?_eq_some_iff.1 hs).1
  unfold stepB at h1
  rw [hs, Bool.and_eq_true] at h1
  exact h1.1
theorem state_mem {ss : List SetZ} (h : stateB ss = true) {s : SetZ} (hs : s ∈ ss) : setB s.name s.value = true := by
  obtain ⟨k, hk⟩ := List.mem_iff_getElem?.1 hs
  exact state_set h hk
theorem set_val {s : ByteArray} {v : Int} (h : setB s v = true) : 0 ≤ v ∧ v ≤ 1000 := by
  unfold setB at h
  rw [Bool.and_eq_true] at h
  exact withinB_iff.1 h.2
theorem state_adj {ss : List SetZ} (h : stateB ss = true) {k : Nat} {a b : SetZ} (ha : ss[k]? = some a) (hb : ss[k + 1]? = some b) : strLess a.name b.name = true := by
  have h1 := state_step h (k + 1) (List.getElem?_eq_some_iff.1 hb).1
  unfold stepB at h1
  rw [hb, Bool.and_eq_true] at h1
  have h2 := h1.2
  have e1 : (k + 1 == 0) = false := by simp
  rw [show k + 1 - 1 = k by omega, ha, e1] at h2
  simpa using h2
theorem state_sorted {ss : List SetZ} (h : stateB ss = true) : SortedZ ss := by
  intro i j a b hij ha hb
  induction j generalizing b with
  | zero => omega
  | succ j ih =>
    have hj := (List.getElem?_eq_some_iff.1 hb).1
    rcases Nat.lt_or_ge i j with h1 | h1
    · have hc := List.getElem?_eq_getElem (l := ss) (i := j) (by omega)
      exact strLess_trans (ih _ h1 hc) (state_adj h hc hb)
    · obtain rfl : i = j := by omega
      exact state_adj h ha hb
theorem sorted_uniq {ss : List SetZ} (h : SortedZ ss) {i j : Nat} {a b : SetZ} (ha : ss[i]? = some a) (hb : ss[j]? = some b) (he : a.name = b.name) : i = j := by
  rcases Nat.lt_trichotomy i j with h1 | h1 | h1
  · have := h i j a b h1 ha hb
    rw [he, strLess_irrefl] at this
    cases this
  · exact h1
  · have := h j i b a h1 hb ha
    rw [he, strLess_irrefl] at this
    cases this
theorem getZ_at {ss : List SetZ} (h : SortedZ ss) {i : Nat} {s : SetZ} (hs : ss[i]? = some s) : getZ ss s.name = some s := by
  unfold getZ
  rcases hq : ss.find? (fun t => decide (t.name = s.name)) with _ | t
  · rw [List.find?_eq_none] at hq
    have := hq s (List.mem_of_getElem? hs)
    simp at this
  · have h1 := List.find?_some hq
    obtain ⟨j, hj⟩ := List.mem_iff_getElem?.1 (List.mem_of_find?_eq_some hq)
    have h2 := sorted_uniq h hj hs (by simpa using h1)
    subst h2
    exact hq.trans (hj.symm.trans hs)
theorem getZ_name {ss : List SetZ} {nm : ByteArray} {s : SetZ} (h : getZ ss nm = some s) : s.name = nm ∧ s ∈ ss := by
  unfold getZ at h
  have := List.find?_some h
  exact ⟨by simpa using this, List.mem_of_find?_eq_some h⟩
theorem getZ_none {ss : List SetZ} {nm : ByteArray} : getZ ss nm = none ↔ hasZ ss nm = false := by
  unfold getZ hasZ
  rw [List.find?_eq_none, List.any_eq_false]
theorem hasZ_iff {ss : List SetZ} {nm : ByteArray} : hasZ ss nm = true ↔ ∃ s ∈ ss, s.name = nm := by
  unfold hasZ
  simp
/-- What stands at the place of a name. -/
theorem idx_get {ss : List SetZ} {nm : ByteArray} {i : Nat} (h : IsIdx ss nm i) (hs : SortedZ ss) : getZ ss nm = match ss[i]? with | some s => if s.name = nm then some s else none | none => none := by
  rcases hi : ss[i]? with _ | s
  · simp only
    rw [getZ_none, ← Bool.not_eq_true, hasZ_iff]
    rintro ⟨t, ht, rfl⟩
    obtain ⟨k, hk⟩ := List.mem_iff_getElem?.1 ht
    have h1 := (List.getElem?_eq_some_iff.1 hk).1
    have h2 := List.getElem?_eq_none_iff.1 hi
    have := h.2.1 k t hk (by omega)
    rw [strLess_irrefl] at this
    cases this
  · simp only
    split
    · rename_i he
      subst he
      exact getZ_at hs hi
    · rename_i he
      rw [getZ_none, ← Bool.not_eq_true, hasZ_iff]
      rintro ⟨t, ht, rfl⟩
      obtain ⟨k, hk⟩ := List.mem_iff_getElem?.1 ht
      rcases Nat.lt_trichotomy k i with h1 | h1 | h1
      · have := h.2.1 k t hk h1
        rw [strLess_irrefl] at this
        cases this
      · subst h1
        rw [hk] at hi
        exact he (by rw [Option.some.inj hi])
      · have h2 := hs i k s t h1 hi hk
        have h3 := h.2.2 i s hi (Nat.le_refl _)
        rw [h2] at h3
        cases h3
/-- The binary search's two steps. -/
theorem idx_low {ss : List SetZ} {nm : ByteArray} (hs : SortedZ ss) {h : Nat} {s : SetZ} (hx : ss[h]? = some s) (hl : strLess s.name nm = true) : ∀ k t, ss[k]? = some t → k < h + 1 → strLess t.name nm = true := by
  intro k t hk hlt
  rcases Nat.lt_or_ge k h with h1 | h1
  · exact strLess_trans (hs k h t s h1 hk hx) hl
  · obtain rfl : k = h := by omega
    rw [hk] at hx
    rw [Option.some.inj hx]
    exact hl
theorem idx_high {ss : List SetZ} {nm : ByteArray} (hs : SortedZ ss) {h : Nat} {s : SetZ} (hx : ss[h]? = some s) (hl : strLess s.name nm = false) : ∀ k t, ss[k]? = some t → h ≤ k → strLess t.name nm = false := by
  intro k t hk hle
  rcases Nat.lt_or_ge h k with h1 | h1
  · rcases b_cases (strLess t.name nm) with e | e
    · exact e
    · have := strLess_trans (hs h k s t h1 hx hk) e
      rw [hl] at this
      cases this
  · obtain rfl : k = h := by omega
    rw [hk] at hx
    rw [Option.some.inj hx]
    exact hl
theorem val_has {ss : List SetZ} (h : stateB ss = true) (nm : ByteArray) : decide (valZ ss nm < 0) = !hasZ ss nm := by
  unfold valZ
  rcases hq : getZ ss nm with _ | s
  · rw [getZ_none.1 hq]; rfl
  · have h1 := set_val (state_mem h (getZ_name hq).2)
    have h2 : hasZ ss nm = true := by
      rw [← Bool.not_eq_false, ← getZ_none, hq]
      simp
    rw [h2]
    simp
    omega
theorem val_range {ss : List SetZ} (h : stateB ss = true) (nm : ByteArray) : -1 ≤ valZ ss nm ∧ valZ ss nm ≤ 1000 := by
  unfold valZ
  rcases hq : getZ ss nm with _ | s
  · simp
  · have h1 := set_val (state_mem h (getZ_name hq).2)
    exact ⟨by simp only; omega, h1.2⟩
theorem val_mem {ss : List SetZ} (h : stateB ss = true) {nm : ByteArray} {v : Int} (hv : 0 ≤ v) : valZ ss nm = v ↔ (⟨nm, v⟩ : SetZ) ∈ ss := by
  unfold valZ
  constructor
  · rcases hq : getZ ss nm with _ | s
    · intro h1; simp only at h1; omega
    · intro h1
      obtain ⟨h2, h3⟩ := getZ_name hq
      simp only at h1
      subst h1 h2
      exact h3
  · intro h1
    obtain ⟨k, hk⟩ := List.mem_iff_getElem?.1 h1
    rw [getZ_at (state_sorted h) hk]

end Go.Proofs.YtmpfkmbfbeejhaaDoor

namespace Go.Proofs.YtmpfkmbfbeejhaaDoor
open Go.RowKit
set_option linter.unusedVariables false

/-- The strings rise strictly. -/
def SortB (xs : List ByteArray) : Prop := xs.Pairwise (fun a b => strLess a b = true)
theorem less_ne {s t : ByteArray} (h : strLess s t = true) : s ≠ t := by rintro rfl; rw [strLess_irrefl] at h; cases h
theorem not_less {s t : ByteArray} (h : strLess s t = false) (hne : s ≠ t) : strLess t s = true := by
  rcases b_cases (strLess t s) with e | e
  · exact absurd (strLess_total h e) hne
  · exact e
/-- Two sorted lists of the same strings are one. -/
theorem sortB_ext : ∀ {xs ys : List ByteArray}, SortB xs → SortB ys → (∀ x, x ∈ xs ↔ x ∈ ys) → xs = ys
  | [], [], _, _, _ => rfl
  | [], y :: ys, _, _, h => by have := (h y).2 (by simp); simp at this
  | x :: xs, [], _, _, h => by have := (h x).1 (by simp); simp at this
  | x :: xs, y :: ys, h1, h2, h => by
    unfold SortB at h1 h2
    rw [List.pairwise_cons] at h1 h2
    have hxy : x = y := by
      rcases List.mem_cons.1 ((h x).1 (by simp)) with e | e
      · exact e
      · rcases List.mem_cons.1 ((h y).2 (by simp)) with e' | e'
        · exact e'.symm
        · have := strLess_trans (h1.1 y e') (h2.1 x e)
          rw [strLess_irrefl] at this
          cases this
    subst hxy
    rw [sortB_ext h1.2 h2.2 (fun z => ?_)]
    constructor
    · intro hz
      rcases List.mem_cons.1 ((h z).1 (by simp [hz])) with rfl | e
      · have := h1.1 z hz
        rw [strLess_irrefl] at this
        cases this
      · exact e
    · intro hz
      rcases List.mem_cons.1 ((h z).2 (by simp [hz])) with rfl | e
      · have := h2.1 z hz
        rw [strLess_irrefl] at this
        cases this
      · exact e

/-- Is the string there? -/
def inB (xs : List ByteArray) (x : ByteArray) : Bool := xs.any fun y => decide (y = x)
theorem inB_iff {xs : List ByteArray} {x : ByteArray} : inB xs x = true ↔ x ∈ xs := by
  unfold inB
  rw [List.any_eq_true]
  constructor
  · rintro ⟨y, hy, h⟩
    rw [decide_eq_true_iff] at h
    exact h ▸ hy
  · intro h
    exact ⟨x, h, by simp⟩
theorem inB_not {xs : List ByteArray} {x : ByteArray} : inB xs x = false ↔ x ∉ xs := by
  rw [← inB_iff]; simp
/-- Does the string at k come behind the one before it? -/
def upB (xs : List ByteArray) : Nat → Bool
  | 0 => true
  | k + 1 => strLess (xs.getD k ⟨#[]⟩) (xs.getD (k + 1) ⟨#[]⟩)
theorem upB_at {xs : List ByteArray} {k : Nat} {a b : ByteArray} (h1 : xs[k]? = some a) (h2 : xs[k + 1]? = some b) : upB xs (k + 1) = strLess a b := by
  simp [upB, List.getD, h1, h2]
/-- The strings rise if each comes behind the one before it. -/
theorem sortB_take {xs : List ByteArray} {k : Nat} {x : ByteArray} (hx : xs[k]? = some x) (h : SortB (xs.take k)) (hu : upB xs k = true) : SortB (xs.take (k + 1)) := by
  rw [take_snoc hx]
  unfold SortB at *
  rw [List.pairwise_append]
  refine ⟨h, by simp, fun a ha b hb => ?_⟩
  simp only [List.mem_singleton] at hb
  subst hb
  cases k with
  | zero => simp at ha
  | succ k =>
    have hk := (List.getElem?_eq_some_iff.1 hx).1
    have hy : xs[k]? = some xs[k] := List.getElem?_eq_getElem (by omega)
    rw [upB_at hy hx] at hu
    rw [take_snoc hy] at h ha
    rw [List.pairwise_append] at h
    rcases List.mem_append.1 ha with ha | ha
    · exact strLess_trans (h.2.2 a ha _ (by simp)) hu
    · simp only [List.mem_singleton] at ha
      subst ha
      exact hu
theorem sortB_up {xs : List ByteArray} (h : SortB xs) {k : Nat} (hk : k < xs.length) : upB xs k = true := by
  cases k with
  | zero => rfl
  | succ k =>
    rw [upB_at (List.getElem?_eq_getElem (by omega)) (List.getElem?_eq_getElem hk)]
    exact List.pairwise_iff_getElem.1 h k (k + 1) (by omega) hk (by omega)
theorem sortB_nodup {xs : List ByteArray} (h : SortB xs) : xs.Nodup := by
  refine List.Pairwise.imp ?_ h
  intro a b hab
  exact less_ne hab
theorem nodup_len {α : Type} [DecidableEq α] : ∀ {ys xs : List α}, xs.Nodup → (∀ x ∈ xs, x ∈ ys) → xs.length ≤ ys.length
  | [], xs, _, h => by
    cases xs with
    | nil => simp
    | cons x xs => have := h x (by simp); simp at this
  | y :: ys, xs, hn, h => by
    have h1 : (xs.filter (fun x => decide (x ≠ y))).length ≤ ys.length := by
      refine nodup_len (hn.filter _) (fun x hx => ?_)
      obtain ⟨hx, he⟩ := List.mem_filter.1 hx
      have he' : x ≠ y := by simpa using he
      rcases List.mem_cons.1 (h x hx) with e | e
      · exact absurd e he'
      · exact e
    have h2 : xs.length ≤ (xs.filter (fun x => decide (x ≠ y))).length + 1 := by
      clear h h1
      induction xs with
      | nil => simp
      | cons x xs ih =>
        rw [List.nodup_cons] at hn
        by_cases e : x = y
        · subst e
          have : xs.filter (fun z => decide (z ≠ x)) = xs := List.filter_eq_self.2 fun a ha => by
            simp only [ne_eq, decide_not, Bool.not_eq_true', decide_eq_false_iff_not]
            rintro rfl
            exact hn.1 ha
          rw [List.filter_cons_of_neg (by simp), this]
          simp
        · rw [List.filter_cons_of_pos (by simpa using e)]
          have := ih hn.2
          simp only [List.length_cons]
          omega
    simp only [List.length_cons]
    omega

end Go.Proofs.YtmpfkmbfbeejhaaDoor

namespace Go.Proofs.YtmpfkmbfbeejhaaDoor
open Go.RowKit
set_option linter.unusedVariables false

/-- A sorted list with another setting. -/
def setZ : List SetZ → SetZ → List SetZ
  | [], e => [e]
  | s :: ss, e => if strLess e.name s.name = true then e :: s :: ss else if s.name = e.name then e :: ss else s :: setZ ss e
def SortP (ss : List SetZ) : Prop := ss.Pairwise (fun a b => strLess a.name b.name = true)
theorem sortP_iff {ss : List SetZ} : SortedZ ss ↔ SortP ss := by
  unfold SortP
  rw [List.pairwise_iff_getElem]
  constructor
  · intro h i j hi hj hij
    exact h i j _ _ hij (List.getElem?_eq_getElem hi) (List.getElem?_eq_getElem hj)
  · intro h i j a b hij ha hb
    obtain ⟨hi, rfl⟩ := List.getElem?_eq_some_iff.1 ha
    obtain ⟨hj, rfl⟩ := List.getElem?_eq_some_iff.1 hb
    exact h i j hi hj hij
theorem set_less {xs : List SetZ} {e : SetZ} (h : ∀ x ∈ xs, strLess x.name e.name = true) : setZ xs e = xs ++ [e] := by
  induction xs with
  | nil => rfl
  | cons s ss ih =>
    have h1 := h s (by simp)
    rw [setZ, if_neg (by rw [strLess_asymm h1]; simp), if_neg (less_ne h1), ih (fun x hx => h x (by simp [hx]))]
    rfl
theorem set_at_more {xs : List SetZ} {e s : SetZ} (h : ∀ x ∈ xs, strLess x.name e.name = true) (hs : strLess e.name s.name = true) : setZ (xs ++ [s]) e = xs ++ [e, s] := by
  induction xs with
  | nil => simp [setZ, hs]
  | cons x ss ih =>
    have h1 := h x (by simp)
    rw [List.cons_append, setZ, if_neg (by rw [strLess_asymm h1]; simp), if_neg (less_ne h1), ih (fun y hy => h y (by simp [hy]))]
    rfl
theorem set_at_same {xs : List SetZ} {e s : SetZ} (h : ∀ x ∈ xs, strLess x.name e.name = true) (hs : s.name = e.name) : setZ (xs ++ [s]) e = xs ++ [e] := by
  induction xs with
  | nil => simp [setZ, hs, strLess_irrefl]
  | cons x ss ih =>
    have h1 := h x (by simp)
    rw [List.cons_append, setZ, if_neg (by rw [strLess_asymm h1]; simp), if_neg (less_ne h1), ih (fun y hy => h y (by simp [hy]))]
    rfl
theorem set_done {xs : List SetZ} {e s : SetZ} (h : ∃ x ∈ xs, strLess x.name e.name = false) : setZ (xs ++ [s]) e = setZ xs e ++ [s] := by
  induction xs with
  | nil => obtain ⟨x, hx, _⟩ := h; simp at hx
  | cons x ss ih =>
    rw [List.cons_append, setZ, setZ]
    split
    · rfl
    · split
      · rfl
      · rename_i h1 h2
        rw [ih ?_]
        · rfl
        · obtain ⟨y, hy, hl⟩ := h
          rcases List.mem_cons.1 hy with rfl | hy
          · exact absurd (not_less hl h2) h1
          · exact ⟨y, hy, hl⟩
theorem mem_setZ {ss : List SetZ} {e x : SetZ} (h : x ∈ setZ ss e) : x = e ∨ x ∈ ss := by
  induction ss with
  | nil => simp [setZ] at h; exact .inl h
  | cons s ss ih =>
    rw [setZ] at h
    split at h
    · simpa using h
    · split at h
      · rcases List.mem_cons.1 h with h | h
        · exact .inl h
        · exact .inr (by simp [h])
      · rcases List.mem_cons.1 h with rfl | h
        · exact .inr (by simp)
        · rcases ih h with h | h
          · exact .inl h
          · exact .inr (by simp [h])
theorem has_setZ {ss : List SetZ} {e : SetZ} {nm : ByteArray} : hasZ (setZ ss e) nm = (decide (e.name = nm) || hasZ ss nm) := by
  induction ss with
  | nil => simp [setZ, hasZ]
  | cons s ss ih =>
    rw [setZ]
    split
    · simp [hasZ]
    · split
      · rename_i h
        simp only [hasZ, List.any_cons]
        rw [h]
        cases decide (e.name = nm) <;> simp
      · simp only [hasZ, List.any_cons] at ih ⊢
        rw [ih]
        cases decide (e.name = nm) <;> cases decide (s.name = nm) <;> simp
theorem sort_setZ {ss : List SetZ} {e : SetZ} (h : SortP ss) : SortP (setZ ss e) := by
  induction ss with
  | nil => simp [setZ, SortP]
  | cons s ss ih =>
    unfold SortP at h ih ⊢
    rw [List.pairwise_cons] at h
    rw [setZ]
    split
    · rename_i h1
      rw [List.pairwise_cons, List.pairwise_cons]
      exact ⟨fun x hx => by
        rcases List.mem_cons.1 hx with rfl | hx
        · exact h1
        · exact strLess_trans h1 (h.1 x hx), h.1, h.2⟩
    · split
      · rename_i h1 h2
        rw [List.pairwise_cons]
        exact ⟨fun x hx => by rw [← h2]; exact h.1 x hx, h.2⟩
      · rename_i h1 h2
        rw [List.pairwise_cons]
        refine ⟨fun x hx => ?_, ih h.2⟩
        rcases mem_setZ hx with rfl | hx
        · exact not_less (by simpa using h1) (fun e => h2 e.symm)
        · exact h.1 x hx
theorem len_setZ (ss : List SetZ) (e : SetZ) : (setZ ss e).length ≤ ss.length + 1 := by
  induction ss with
  | nil => simp [setZ]
  | cons s ss ih =>
    rw [setZ]
    split
    · simp
    · split
      · simp
      · simp; exact ih

/-- All settings, by name, of some lists. -/
def foldZ (all : List SetZ) (xs : List SetZ) : List SetZ := xs.foldl setZ all
def namesZ (base a b : List SetZ) : List ByteArray := (foldZ (foldZ (foldZ [] base) a) b).map SetZ.name
theorem foldZ_snoc {all xs : List SetZ} {k : Nat} {s : SetZ} (h : xs[k]? = some s) : foldZ all (xs.take (k + 1)) = setZ (foldZ all (xs.take k)) s := by
  unfold foldZ; rw [take_snoc h, List.foldl_append]; rfl
theorem foldZ_sort {all xs : List SetZ} (h : SortP all) : SortP (foldZ all xs) := by
  induction xs generalizing all with
  | nil => exact h
  | cons x xs ih => exact ih (sort_setZ h)
theorem foldZ_has {all xs : List SetZ} {nm : ByteArray} : hasZ (foldZ all xs) nm = (hasZ all nm || hasZ xs nm) := by
  induction xs generalizing all with
  | nil => simp [foldZ, hasZ]
  | cons x xs ih =>
    have e : foldZ all (x :: xs) = foldZ (setZ all x) xs := rfl
    rw [e, ih, has_setZ]
    have e2 : hasZ (x :: xs) nm = (decide (x.name = nm) || hasZ xs nm) := by simp [hasZ]
    rw [e2]
    cases decide (x.name = nm) <;> cases hasZ all nm <;> simp
theorem foldZ_len {all xs : List SetZ} : (foldZ all xs).length ≤ all.length + xs.length := by
  induction xs generalizing all with
  | nil => simp [foldZ]
  | cons x xs ih =>
    have e : foldZ all (x :: xs) = foldZ (setZ all x) xs := rfl
    rw [e]
    have h1 := ih (all := setZ all x)
    have h2 := len_setZ all x
    simp only [List.length_cons]
    omega
theorem foldZ_mem {all xs : List SetZ} {s : SetZ} (h : s ∈ foldZ all xs) : s ∈ all ∨ s ∈ xs := by
  induction xs generalizing all with
  | nil => exact .inl h
  | cons x xs ih =>
    have e : foldZ all (x :: xs) = foldZ (setZ all x) xs := rfl
    rw [e] at h
    rcases ih h with h | h
    · rcases mem_setZ h with rfl | h
      · exact .inr (by simp)
      · exact .inl h
    · exact .inr (by simp [h])
theorem namesZ_sort (base a b : List SetZ) : SortB (namesZ base a b) := by
  have h : SortP (foldZ (foldZ (foldZ [] base) a) b) := foldZ_sort (foldZ_sort (foldZ_sort (by simp [SortP])))
  unfold SortB namesZ
  unfold SortP at h
  rw [List.pairwise_map]
  exact h
theorem namesZ_mem {base a b : List SetZ} {nm : ByteArray} : nm ∈ namesZ base a b ↔ hasZ base nm = true ∨ hasZ a nm = true ∨ hasZ b nm = true := by
  have h1 : nm ∈ namesZ base a b ↔ hasZ (foldZ (foldZ (foldZ [] base) a) b) nm = true := by
    rw [hasZ_iff]
    unfold namesZ
    rw [List.mem_map]
  rw [h1, foldZ_has, foldZ_has, foldZ_has]
  simp only [hasZ, List.any_nil, Bool.false_or, Bool.or_eq_true]
  constructor
  · rintro ((h | h) | h)
    · exact .inl h
    · exact .inr (.inl h)
    · exact .inr (.inr h)
  · rintro (h | h | h)
    · exact .inl (.inl h)
    · exact .inl (.inr h)
    · exact .inr h
theorem namesZ_len (base a b : List SetZ) : (namesZ base a b).length ≤ base.length + a.length + b.length := by
  unfold namesZ
  rw [List.length_map]
  have h1 := foldZ_len (all := foldZ (foldZ [] base) a) (xs := b)
  have h2 := foldZ_len (all := foldZ [] base) (xs := a)
  have h3 := foldZ_len (all := []) (xs := base)
  simp only [List.length_nil] at h3
  omega
/-! ### conflicts and merging -/
/-- Have both states changed a name in different ways? -/
def confB (base a b : List SetZ) (nm : ByteArray) : Bool := decide (valZ a nm ≠ valZ b nm) && decide (valZ a nm ≠ valZ base nm) && decide (valZ b nm ≠ valZ base nm)
def confZ (base a b : List SetZ) : List ByteArray := (namesZ base a b).filter (confB base a b)
/-- The merged value of a name. -/
def mrgV (base a b : List SetZ) (nm : ByteArray) : Int := if valZ a nm = valZ base nm then valZ b nm else valZ a nm
def mrgF (base a b : List SetZ) (nm : ByteArray) : List SetZ := if 0 ≤ mrgV base a b nm then [⟨nm, mrgV base a b nm⟩] else []
def mrgZ (base a b : List SetZ) (nms : List ByteArray) : List SetZ := nms.flatMap (mrgF base a b)
theorem mrgZ_snoc {base a b : List SetZ} {nms : List ByteArray} {k : Nat} {nm : ByteArray} (h : nms[k]? = some nm) : mrgZ base a b (nms.take (k + 1)) = mrgZ base a b (nms.take k) ++ mrgF base a b nm := by
  unfold mrgZ; rw [take_snoc h]; simp
theorem mrgF_yes {base a b : List SetZ} {nm : ByteArray} (h : 0 ≤ mrgV base a b nm) : mrgF base a b nm = [⟨nm, mrgV base a b nm⟩] := by unfold mrgF; rw [if_pos h]
theorem mrgF_no {base a b : List SetZ} {nm : ByteArray} (h : mrgV base a b nm < 0) : mrgF base a b nm = [] := by unfold mrgF; rw [if_neg (by omega)]
theorem mrgZ_len (base a b : List SetZ) (nms : List ByteArray) : (mrgZ base a b nms).length ≤ nms.length := by
  induction nms with
  | nil => simp [mrgZ]
  | cons x xs ih =>
    have e : mrgZ base a b (x :: xs) = mrgF base a b x ++ mrgZ base a b xs := by simp [mrgZ]
    rw [e, List.length_append]
    have : (mrgF base a b x).length ≤ 1 := by unfold mrgF; split <;> simp
    simp only [List.length_cons]
    omega
def mrgC (base a b : List SetZ) : Int := if confZ base a b = [] then (if (mrgZ base a b (namesZ base a b)).length ≤ 24 then 0 else 5) else 6
def mrgR (base a b : List SetZ) : List SetZ := if confZ base a b = [] then (if (mrgZ base a b (namesZ base a b)).length ≤ 24 then mrgZ base a b (namesZ base a b) else []) else []
def three (base a b : List SetZ) : Bool := stateB base && stateB a && stateB b
def conC (base a b : List SetZ) : Int := if three base a b then 0 else 1
def conR (base a b : List SetZ) : List ByteArray := if three base a b then confZ base a b else []
def mstC (base a b : List SetZ) : Int := if three base a b then mrgC base a b else 1
def mstR (base a b : List SetZ) : List SetZ := if three base a b then mrgR base a b else []
theorem confZ_take {base a b : List SetZ} {k : Nat} {nm : ByteArray} {nms : List ByteArray} (h : nms[k]? = some nm) : (nms.take (k + 1)).filter (confB base a b) = (nms.take k).filter (confB base a b) ++ (if confB base a b nm then [nm] else []) := by
  rw [take_snoc h, List.filter_append]
  rcases b_cases (confB base a b nm) with e | e <;> simp [e]
/-- The name of a valid setting is not empty. -/
theorem name_ne {ss : List SetZ} (h : stateB ss = true) {nm : ByteArray} (hh : hasZ ss nm = true) : nm.size ≠ 0 := by
  obtain ⟨s, hs, rfl⟩ := hasZ_iff.1 hh
  have h1 := state_mem h hs
  unfold setB at h1
  rw [Bool.and_eq_true] at h1
  intro h0
  have := h1.1
  unfold nameB at this
  simp [h0] at this
theorem fine_of_mem {ss : List SetZ} {nm : ByteArray} (hf : ∀ s ∈ ss, s.fine) (hh : hasZ ss nm = true) : nm.size ≤ 9223372036854775807 := by
  obtain ⟨s, hs, rfl⟩ := hasZ_iff.1 hh
  exact (hf s hs).1
theorem val_no {ss : List SetZ} {nm : ByteArray} (h : hasZ ss nm = false) : valZ ss nm = -1 := by
  unfold valZ; rw [getZ_none.2 h]

end Go.Proofs.YtmpfkmbfbeejhaaDoor

namespace Go.Proofs.YtmpfkmbfbeejhaaDoor
open Go.RowKit
set_option linter.unusedVariables false

theorem sortP_of {ss : List SetZ} (h : stateB ss = true) : SortP ss := sortP_iff.1 (state_sorted h)
theorem sortP_get {ss : List SetZ} (h : SortP ss) {s : SetZ} (hs : s ∈ ss) : getZ ss s.name = some s := by
  obtain ⟨k, hk⟩ := List.mem_iff_getElem?.1 hs
  exact getZ_at (sortP_iff.2 h) hk
theorem sortP_val {ss : List SetZ} (h : SortP ss) {s : SetZ} (hs : s ∈ ss) : valZ ss s.name = s.value := by
  unfold valZ; rw [sortP_get h hs]
theorem map_names {ss : List SetZ} (h : SortP ss) : ss = (ss.map SetZ.name).map fun nm => ⟨nm, valZ ss nm⟩ := by
  rw [List.map_map]
  conv => lhs; rw [← List.map_id ss]
  refine List.map_congr_left fun s hs => ?_
  show s = ⟨s.name, valZ ss s.name⟩
  rw [sortP_val h hs]
theorem val_hasP {ss : List SetZ} (hv : ∀ s ∈ ss, 0 ≤ s.value) {nm : ByteArray} : hasZ ss nm = true ↔ 0 ≤ valZ ss nm := by
  unfold valZ
  cases hg : getZ ss nm with
  | none =>
    rw [getZ_none.1 hg]
    simp
  | some s =>
    have := getZ_name hg
    simp only
    exact ⟨fun _ => hv s this.2, fun _ => hasZ_iff.2 ⟨s, this.2, this.1⟩⟩
/-- States with the same values are one. -/
theorem state_ext {xs ys : List SetZ} (h1 : SortP xs) (h2 : SortP ys) (v1 : ∀ s ∈ xs, 0 ≤ s.value) (v2 : ∀ s ∈ ys, 0 ≤ s.value) (h : ∀ nm, valZ xs nm = valZ ys nm) : xs = ys := by
  have e : xs.map SetZ.name = ys.map SetZ.name := by
    refine sortB_ext ?_ ?_ fun nm => ?_
    · unfold SortB; exact List.pairwise_map.2 h1
    · unfold SortB; exact List.pairwise_map.2 h2
    · rw [List.mem_map, List.mem_map]
      have a := hasZ_iff (ss := xs) (nm := nm)
      have b := hasZ_iff (ss := ys) (nm := nm)
      rw [← a, ← b, val_hasP v1, val_hasP v2, h]
  rw [map_names h1, map_names h2, e]
  exact List.map_congr_left fun nm _ => by rw [h]
theorem mrgF_mem {base a b : List SetZ} {nm : ByteArray} {s : SetZ} (h : s ∈ mrgF base a b nm) : s = ⟨nm, mrgV base a b nm⟩ ∧ 0 ≤ mrgV base a b nm := by
  unfold mrgF at h
  split at h
  · exact ⟨by simpa using h, by assumption⟩
  · simp at h
theorem mrg_sort {base a b : List SetZ} : ∀ {nms : List ByteArray}, SortB nms → SortP (mrgZ base a b nms)
  | [], _ => List.Pairwise.nil
  | x :: xs, h => by
    unfold SortB at h
    rw [List.pairwise_cons] at h
    have e : mrgZ base a b (x :: xs) = mrgF base a b x ++ mrgZ base a b xs := by simp [mrgZ]
    rw [e]
    refine List.pairwise_append.2 ⟨?_, mrg_sort h.2, ?_⟩
    · unfold mrgF; split <;> simp
    · intro s hs t ht
      obtain ⟨y, hy, hty⟩ := List.mem_flatMap.1 ht
      rw [(mrgF_mem hs).1, (mrgF_mem hty).1]
      exact h.1 y hy
theorem mrg_pos {base a b : List SetZ} {nms : List ByteArray} : ∀ s ∈ mrgZ base a b nms, 0 ≤ s.value := by
  intro s hs
  obtain ⟨y, hy, hty⟩ := List.mem_flatMap.1 hs
  rw [(mrgF_mem hty).1]
  exact (mrgF_mem hty).2
theorem valZ_ge {ss : List SetZ} (hv : ∀ s ∈ ss, 0 ≤ s.value) (nm : ByteArray) : -1 ≤ valZ ss nm := by
  unfold valZ
  cases hg : getZ ss nm with
  | none => simp
  | some s => have := hv s (getZ_name hg).2; simp only; omega
theorem mrg_val_yes {base a b : List SetZ} {nms : List ByteArray} (h : SortB nms) {nm : ByteArray} (h1 : nm ∈ nms) (h2 : 0 ≤ mrgV base a b nm) : valZ (mrgZ base a b nms) nm = mrgV base a b nm := by
  have hm : (⟨nm, mrgV base a b nm⟩ : SetZ) ∈ mrgZ base a b nms := List.mem_flatMap.2 ⟨nm, h1, by rw [mrgF_yes h2]; simp⟩
  exact sortP_val (mrg_sort h) hm
theorem mrg_val_no {base a b : List SetZ} {nms : List ByteArray} {nm : ByteArray} (hc : ¬ (nm ∈ nms ∧ 0 ≤ mrgV base a b nm)) : valZ (mrgZ base a b nms) nm = -1 := by
  refine val_no ?_
  rw [← Bool.not_eq_true, hasZ_iff]
  rintro ⟨s, hs, rfl⟩
  obtain ⟨y, hy, hty⟩ := List.mem_flatMap.1 hs
  have := mrgF_mem hty
  rw [this.1] at hc
  exact hc ⟨hy, this.2⟩
theorem state_pos {ss : List SetZ} (h : stateB ss = true) : ∀ s ∈ ss, 0 ≤ s.value := fun s hs => (set_val (state_mem h hs)).1
/-- A state is what it is, seen from all names. -/
theorem mrg_is {base a b x : List SetZ} (hx : stateB x = true) (h0 : stateB base = true) (h1 : stateB a = true) (h2 : stateB b = true)
    (hv : ∀ nm, mrgV base a b nm = valZ x nm) (hin : ∀ nm, hasZ x nm = true → hasZ base nm = true ∨ hasZ a nm = true ∨ hasZ b nm = true) : mrgZ base a b (namesZ base a b) = x := by
  refine state_ext (mrg_sort (namesZ_sort _ _ _)) (sortP_of hx) mrg_pos (state_pos hx) fun nm => ?_
  by_cases hc : nm ∈ namesZ base a b ∧ 0 ≤ mrgV base a b nm
  · rw [mrg_val_yes (namesZ_sort _ _ _) hc.1 hc.2, hv]
  · rw [mrg_val_no hc]
    rw [hv] at hc
    have := val_hasP (state_pos hx) (nm := nm)
    rcases b_cases (hasZ x nm) with e | e
    · exact (val_no e).symm
    · exact absurd ⟨namesZ_mem.2 (hin nm e), this.1 e⟩ hc
theorem conf_nil {base a b : List SetZ} (h : ∀ nm, confB base a b nm = false) : confZ base a b = [] := by
  unfold confZ
  rw [List.filter_eq_nil_iff]
  intro nm _
  rw [h nm]; simp
theorem mst_is {base a b x : List SetZ} (hx : stateB x = true) (h0 : stateB base = true) (h1 : stateB a = true) (h2 : stateB b = true) (hc : ∀ nm, confB base a b nm = false)
    (hv : ∀ nm, mrgV base a b nm = valZ x nm) (hin : ∀ nm, hasZ x nm = true → hasZ base nm = true ∨ hasZ a nm = true ∨ hasZ b nm = true) : mstC base a b = 0 ∧ mstR base a b = x := by
  have e := mrg_is hx h0 h1 h2 hv hin
  have l := state_len hx
  unfold mstC mstR mrgC mrgR three
  rw [h0, h1, h2, e, if_pos (conf_nil hc), if_pos (conf_nil hc), if_pos l, if_pos l]
  exact ⟨rfl, rfl⟩
theorem merge_left {base a : List SetZ} (h0 : stateB base = true) (h1 : stateB a = true) : mstC base a base = 0 ∧ mstR base a base = a := by
  refine mst_is h1 h0 h1 h0 (fun nm => ?_) (fun nm => ?_) (fun nm h => .inr (.inl h))
  · unfold confB; simp
  · unfold mrgV; split
    · next h => exact h.symm
    · rfl
theorem merge_right {base a : List SetZ} (h0 : stateB base = true) (h1 : stateB a = true) : mstC base base a = 0 ∧ mstR base base a = a := by
  refine mst_is h1 h0 h0 h1 (fun nm => ?_) (fun nm => ?_) (fun nm h => .inr (.inr h))
  · unfold confB; simp
  · unfold mrgV; rw [if_pos rfl]
theorem merge_both {base a : List SetZ} (h0 : stateB base = true) (h1 : stateB a = true) : mstC base a a = 0 ∧ mstR base a a = a := by
  refine mst_is h1 h0 h1 h1 (fun nm => ?_) (fun nm => ?_) (fun nm h => .inr (.inl h))
  · unfold confB; simp
  · unfold mrgV; split <;> rfl
theorem names_comm (base a b : List SetZ) : namesZ base a b = namesZ base b a := by
  refine sortB_ext (namesZ_sort _ _ _) (namesZ_sort _ _ _) fun nm => ?_
  rw [namesZ_mem, namesZ_mem]
  constructor <;> (rintro (h | h | h) <;> simp [h])
theorem conf_comm (base a b : List SetZ) : confZ base a b = confZ base b a := by
  unfold confZ
  rw [names_comm base a b]
  refine List.filter_congr fun nm _ => ?_
  unfold confB
  by_cases h1 : valZ a nm = valZ b nm
  · simp [h1]
  · by_cases h2 : valZ a nm = valZ base nm <;> by_cases h3 : valZ b nm = valZ base nm <;> simp [h1, h2, h3, Ne.symm h1]
theorem mrg_comm {base a b : List SetZ} (h : confZ base a b = []) : mrgZ base a b (namesZ base a b) = mrgZ base b a (namesZ base b a) := by
  rw [← names_comm base a b]
  unfold mrgZ
  have key : ∀ nm ∈ namesZ base a b, mrgV base a b nm = mrgV base b a nm := by
    intro nm hnm
    have hc : confB base a b nm = false := by
      unfold confZ at h
      rw [List.filter_eq_nil_iff] at h
      simpa using h nm hnm
    unfold confB at hc
    unfold mrgV
    by_cases h1 : valZ a nm = valZ base nm
    · rw [if_pos h1]
      split
      · next h2 => rw [h2, h1]
      · rfl
    · rw [if_neg h1]
      split
      · rfl
      · next h2 =>
        simp [h1, h2] at hc
        exact hc
  generalize namesZ base a b = ns at key ⊢
  induction ns with
  | nil => rfl
  | cons x xs ih =>
    rw [List.flatMap_cons, List.flatMap_cons, ih (fun nm hn => key nm (by simp [hn]))]
    congr 1
    unfold mrgF
    rw [key x (by simp)]
theorem mst_comm (base a b : List SetZ) : mstC base a b = mstC base b a ∧ mstR base a b = mstR base b a := by
  have e3 : three base a b = three base b a := by
    unfold three
    cases stateB base <;> cases stateB a <;> cases stateB b <;> rfl
  unfold mstC mstR
  rw [← e3]
  by_cases ht : three base a b = true
  · simp only [if_pos ht]
    unfold mrgC mrgR
    rw [← conf_comm base a b]
    by_cases hc : confZ base a b = []
    · simp only [if_pos hc]
      rw [mrg_comm hc]
      exact ⟨rfl, rfl⟩
    · simp only [if_neg hc]
      exact ⟨trivial, trivial⟩
  · simp only [if_neg ht]
    exact ⟨trivial, trivial⟩

theorem state_of {ss : List SetZ} (h : SortP ss) (hs : ∀ s ∈ ss, setB s.name s.value = true) (hl : ss.length ≤ 24) : stateB ss = true := by
  unfold stateB
  rw [Bool.and_eq_true, List.all_eq_true]
  refine ⟨fun k hk => ?_, decide_eq_true hl⟩
  have hk' : k < ss.length := by simpa using hk
  have e := List.getElem?_eq_getElem hk'
  have hb := hs _ (List.getElem_mem hk')
  by_cases h0 : k = 0
  · subst h0
    rw [step_first e]; exact hb
  · have e2 := List.getElem?_eq_getElem (l := ss) (i := k - 1) (by omega)
    rw [step_next e e2 (by omega) hb]
    exact sortP_iff.2 h (k - 1) k _ _ (by omega) e2 e
theorem mrg_setB {base a b : List SetZ} (h0 : stateB base = true) (h1 : stateB a = true) (h2 : stateB b = true) : ∀ s ∈ mrgZ base a b (namesZ base a b), setB s.name s.value = true := by
  intro s hs
  obtain ⟨y, hy, hty⟩ := List.mem_flatMap.1 hs
  obtain ⟨e, hp⟩ := mrgF_mem hty
  have key : ∀ x : List SetZ, stateB x = true → mrgV base a b y = valZ x y → setB s.name s.value = true := by
    intro x hx hv
    rw [e]
    rw [hv] at hp ⊢
    unfold valZ at hp ⊢
    cases hg : getZ x y with
    | none => rw [hg] at hp; simp at hp
    | some t =>
      have := getZ_name hg
      simp only
      rw [← this.1]
      exact state_mem hx this.2
  unfold mrgV at key
  by_cases hc : valZ a y = valZ base y
  · exact key b h2 (by rw [if_pos hc])
  · exact key a h1 (by rw [if_neg hc])
theorem mst_valid {base a b : List SetZ} (h0 : stateB base = true) (h1 : stateB a = true) (h2 : stateB b = true) (h : mstC base a b = 0) : stateB (mstR base a b) = true := by
  unfold mstC mrgC three at h
  unfold mstR mrgR three
  rw [h0, h1, h2] at h ⊢
  simp only [Bool.and_self, if_true] at h ⊢
  split at h
  · next hc =>
    rw [if_pos hc]
    split at h
    · next hl =>
      rw [if_pos hl]
      exact state_of (mrg_sort (namesZ_sort _ _ _)) (mrg_setB h0 h1 h2) hl
    · exact absurd h (by decide)
  · exact absurd h (by decide)
/-- The codes of merging. -/
theorem mst_code {base a b : List SetZ} (h0 : stateB base = true) (h1 : stateB a = true) (h2 : stateB b = true) : (mstC base a b = 6 ↔ confZ base a b ≠ []) := by
  unfold mstC mrgC three
  rw [h0, h1, h2]
  simp only [Bool.and_self, if_true]
  split
  · next hc => rw [hc]; split <;> simp
  · next hc => simp [hc]

end Go.Proofs.YtmpfkmbfbeejhaaDoor

namespace Go.Proofs.YtmpfkmbfbeejhaaDoor
open Go.RowKit
set_option linter.unusedVariables false

/-- The names that are drawn: a to f. -/
def nmN : Nat → ByteArray
  | 0 => ⟨#[97]⟩
  | 1 => ⟨#[98]⟩
  | 2 => ⟨#[99]⟩
  | 3 => ⟨#[100]⟩
  | 4 => ⟨#[101]⟩
  | _ => ⟨#[102]⟩
theorem lt6 {j : Nat} (h : j < 6) : j = 0 ∨ j = 1 ∨ j = 2 ∨ j = 3 ∨ j = 4 ∨ j = 5 := by omega
theorem nmN_less {i j : Nat} (hi : i < 6) (hj : j < 6) : strLess (nmN i) (nmN j) = decide (i < j) := by
  rcases lt6 hi with rfl | rfl | rfl | rfl | rfl | rfl <;> rcases lt6 hj with rfl | rfl | rfl | rfl | rfl | rfl <;> decide +kernel
theorem nmN_name {j : Nat} (hj : j < 6) : nameB (nmN j) = true := by
  rcases lt6 hj with rfl | rfl | rfl | rfl | rfl | rfl <;> decide +kernel
theorem nmN_size {j : Nat} (hj : j < 6) : (nmN j).size = 1 := by
  rcases lt6 hj with rfl | rfl | rfl | rfl | rfl | rfl <;> rfl
/-- A small state: in order, of the six names. -/
def SmS (k : Nat) (s : SetZ) : Prop := ∃ j, j < k ∧ s.name = nmN j ∧ 0 ≤ s.value ∧ s.value ≤ 1000
def Sm (ss : List SetZ) : Prop := SortP ss ∧ ∀ s ∈ ss, SmS 6 s
theorem rise_len : ∀ (a b : Nat) (xs : List Nat), xs.Pairwise (· < ·) → (∀ x ∈ xs, a ≤ x ∧ x < b) → xs.length ≤ b - a
  | a, b, [], _, _ => by simp
  | a, b, x :: r, h, hb => by
    rw [List.pairwise_cons] at h
    have h1 := hb x (by simp)
    have := rise_len (x + 1) b r h.2 fun y hy => ⟨h.1 y hy, (hb y (by simp [hy])).2⟩
    simp only [List.length_cons]
    omega
theorem nmN_code {j : Nat} (hj : j < 6) : ((nmN j).data.getD 0 0).toNat = 97 + j := by
  rcases lt6 hj with rfl | rfl | rfl | rfl | rfl | rfl <;> rfl
theorem Sm.len {ss : List SetZ} (h : Sm ss) : ss.length ≤ 6 := by
  have h1 : (ss.map fun s => (s.name.data.getD 0 0).toNat).Pairwise (· < ·) := by
    rw [List.pairwise_map]
    refine List.Pairwise.imp_of_mem ?_ h.1
    intro s t hs ht hst
    obtain ⟨i, hi, e1, _⟩ := h.2 s hs
    obtain ⟨j, hj, e2, _⟩ := h.2 t ht
    rw [e1, e2, nmN_less hi hj, decide_eq_true_eq] at hst
    rw [e1, e2, nmN_code hi, nmN_code hj]
    omega
  have := rise_len 97 103 _ h1 fun x hx => by
    obtain ⟨s, hs, rfl⟩ := List.mem_map.1 hx
    obtain ⟨i, hi, e1, _⟩ := h.2 s hs
    rw [e1, nmN_code hi]
    omega
  rwa [List.length_map] at this
theorem Sm.state {ss : List SetZ} (h : Sm ss) : stateB ss = true := by
  refine state_of h.1 (fun s hs => ?_) (by have := h.len; omega)
  obtain ⟨i, hi, e1, e2, e3⟩ := h.2 s hs
  unfold setB
  rw [e1, nmN_name hi, Bool.true_and]
  exact withinB_iff.2 ⟨e2, e3⟩
theorem Sm.sorted {ss : List SetZ} (h : Sm ss) : SortedZ ss := sortP_iff.2 h.1
theorem Sm.fine {ss : List SetZ} (h : Sm ss) : ∀ s ∈ ss, s.fine := fun s hs => by
  obtain ⟨i, hi, e1, e2, e3⟩ := h.2 s hs
  refine ⟨?_, by unfold I64; omega⟩
  rw [e1, nmN_size hi]; omega
theorem Sm.nil : Sm [] := ⟨List.Pairwise.nil, by simp⟩
theorem Sm.set {ss : List SetZ} (h : Sm ss) {j : Nat} (hj : j < 6) {v : Int} (h0 : 0 ≤ v) (h1 : v ≤ 1000) : Sm (setZ ss ⟨nmN j, v⟩) :=
  ⟨sort_setZ h.1, fun s hs => by
    rcases mem_setZ hs with rfl | hs
    · exact ⟨j, hj, rfl, h0, h1⟩
    · exact h.2 s hs⟩
theorem Sm.del {ss : List SetZ} (h : Sm ss) (j : Nat) : Sm (ss.take j ++ ss.drop (j + 1)) := by
  have hs : (ss.take j ++ ss.drop (j + 1)).Sublist ss := by
    have : ss.take j ++ ss.drop j = ss := List.take_append_drop _ _
    conv => rhs; rw [← this]
    exact List.Sublist.append_left (List.drop_sublist_drop_left ss (Nat.le_succ j)) _
  exact ⟨h.1.sublist hs, fun s hm => h.2 s (hs.subset hm)⟩
/-- While a state is drawn: names below the k-th. -/
def SmK (k : Nat) (ss : List SetZ) : Prop := SortP ss ∧ ∀ s ∈ ss, SmS k s
theorem SmK.mono {k : Nat} {ss : List SetZ} (h : SmK k ss) : SmK (k + 1) ss := ⟨h.1, fun s hs => by obtain ⟨j, hj, r⟩ := h.2 s hs; exact ⟨j, by omega, r⟩⟩
theorem SmK.snoc {k : Nat} {ss : List SetZ} (h : SmK k ss) (hk : k < 6) {v : Int} (h0 : 0 ≤ v) (h1 : v ≤ 1000) : SmK (k + 1) (ss ++ [⟨nmN k, v⟩]) := by
  refine ⟨?_, fun s hs => ?_⟩
  · unfold SortP
    refine List.pairwise_append.2 ⟨h.1, by simp, fun a ha b hb => ?_⟩
    obtain ⟨j, hj, e, _⟩ := h.2 a ha
    have : b = ⟨nmN k, v⟩ := by simpa using hb
    subst this
    rw [e]
    show strLess (nmN j) (nmN k) = true
    rw [nmN_less (by omega) hk]
    exact decide_eq_true hj
  · rcases List.mem_append.1 hs with hs | hs
    · obtain ⟨j, hj, r⟩ := h.2 s hs; exact ⟨j, by omega, r⟩
    · have : s = ⟨nmN k, v⟩ := by simpa using hs
      subst this
      exact ⟨k, by omega, rfl, h0, h1⟩
theorem SmK.sm {k : Nat} {ss : List SetZ} (h : SmK k ss) (hk : k ≤ 6) : Sm ss := ⟨h.1, fun s hs => by obtain ⟨j, hj, r⟩ := h.2 s hs; exact ⟨j, by omega, r⟩⟩

end Go.Proofs.YtmpfkmbfbeejhaaDoor

namespace Go.Proofs.YtmpfkmbfbeejhaaDoor
open Go.RowKit

/-- From w to w' only blocks from lo on and below hi, and new ones, may have changed. -/
structure Wr (lo hi : Nat) (w w' : World) : Prop where
  os : w'.os = w.os
  tape : w'.tape = w.tape
  output : w'.output = w.output
  size : w.heap.size ≤ w'.heap.size
  block : ∀ k, k < w.heap.size → (k < lo ∨ hi ≤ k) → w'.heap[k]? = w.heap[k]?

theorem Wr.refl (lo hi : Nat) (w : World) : Wr lo hi w w := ⟨rfl, rfl, rfl, Nat.le_refl _, fun _ _ _ => rfl⟩
theorem Wr.trans {lo hi : Nat} {a b c : World} (h : Wr lo hi a b) (k : Wr lo hi b c) : Wr lo hi a c :=
  ⟨k.os.trans h.os, k.tape.trans h.tape, k.output.trans h.output, Nat.le_trans h.size k.size, fun i hi' hr => (k.block i (Nat.lt_of_lt_of_le hi' h.size) hr).trans (h.block i hi' hr)⟩
theorem Wr.mono {lo hi lo' hi' : Nat} {w w' : World} (h : Wr lo hi w w') (h1 : lo' ≤ lo) (h2 : hi ≤ hi') : Wr lo' hi' w w' :=
  ⟨h.os, h.tape, h.output, h.size, fun k hk hr => h.block k hk (by omega)⟩
theorem Wr.of_below {lo hi : Nat} {w w' : World} (h : Below w.heap.size w w') : Wr lo hi w w' := ⟨h.os, h.tape, h.output, h.size, fun k hk _ => h.block k hk⟩
theorem Wr.below {lo hi B : Nat} {w0 w w' : World} (h : Below B w0 w) (hw : Wr lo hi w w') (hB : B ≤ lo) (hz : B ≤ w.heap.size) : Below B w0 w' :=
  h.trans ⟨hw.os, hw.tape, hw.output, hw.size, fun k hk => hw.block k (by omega) (by omega)⟩
theorem Wr.setCell {lo hi b off : Nat} (w : World) (u : Value) (h1 : lo ≤ b) (h2 : b < hi) : Wr lo hi w (w.setCell ⟨b, off, none⟩ u) :=
  ⟨rfl, rfl, rfl, by simp [World.setCell], fun k _ hr => Below.heap_setCell _ _ _ _ (by simp only; omega)⟩
theorem Wr.drewN {lo hi : Nat} {w w' : World} (h : Wr lo hi w w') (n : Nat) : Wr lo hi w (w'.drewN n) := ⟨h.os, h.tape, h.output, h.size, h.block⟩

/-- A slice of elements of 'size' cells that reads as cs, in one writable block between lo and hi. -/
def Fr (w : World) (lo hi : Nat) (e : TypeId) (size : Nat) (A : Option Addr) (n : Nat) (cs : List Value) : Prop :=
  cs.length = n * size ∧ (0 < n → ∃ b off cur, A = some ⟨b, off, none⟩ ∧ lo ≤ b ∧ b < hi ∧ w.heap[b]? = some (.cells cur e (0, 0)) ∧ ∀ j u, cs[j]? = some u → cur[off + j]? = some u)

section
variable {w w' : World} {lo hi : Nat} {e : TypeId} {size : Nat} {A : Option Addr} {n : Nat} {cs : List Value}
theorem Fr.nil : Fr w lo hi e size A 0 [] := ⟨by simp, fun h => absurd h (by omega)⟩
theorem Fr.of_own {base c : Nat} (h : w.ownsRow base e size (.slice A n c) n cs) : Fr w base w.heap.size e size A n cs := by
  refine ⟨h.1, fun hn => ?_⟩
  rcases h.2 with ⟨_, h0⟩ | ⟨g, cap, cur, hv, hb, hh, _, _, _, ht⟩
  · omega
  · have hA : A = some ⟨g, 0, none⟩ := by injection hv
    subst hA
    refine ⟨g, 0, cur, rfl, hb, (Array.getElem?_eq_some_iff.1 hh).1, hh, fun j u hu => ?_⟩
    rw [← ht, List.getElem?_take] at hu
    split at hu
    · simpa using hu
    · cases hu
theorem Fr.rd (h : Fr w lo hi e size A n cs) : Rd w A n size cs := by
  refine ⟨h.1, fun hn => ?_⟩
  obtain ⟨b, off, cur, hA, _, _, hh, hc⟩ := h.2 hn
  exact ⟨b, off, hA, (Array.getElem?_eq_some_iff.1 hh).1, fun j u hu => by rw [cell_of_row w b (off + j) cur e (0, 0) hh]; exact hc j u hu⟩
theorem Fr.mono {lo' hi' : Nat} (h : Fr w lo hi e size A n cs) (h1 : lo' ≤ lo) (h2 : hi ≤ hi') : Fr w lo' hi' e size A n cs :=
  ⟨h.1, fun hn => by
    obtain ⟨b, off, cur, hA, hl, hh, hw, hc⟩ := h.2 hn
    exact ⟨b, off, cur, hA, by omega, by omega, hw, hc⟩⟩
theorem Fr.wr {lo' hi' : Nat} (h : Fr w lo hi e size A n cs) (hw : Wr lo' hi' w w') (hd : hi ≤ lo' ∨ hi' ≤ lo) : Fr w' lo hi e size A n cs :=
  ⟨h.1, fun hn => by
    obtain ⟨b, off, cur, hA, hl, hh, hb, hc⟩ := h.2 hn
    exact ⟨b, off, cur, hA, hl, hh, (hw.block b (Array.getElem?_eq_some_iff.1 hb).1 (by omega)).trans hb, hc⟩⟩
theorem Fr.below {B : Nat} (h : Fr w lo hi e size A n cs) (hb : Below B w w') (hB : hi ≤ B) : Fr w' lo hi e size A n cs :=
  ⟨h.1, fun hn => by
    obtain ⟨b, off, cur, hA, hl, hh, hw, hc⟩ := h.2 hn
    exact ⟨b, off, cur, hA, hl, hh, (hb.block b (by omega)).trans hw, hc⟩⟩
/-- What a store into it wants, and what it leaves. -/
theorem Fr.store {j : Nat} (h : Fr w lo hi e size A n cs) (hj : j < n * size) :
    ∃ b off v, A = some ⟨b, off, none⟩ ∧ lo ≤ b ∧ b < hi ∧ w.cell? ⟨b, off + j, none⟩ = some v ∧ w.frozen? ⟨b, off + j, none⟩ = false ∧ Hid (∀ u, Fr (w.setCell ⟨b, off + j, none⟩ u) lo hi e size A n (cs.set j u)) := by
  have hn : 0 < n := by
    rcases Nat.eq_zero_or_pos n with h0 | h0
    · rw [h0, Nat.zero_mul] at hj; omega
    · exact h0
  obtain ⟨b, off, cur, hA, hl, hh, hb, hc⟩ := h.2 hn
  have hjl : j < cs.length := by rw [h.1]; exact hj
  have hcj := hc j _ (List.getElem?_eq_getElem hjl)
  refine ⟨b, off, cs[j], hA, hl, hh, by rw [cell_of_row w b (off + j) cur e (0, 0) hb]; exact hcj, frozen_of_row w b (off + j) cur e hb, fun u => ⟨by simpa using h.1, fun _ => ?_⟩⟩
  refine ⟨b, off, cur.setIfInBounds (off + j) u, hA, hl, hh, heap_setCell_same w b (off + j) cur e u hb, fun i v hv => ?_⟩
  by_cases hij : i = j
  · subst hij
    rw [List.getElem?_set_self hjl] at hv
    rw [Array.getElem?_setIfInBounds_self_of_lt (Array.getElem?_eq_some_iff.1 hcj).1]
    exact hv
  · rw [List.getElem?_set_ne (by omega)] at hv
    rw [Array.getElem?_setIfInBounds_ne (by omega)]
    exact hc i v hv
end

/-- A []int64 of the call's own. -/
def FrI (w : World) (lo hi : Nat) (e : TypeId) (A : Option Addr) (n : Nat) (xs : List Int) : Prop := Fr w lo hi e 1 A n (cI xs) ∧ ∀ x ∈ xs, I64 x
theorem FrI.rd {w : World} {lo hi : Nat} {e : TypeId} {A : Option Addr} {n : Nat} {xs : List Int} (h : FrI w lo hi e A n xs) : RdI w A n xs := ⟨h.1.rd, h.2⟩
theorem FrI.wr {w w' : World} {lo hi lo' hi' : Nat} {e : TypeId} {A : Option Addr} {n : Nat} {xs : List Int} (h : FrI w lo hi e A n xs) (hw : Wr lo' hi' w w') (hd : hi ≤ lo' ∨ hi' ≤ lo) : FrI w' lo hi e A n xs := ⟨h.1.wr hw hd, h.2⟩
theorem FrI.below {w w' : World} {lo hi B : Nat} {e : TypeId} {A : Option Addr} {n : Nat} {xs : List Int} (h : FrI w lo hi e A n xs) (hb : Below B w w') (hB : hi ≤ B) : FrI w' lo hi e A n xs := ⟨h.1.below hb hB, h.2⟩
theorem FrI.nil {w : World} {lo hi : Nat} {e : TypeId} {A : Option Addr} : FrI w lo hi e A 0 [] := ⟨Fr.nil, by simp⟩
theorem FrI.of_own {w : World} {base c n : Nat} {e : TypeId} {A : Option Addr} {xs : List Int} (h : w.ownsRow base e 1 (.slice A n c) n (cI xs)) (hx : ∀ x ∈ xs, I64 x) : FrI w base w.heap.size e A n xs := ⟨Fr.of_own h, hx⟩
theorem FrI.len {w : World} {lo hi : Nat} {e : TypeId} {A : Option Addr} {n : Nat} {xs : List Int} (h : FrI w lo hi e A n xs) : xs.length = n := by simpa [cI] using h.1.1

/-- The numbers from k on. -/
def seqZ (k : Int) : Nat → List Int
  | 0 => []
  | n + 1 => seqZ k n ++ [k + n]
theorem seqZ_len (k : Int) (n : Nat) : (seqZ k n).length = n := by
  induction n with
  | zero => rfl
  | succ n ih => simp [seqZ, ih]
theorem seqZ_at (k : Int) {n i : Nat} (h : i < n) : (seqZ k n)[i]? = some (k + i) := by
  induction n with
  | zero => omega
  | succ n ih =>
    rw [seqZ, List.getElem?_append]
    rw [seqZ_len]
    split
    · exact ih (by omega)
    · have : i = n := by omega
      subst this
      simp
theorem seqZ_mem {k x : Int} {n : Nat} (h : x ∈ seqZ k n) : k ≤ x ∧ x < k + n := by
  induction n with
  | zero => simp [seqZ] at h
  | succ n ih =>
    rw [seqZ, List.mem_append] at h
    rcases h with h | h
    · have := ih h; omega
    · simp at h; omega

theorem app1_gen {P : Program} {w : World} {ops : Array Oper} {rest : List Oper} {o : Oper} {a : Act} {Q : Exit → Act → World → Prop} (hgd : o.guard = none) (s x : Operand) (t : TypeId)
    (ho : o.op = .call { callee := .builtin .append, args := #[s, x], argTypes := #[t, t] })
    (base : Nat) (e : TypeId) (z : Value) (bytes : Nat) (ht : P.underlying t = some (.slice e)) (hinfo : (P.info? e).map (fun i => (i.zero, i.size, i.bytes)) = some (some z, 1, bytes)) (hzs : z.cells.size = 1) (hby : bytes ≤ 64)
    (v : Value) (n : Nat) (cs : List Value) (u : Value) (hu : u.oneCell' = true) (hs : a.eval s = v) (hown : w.ownsRow base e 1 v n cs) (hx : a.eval x = .slice (some ⟨w.heap.size, 0, none⟩) 1 1)
    (hn : n ≤ 1099511627776) (hbase : base ≤ w.heap.size)
    (h : ∀ v' w', w'.ownsRow base e 1 v' (n + 1) (cs ++ [u]) → Below base w w' → w.heap.size ≤ w'.heap.size → wpList P ops Q rest (a.put o.dst v') w') : wpList P ops Q (o :: rest) a (w.alloc (.cells #[u] e)) := by
  obtain ⟨i, hi, hz0, hz1, hz2⟩ := info_parts hinfo
  refine wpList_append_own _ hgd s x t ho base e i z 1 bytes ht hi hz0 hz1 hz2 hzs (by decide) v n cs hs (hown.alloc _) ⟨w.heap.size, 0, none⟩ 1 1 [u] hx rfl (cell_one_new _ _ _) ?_ ?_ ?_ ?_ ?_
  · intro y hy; simp at hy; subst hy; exact hu
  · unfold maxLen; omega
  · have : (n + 1) * bytes ≤ (n + 1) * 64 := Nat.mul_le_mul_left _ hby
    omega
  · simp; omega
  · intro v' w' h1 h2 _
    refine h v' w' h1 (((Below.refl base w).alloc hbase _).grown h2 (by simp; omega) (fun g hg => (hown.lt g hg).1)) ?_
    have := h2.size
    simp at this
    omega

end Go.Proofs.YtmpfkmbfbeejhaaDoor

namespace Go.Proofs.YtmpfkmbfbeejhaaDoor
open Go.RowKit
set_option linter.unusedVariables false

def cY (bs : List Int) : List Value := bs.map (Value.int .u8)
/-- A []byte that reads as bs. -/
def RdY (w : World) (A : Option Addr) (n : Nat) (bs : List Int) : Prop := Rd w A n 1 (cY bs) ∧ ∀ x ∈ bs, 0 ≤ x ∧ x ≤ 255
theorem RdY.len {w : World} {A : Option Addr} {n : Nat} {bs : List Int} (h : RdY w A n bs) : bs.length = n := by simpa [cY] using h.1.1
theorem RdY.below {w w' : World} {A : Option Addr} {n B : Nat} {bs : List Int} (h : RdY w A n bs) (hb : Below B w w') (hB : w.heap.size ≤ B) : RdY w' A n bs := ⟨h.1.below hb hB, h.2⟩
/-- A source at block g, at place a of the bytes .slice A n c. -/
structure Src (w : World) (g : Nat) (A : Option Addr) (n c a : Nat) : Prop where
  at_ : ∃ sd : Int, w.heap[g]? = some (.cells #[.slice A n c, .int .i64 a, .int .u64 sd] 87 (0, 0))
  code : ∀ k, k < n → ∃ b off v, A = some ⟨b, off, none⟩ ∧ b < g ∧ w.cell? ⟨b, off + k, none⟩ = some (.int .u8 v) ∧ 0 ≤ v ∧ v ≤ 255
  small : n ≤ 1048576
theorem Src.lt {w : World} {g n c a : Nat} {A : Option Addr} (h : Src w g A n c a) : g < w.heap.size := by
  obtain ⟨sd, hs⟩ := h.at_
  exact (Array.getElem?_eq_some_iff.1 hs).1
theorem Src.keep {w w' : World} {g n c a : Nat} {A : Option Addr} (h : Src w g A n c a) (hk : ∀ k, k ≤ g → w'.heap[k]? = w.heap[k]?) : Src w' g A n c a := by
  obtain ⟨sd, hs⟩ := h.at_
  refine ⟨⟨sd, by rw [hk g (Nat.le_refl _)]; exact hs⟩, fun k hkn => ?_, h.small⟩
  obtain ⟨b, off, v, h1, h2, h3, h4⟩ := h.code k hkn
  refine ⟨b, off, v, h1, h2, ?_, h4⟩
  rw [← h3]
  simp only [World.cell?, hk b (by omega)]
theorem Src.below {w w' : World} {g n c a B : Nat} {A : Option Addr} (h : Src w g A n c a) (hb : Below B w w') (hB : g < B) : Src w' g A n c a := h.keep fun k hk => hb.block k (by omega)
theorem Src.wr {w w' : World} {g n c a lo hi : Nat} {A : Option Addr} (h : Src w g A n c a) (hw : Wr lo hi w w') (hl : g < lo) : Src w' g A n c a := h.keep fun k hk => hw.block k (by have := h.lt; omega) (by omega)
/-- The cells of a source. -/
theorem Src.cells {w : World} {g n c a : Nat} {A : Option Addr} (h : Src w g A n c a) : ∃ sd : Int, w.cell? ⟨g, 0, none⟩ = some (.slice A n c) ∧ w.cell? ⟨g, 1, none⟩ = some (.int .i64 a) ∧ w.cell? ⟨g, 2, none⟩ = some (.int .u64 sd) ∧ w.frozen? ⟨g, 1, none⟩ = false ∧ w.frozen? ⟨g, 2, none⟩ = false ∧
    Hid (∀ a' : Nat, Src (w.setCell ⟨g, 1, none⟩ (.int .i64 a')) g A n c a') ∧ Hid (∀ sd' : Int, Src (w.setCell ⟨g, 2, none⟩ (.int .u64 sd')) g A n c a) := by
  obtain ⟨sd, hs⟩ := h.at_
  have code : ∀ (off' : Nat) (u : Value) k, k < n → ∃ b off v, A = some ⟨b, off, none⟩ ∧ b < g ∧ (w.setCell ⟨g, off', none⟩ u).cell? ⟨b, off + k, none⟩ = some (.int .u8 v) ∧ 0 ≤ v ∧ v ≤ 255 := fun off' u k hk => by
    obtain ⟨b, off, v, h1, h2, h3, h4⟩ := h.code k hk
    refine ⟨b, off, v, h1, h2, ?_, h4⟩
    rw [World.cell?_setCell_other _ _ _ _ (by intro e; simp only [Addr.mk.injEq] at e; omega)]
    exact h3
  have f1 := heap_setCell_same w g 1 #[.slice A n c, .int .i64 a, .int .u64 sd] 87
  have f2 := heap_setCell_same w g 2 #[.slice A n c, .int .i64 a, .int .u64 sd] 87
  refine ⟨sd, ?_, ?_, ?_, ?_, ?_, fun a' => ⟨⟨sd, by simpa using f1 _ hs⟩, code 1 _, h.small⟩, fun sd' => ⟨⟨sd', by simpa using f2 _ hs⟩, code 2 _, h.small⟩⟩
  · exact (cell_of_row w g 0 _ _ (0, 0) hs).trans rfl
  · exact (cell_of_row w g 1 _ _ (0, 0) hs).trans rfl
  · exact (cell_of_row w g 2 _ _ (0, 0) hs).trans rfl
  · exact frozen_of_row w g 1 _ _ hs
  · exact frozen_of_row w g 2 _ _ hs

theorem Src.next {w : World} {g n c a : Nat} {A : Option Addr} (h : Src w g A n c a) (k : Nat) (sd : Int) : Src (((w.drewN k).setCell ⟨g, 1, none⟩ (.int .i64 ((a + 1 : Nat) : Int))).setCell ⟨g, 2, none⟩ (.int .u64 sd)) g A n c (a + 1) ∧
    Wr g (g + 1) w (((w.drewN k).setCell ⟨g, 1, none⟩ (.int .i64 ((a + 1 : Nat) : Int))).setCell ⟨g, 2, none⟩ (.int .u64 sd)) := by
  have h0 : Src (w.drewN k) g A n c a := h.keep fun _ _ => rfl
  obtain ⟨_, _, _, _, _, _, K1, _⟩ := h0.cells
  obtain ⟨_, _, _, _, _, _, _, K2⟩ := (K1.out (a + 1)).cells
  exact ⟨K2.out sd, (((Wr.refl g (g + 1) w).drewN k).trans (Wr.setCell _ _ (Nat.le_refl _) (Nat.lt_succ_self _))).trans (Wr.setCell _ _ (Nat.le_refl _) (Nat.lt_succ_self _))⟩
theorem u64_and (x : Int) : 0 ≤ wrap64 (bits .and .u64 x 255) ∧ wrap64 (bits .and .u64 x 255) ≤ 255 := by
  have h : (BitVec.ofInt 64 x &&& BitVec.ofInt 64 255).toNat ≤ 255 := by
    rw [BitVec.toNat_and]
    exact Nat.le_trans Nat.and_le_right (by decide)
  have e : bits .and .u64 x 255 = IntKind.u64.wrap ((BitVec.ofInt 64 x &&& BitVec.ofInt 64 255).toNat : Int) := rfl
  rw [e]
  generalize (BitVec.ofInt 64 x &&& BitVec.ofInt 64 255).toNat = y at h
  have e2 : IntKind.u64.wrap (y : Int) = y := by simp [IntKind.wrap, IntKind.bits, IntKind.signed]; omega
  rw [e2]
  unfold wrap64
  omega

set_option maxHeartbeats 2000000 in
theorem next_calls (g n c a : Nat) (A : Option Addr) (w : World) (h : Src w g A n c a) (ha : a ≤ 1099511627776) :
    Calls Tryd.prog 72 #[.pointer (some ⟨g, 0, none⟩)] w fun e w' => ∃ x : Int, e = .returned (.int .i64 x) ∧ 0 ≤ x ∧ x ≤ 255 ∧ Src w' g A n c (a + 1) ∧ Wr g (g + 1) w w' := by
  have hn := h.small
  have HS := hide h
  obtain ⟨sd, c0, c1, c2, f1, f2, K1, K2⟩ := h.cells
  clear h K1 K2
  by_cases hlt : a < n
  · obtain ⟨b, off, v, rfl, hb, hc, hv1, hv2⟩ := HS.out.code a hlt
    have i0 : (a : Int) < (n : Int) := by omega
    have i1 : (0 : Int) ≤ (a : Int) := by omega
    have i2 : (a : Int) + 1 ≤ (n : Int) := by omega
    go_enter Tryd.func72, Tryd.ntmps72
    go_wp2
    go_quiet (fail)
    obtain ⟨nq1, hnq⟩ : ∃ q, q = nq := ⟨_, rfl⟩
    rw [← hnq]
    clear hnq
    go_wp2
    go_quiet (fail)
    go_wp2
    generalize (IntKind.u64.wrap (IntKind.u64.wrap (IntKind.u64.wrap (sd * 6364136223846793005) + v) + 1442695040888963407)) = sd2
    obtain ⟨wz, hwz⟩ : ∃ wz, wz = ((w.drewN (nq1 + nq)).setCell ⟨g, 1, none⟩ (.int .i64 ((a : Int) + 1))).setCell ⟨g, 2, none⟩ (.int .u64 sd2) := ⟨_, rfl⟩
    have N2 := HS.out.next (nq1 + nq) sd2
    rw [show ((a + 1 : Nat) : Int) = (a : Int) + 1 by omega, ← hwz] at N2
    rw [← hwz]
    have N3 := hide N2
    obtain ⟨sd3, d0, d1, d2, _, _, _, _⟩ := N2.1.cells
    rw [show ((a + 1 : Nat) : Int) = (a : Int) + 1 by omega] at d1
    clear hwz N2 c0 c1 c2 f1 f2
    go_quiet (fail)
    go_wp2
    go_ret
    exact ⟨v, rfl, hv1, hv2, N3.out.1.keep fun _ _ => rfl, N3.out.2.drewN _⟩
  · have i2 : ¬ (a : Int) + 1 ≤ (n : Int) := by omega
    go_enter Tryd.func72, Tryd.ntmps72
    go_wp2
    go_quiet (fail)
    go_wp2
    generalize (IntKind.u64.wrap (IntKind.u64.wrap (IntKind.u64.wrap (sd * 6364136223846793005)) + 1442695040888963407)) = sd2
    obtain ⟨wz, hwz⟩ : ∃ wz, wz = ((w.drewN (nq)).setCell ⟨g, 1, none⟩ (.int .i64 ((a : Int) + 1))).setCell ⟨g, 2, none⟩ (.int .u64 sd2) := ⟨_, rfl⟩
    have N2 := HS.out.next (nq) sd2
    rw [show ((a + 1 : Nat) : Int) = (a : Int) + 1 by omega, ← hwz] at N2
    rw [← hwz]
    have N3 := hide N2
    obtain ⟨sd3, d0, d1, d2, _, _, _, _⟩ := N2.1.cells
    rw [show ((a + 1 : Nat) : Int) = (a : Int) + 1 by omega] at d1
    clear hwz N2 c0 c1 c2 f1 f2
    go_quiet (fail)
    go_wp2
    go_ret
    exact ⟨_, rfl, (u64_and _).1, (u64_and _).2, N3.out.1.keep fun _ _ => rfl, N3.out.2.drewN _⟩


/-- What a draw below n leaves. -/
def PickPost (g : Nat) (A : Option Addr) (n c a : Nat) (m : Int) (w : World) (e : Ending) (w' : World) : Prop :=
  ∃ (x : Nat) (a' : Nat), e = .returned (.int .i64 (x : Int)) ∧ ((x : Int) < m ∨ x = 0) ∧ a' ≤ a + 2 ∧ Src w' g A n c a' ∧ Wr g (g + 1) w w'

theorem rem_nat {x m : Int} (h0 : 0 ≤ x) (hm : ¬ m ≤ 1) : ∃ k : Nat, (k : Int) = x % m ∧ (k : Int) < m := by
  have h1 := Int.emod_nonneg x (show m ≠ 0 by omega)
  have h2 := Int.emod_lt_of_pos x (show 0 < m by omega)
  exact ⟨(x % m).toNat, by omega, by omega⟩

set_option maxHeartbeats 2000000 in
theorem pick_calls (g n c a : Nat) (A : Option Addr) (m : Int) (w : World) (h : Src w g A n c a) (ha : a ≤ 549755813888) (hm : I64 m) :
    Calls Tryd.prog 48 #[.pointer (some ⟨g, 0, none⟩), .int .i64 m] w (PickPost g A n c a m w) := by
  have HS := hide h
  by_cases h1 : m ≤ 1
  · clear h
    go_enter Tryd.func48, Tryd.ntmps48
    go_wp2
    go_ret
    exact ⟨0, a, rfl, .inr rfl, by omega, HS.out, Wr.refl _ _ _⟩
  · have N1 := hide (next_calls g n c a A w h (by omega))
    clear h
    have hm0 : m ≠ 0 := by omega
    go_enter Tryd.func48, Tryd.ntmps48
    go_wp2_with fail
    refine N1.out.mono ?_
    rintro e w1 ⟨x, rfl, hx1, hx2, s1, r1⟩
    have HS1 := hide (And.intro s1 r1)
    clear s1 r1 N1
    by_cases h2 : 200 < m
    · have N2 := hide (next_calls g n c (a + 1) A w1 HS1.out.1 (by omega))
      go_wp2_with fail
      refine N2.out.mono ?_
      rintro e w2 ⟨y, rfl, hy1, hy2, s2, r2⟩
      have HS2 := hide (And.intro s2 (HS1.out.2.trans r2))
      clear s2 r2 N2
      obtain ⟨k, hk, hkm⟩ := rem_nat (m := m) (show 0 ≤ x * 256 + y by omega) (by omega)
      have HK := hide (And.intro hk hkm)
      clear hk hkm
      go_wp2
      go_ret
      exact ⟨k, a + 2, by rw [HK.out.1]; rfl, .inl HK.out.2, Nat.le_refl _, HS2.out.1, HS2.out.2⟩
    · obtain ⟨k, hk, hkm⟩ := rem_nat (m := m) hx1 (by omega)
      have HK := hide (And.intro hk hkm)
      clear hk hkm
      go_wp2
      all_goals go_ret
      all_goals exact ⟨k, a + 1, by rw [HK.out.1]; rfl, .inl HK.out.2, by omega, HS1.out.1, HS1.out.2⟩

theorem one_calls (g n c a : Nat) (A : Option Addr) (m : Int) (w : World) (h : Src w g A n c a) (ha : a ≤ 549755813888) (hm : I64 m) :
    Calls Tryd.prog 50 #[.pointer (some ⟨g, 0, none⟩), .int .i64 m] w fun e w' => ∃ (b : Bool) (a' : Nat), e = .returned (.bool b) ∧ a' ≤ a + 2 ∧ Src w' g A n c a' ∧ Wr g (g + 1) w w' := by
  have P := hide (pick_calls g n c a A m w h ha hm)
  clear h
  go_enter Tryd.func50, Tryd.ntmps50
  go_wp2_with fail
  refine P.out.mono ?_
  rintro e w1 ⟨x, a', rfl, hx, ha', s1, r1⟩
  have HS := hide (And.intro ha' (And.intro s1 r1))
  clear s1 r1 ha' hx
  go_wp2
  go_ret
  exact ⟨_, a', rfl, HS.out.1, HS.out.2.1, HS.out.2.2⟩


/-- A source is made. -/
theorem l00From_calls (n c : Nat) (A : Option Addr) (bs : List Int) (w : World) (h : RdY w A n bs) (hn : n ≤ 1048576) :
    Calls Tryd.prog 20 #[.slice A n c] w fun e w' => e = .returned (.pointer (some ⟨w.heap.size, 0, none⟩)) ∧ Src w' w.heap.size A n c 0 ∧ Below w.heap.size w w' ∧ w'.heap.size = w.heap.size + 1 := by
  have HY := hide h
  clear h
  go_enter Tryd.func20, Tryd.ntmps20
  go_wp2
  go_ret
  refine ⟨rfl, ⟨⟨0, heap_alloc_new w _⟩, fun k hk => ?_, hn⟩, (Below.refl _ _).alloc (Nat.le_refl _) _, by simp⟩
  obtain ⟨b, off, u, hA, hb, hu, hc⟩ := HY.out.1.at1 hk
  have hk2 : k < bs.length := by rw [HY.out.len]; exact hk
  have hx := List.getElem?_eq_getElem hk2
  simp only [cY, List.getElem?_map, hx, Option.map_some, Option.some.injEq] at hu
  subst hu
  have := HY.out.2 _ (List.getElem_mem hk2)
  exact ⟨b, off, _, hA, hb, (World.cell?_alloc_lt w _ _ hb).trans hc, this.1, this.2⟩

end Go.Proofs.YtmpfkmbfbeejhaaDoor

namespace Go.Proofs.YtmpfkmbfbeejhaaDoor
open Go.RowKit
set_option linter.unusedVariables false

/-- A kind of element: its cells, how many, and what binds its parts. -/
structure Kind (α : Type) where
  c : α → List Value
  size : Nat
  fine : α → Prop
  len : ∀ x, (c x).length = size
  one : ∀ x, ∀ u ∈ c x, u.oneCell' = true

section
variable {α : Type} {K : Kind α}
def cK (K : Kind α) (xs : List α) : List Value := (xs.map K.c).flatten
theorem mapc_len (xs : List α) : ∀ x ∈ xs.map K.c, x.length = K.size := by
  intro x hx
  obtain ⟨s, _, rfl⟩ := List.mem_map.1 hx
  exact K.len s
theorem cK_len (xs : List α) : (cK K xs).length = xs.length * K.size := by
  unfold cK
  rw [flatten_len (mapc_len xs), List.length_map]
theorem cK_snoc (xs : List α) (x : α) : cK K (xs ++ [x]) = cK K xs ++ K.c x := by simp [cK]
theorem cK_append (xs ys : List α) : cK K (xs ++ ys) = cK K xs ++ cK K ys := by simp [cK]
theorem cK_nil : cK K ([] : List α) = [] := rfl
theorem cK_one {xs : List α} : ∀ u ∈ cK K xs, u.oneCell' = true := by
  intro u hu
  obtain ⟨l, hl, hu⟩ := List.mem_flatten.1 hu
  obtain ⟨x, _, rfl⟩ := List.mem_map.1 hl
  exact K.one x u hu
theorem cK_take_snoc {xs : List α} {k : Nat} {x : α} (h : xs[k]? = some x) : cK K (xs.take (k + 1)) = cK K (xs.take k) ++ K.c x := by
  rw [take_snoc h, cK_snoc]

/-- A slice that reads as xs. -/
def RdK (K : Kind α) (w : World) (A : Option Addr) (n : Nat) (xs : List α) : Prop := Rd w A n K.size (cK K xs) ∧ xs.length = n ∧ ∀ x ∈ xs, K.fine x
/-- A slice of the call's own that reads as xs. -/
def FrK (K : Kind α) (w : World) (lo hi : Nat) (e : TypeId) (A : Option Addr) (n : Nat) (xs : List α) : Prop := Fr w lo hi e K.size A n (cK K xs) ∧ xs.length = n ∧ ∀ x ∈ xs, K.fine x

variable {w w' : World} {lo hi : Nat} {e : TypeId} {A : Option Addr} {n : Nat} {xs : List α}
theorem RdK.len (h : RdK K w A n xs) : xs.length = n := h.2.1
theorem RdK.nil : RdK K w A 0 [] := ⟨by simpa [cK] using Rd.nil, rfl, by simp⟩
theorem RdK.below {B : Nat} (h : RdK K w A n xs) (hb : Below B w w') (hB : w.heap.size ≤ B) : RdK K w' A n xs := ⟨h.1.below hb hB, h.2⟩
theorem RdK.drewN (h : RdK K w A n xs) (k : Nat) : RdK K (w.drewN k) A n xs := h
theorem RdK.of_own {base c : Nat} (h : w.ownsRow base e K.size (.slice A n c) n (cK K xs)) (hl : xs.length = n) (hx : ∀ x ∈ xs, K.fine x) : RdK K w A n xs := ⟨Rd.of_own h, hl, hx⟩
theorem RdK.atK {k : Nat} (h : RdK K w A n xs) (hk : k < n) :
    ∃ b off x, A = some ⟨b, off, none⟩ ∧ b < w.heap.size ∧ xs[k]? = some x ∧ K.fine x ∧ ∀ j u, (K.c x)[j]? = some u → w.cell? ⟨b, off + (k * K.size + j), none⟩ = some u := by
  obtain ⟨b, off, r, e, hb, hr, hc⟩ := Rd.row (rows := xs.map K.c) h.1 (mapc_len xs) hk (by rw [List.length_map, h.2.1])
  have hkl : k < xs.length := by rw [h.2.1]; exact hk
  have hx := List.getElem?_eq_getElem hkl
  rw [List.getElem?_map, hx] at hr
  simp only [Option.map_some, Option.some.injEq] at hr
  subst hr
  exact ⟨b, off, _, e, hb, hx, h.2.2 _ (List.getElem_mem hkl), hc⟩
theorem FrK.nil : FrK K w lo hi e A 0 [] := ⟨by simpa [cK] using Fr.nil, rfl, by simp⟩
theorem FrK.rd (h : FrK K w lo hi e A n xs) : RdK K w A n xs := ⟨h.1.rd, h.2⟩
theorem FrK.below {B : Nat} (h : FrK K w lo hi e A n xs) (hb : Below B w w') (hB : hi ≤ B) : FrK K w' lo hi e A n xs := ⟨h.1.below hb hB, h.2⟩
theorem FrK.wr {lo' hi' : Nat} (h : FrK K w lo hi e A n xs) (hw : Wr lo' hi' w w') (hd : hi ≤ lo' ∨ hi' ≤ lo) : FrK K w' lo hi e A n xs := ⟨h.1.wr hw hd, h.2⟩
theorem FrK.mono {lo' hi' : Nat} (h : FrK K w lo hi e A n xs) (h1 : lo' ≤ lo) (h2 : hi ≤ hi') : FrK K w lo' hi' e A n xs := ⟨h.1.mono h1 h2, h.2⟩
theorem FrK.of_own {base c : Nat} (h : w.ownsRow base e K.size (.slice A n c) n (cK K xs)) (hl : xs.length = n) (hx : ∀ x ∈ xs, K.fine x) : FrK K w base w.heap.size e A n xs := ⟨Fr.of_own h, hl, hx⟩
end

/-! ### stores into a row whose place is known -/
section
variable {w : World} {lo hi : Nat} {e : TypeId} {size : Nat} {b off n : Nat} {cs : List Value}
theorem Fr.put {j : Nat} (h : Fr w lo hi e size (some ⟨b, off, none⟩) n cs) (hj : j < n * size) :
    ∃ v, w.cell? ⟨b, off + j, none⟩ = some v ∧ w.frozen? ⟨b, off + j, none⟩ = false ∧ lo ≤ b ∧ b < hi ∧ Hid (∀ u, Fr (w.setCell ⟨b, off + j, none⟩ u) lo hi e size (some ⟨b, off, none⟩) n (cs.set j u)) := by
  obtain ⟨b', off', v, hA, hl, hh, h1, h2, h3⟩ := h.store hj
  injection hA with hA
  injection hA with hb ho
  subst hb ho
  exact ⟨v, h1, h2, hl, hh, h3⟩
theorem Fr.addr {A : Option Addr} (h : Fr w lo hi e size A n cs) (hn : 0 < n) : ∃ b off, A = some ⟨b, off, none⟩ := by
  obtain ⟨b, off, _, hA, _⟩ := h.2 hn
  exact ⟨b, off, hA⟩
end

/-! ### appending -/
section
variable {α : Type} (K : Kind α)
variable {P : Program} {w : World} {ops : Array Oper} {rest : List Oper} {o : Oper} {a : Act} {Q : Exit → Act → World → Prop}
theorem appK_gen (hgd : o.guard = none) (s x : Operand) (t : TypeId)
    (ho : o.op = .call { callee := .builtin .append, args := #[s, x], argTypes := #[t, t] })
    (base : Nat) (e : TypeId) (z : Value) (bytes : Nat) (ht : P.underlying t = some (.slice e)) (hinfo : (P.info? e).map (fun i => (i.zero, i.size, i.bytes)) = some (some z, K.size, bytes)) (hzs : z.cells.size = K.size) (hsz : 0 < K.size) (hby : bytes ≤ 64)
    (v : Value) (n : Nat) (xs : List α) (u : α) (hs : a.eval s = v) (hown : w.ownsRow base e K.size v n (cK K xs)) (hx : a.eval x = .slice (some ⟨w.heap.size, 0, none⟩) 1 1)
    (hn : n ≤ 1099511627776) (hbase : base ≤ w.heap.size)
    (h : ∀ v' w', w'.ownsRow base e K.size v' (n + 1) (cK K (xs ++ [u])) → Below base w w' → w.heap.size ≤ w'.heap.size → wpList P ops Q rest (a.put o.dst v') w') : wpList P ops Q (o :: rest) a (w.alloc (.cells (K.c u).toArray e)) := by
  obtain ⟨i, hi, hz0, hz1, hz2⟩ := info_parts hinfo
  refine wpList_append_own _ hgd s x t ho base e i z K.size bytes ht hi hz0 hz1 hz2 hzs hsz v n (cK K xs) hs (hown.alloc _) ⟨w.heap.size, 0, none⟩ 1 1 (K.c u) hx (by rw [K.len]; omega) ?_ (K.one u) ?_ ?_ ?_ ?_
  · intro j y hy
    rw [Addr.add_lit, cell_of_row _ w.heap.size (0 + j) (K.c u).toArray e (0, 0) (heap_alloc_new w _)]
    simpa using hy
  · unfold maxLen; omega
  · have : (n + 1) * bytes ≤ (n + 1) * 64 := Nat.mul_le_mul_left _ hby
    omega
  · simp; omega
  · intro v' w' h1 h2 _
    refine h v' w' (by rw [cK_snoc]; exact h1) (((Below.refl base w).alloc hbase _).grown h2 (by simp; omega) (fun g hg => (hown.lt g hg).1)) ?_
    have := h2.size
    simp at this
    omega

theorem run_append_own_nil (base : Nat) (t ty e : TypeId) (i : TypeInfo) (size c : Nat) (ht : P.underlying t = some (.slice e)) (hi : P.info? e = some i)
    (v : Value) (n : Nat) (xs : List Value) (hown : w.ownsRow base e size v n xs) :
    (Builtin.append_ #[t, t] ty #[v, .slice none 0 c]).run P w = .ok v w := by
  rcases hown.2 with ⟨rfl, rfl⟩ | ⟨g, cap, cur, rfl, _, _, hnc, _⟩
  · simp [Builtin.append_, run_underlying ht, sizeOf, typeInfo, hi, Builtin.lenOf, Builtin.firstCells]
  · simp [Builtin.append_, run_underlying ht, sizeOf, typeInfo, hi, Builtin.lenOf, Builtin.firstCells, hnc, storeCells]

theorem wpList_append_own_nil (hgd : o.guard = none) (s x : Operand) (t : TypeId)
    (ho : o.op = .call { callee := .builtin .append, args := #[s, x], argTypes := #[t, t] })
    (base : Nat) (e : TypeId) (i : TypeInfo) (size c : Nat) (ht : P.underlying t = some (.slice e)) (hi : P.info? e = some i)
    (v : Value) (n : Nat) (xs : List Value) (hs : a.eval s = v) (hown : w.ownsRow base e size v n xs) (hx : a.eval x = .slice none 0 c)
    (h : wpList P ops Q rest (a.put o.dst v) w) : wpList P ops Q (o :: rest) a w := by
  refine wpList_plain hgd fun K hK => ?_
  have hrun := run_append_own_nil (P := P) (w := w) base t o.type e i size c ht hi v n xs hown
  unfold Oper.wp
  simp [execOp, ho, resolve, invoke, builtin, hs, hx, hrun, Result.andThen]
  exact hK _ _ h

/-- Appending a whole slice, whatever it lies in. -/
theorem appKs_gen (hgd : o.guard = none) (s x : Operand) (t : TypeId)
    (ho : o.op = .call { callee := .builtin .append, args := #[s, x], argTypes := #[t, t] })
    (base : Nat) (e : TypeId) (z : Value) (bytes : Nat) (ht : P.underlying t = some (.slice e)) (hinfo : (P.info? e).map (fun i => (i.zero, i.size, i.bytes)) = some (some z, K.size, bytes)) (hzs : z.cells.size = K.size) (hsz : 0 < K.size) (hby : bytes ≤ 64)
    (v : Value) (n : Nat) (xs : List α) (hs : a.eval s = v) (hown : w.ownsRow base e K.size v n (cK K xs))
    (Ax : Option Addr) (m cx : Nat) (ys : List α) (hx : a.eval x = .slice Ax m cx) (hy : Rd w Ax m K.size (cK K ys))
    (hn : n + m ≤ 1099511627776) (hbase : base ≤ w.heap.size)
    (h : ∀ v' w', w'.ownsRow base e K.size v' (n + m) (cK K (xs ++ ys)) → Below base w w' → w.heap.size ≤ w'.heap.size → wpList P ops Q rest (a.put o.dst v') w') : wpList P ops Q (o :: rest) a w := by
  obtain ⟨i, hi, hz0, hz1, hz2⟩ := info_parts hinfo
  have hb : (n + m) * bytes ≤ 140737488355328 := by
    have : (n + m) * bytes ≤ (n + m) * 64 := Nat.mul_le_mul_left _ hby
    omega
  have hdone : ∀ v' w', w'.ownsRow base e K.size v' (n + m) (cK K xs ++ cK K ys) → w.grownBy w' v.ownBlock → (v' = .slice none 0 0 ↔ v = .slice none 0 0 ∧ m = 0) → wpList P ops Q rest (a.put o.dst v') w' := fun v' w' h1 h2 _ =>
    h v' w' (by rw [cK_append]; exact h1) ((Below.refl base w).grown h2 hbase (fun g hg => (hown.lt g hg).1)) h2.size
  cases Ax with
  | none =>
    have hm : m = 0 := by
      rcases Nat.eq_zero_or_pos m with h0 | h0
      · exact h0
      · obtain ⟨_, _, hA, _⟩ := hy.2 h0
        cases hA
    subst hm
    refine wpList_append_own_nil hgd s x t ho base e i K.size cx ht hi v n _ hs hown hx (h v w ?_ (Below.refl _ _) (Nat.le_refl _))
    have h0 : cK K ys = [] := by
      have := hy.1
      rw [Nat.zero_mul] at this
      exact List.eq_nil_of_length_eq_zero this
    rw [cK_append, h0, List.append_nil]
    exact hown
  | some ad =>
    refine wpList_append_own w hgd s x t ho base e i z K.size bytes ht hi hz0 hz1 hz2 hzs hsz v n (cK K xs) hs hown ad m cx (cK K ys) hx hy.1 ?_ (fun u hu => cK_one u hu) (by unfold maxLen; omega) hb hbase hdone
    intro j u hu
    rcases Nat.eq_zero_or_pos m with h0 | h0
    · subst h0
      have := (List.getElem?_eq_some_iff.1 hu).1
      rw [hy.1] at this
      omega
    · obtain ⟨b, off, hA, _, hc⟩ := hy.2 h0
      injection hA with hA
      subst hA
      rw [Addr.add_lit]
      exact hc j u hu
end

/-! ### kinds -/
def kB : Kind ByteArray := ⟨fun s => [.string s], 1, fun s => s.size ≤ 9223372036854775807, fun _ => rfl, by intro x u hu; simp at hu; subst hu; rfl⟩
def kI : Kind Int := ⟨fun x => [.int .i64 x], 1, I64, fun _ => rfl, by intro x u hu; simp at hu; subst hu; rfl⟩
theorem cK_kI (xs : List Int) : cK kI xs = cI xs := by
  induction xs with
  | nil => rfl
  | cons x xs ih =>
    have e1 : cK kI (x :: xs) = .int .i64 x :: cK kI xs := rfl
    have e2 : cI (x :: xs) = .int .i64 x :: cI xs := rfl
    rw [e1, e2, ih]
theorem cK_kB (xs : List ByteArray) : cK kB xs = xs.map Value.string := by
  induction xs with
  | nil => rfl
  | cons x xs ih =>
    have e1 : cK kB (x :: xs) = .string x :: cK kB xs := rfl
    rw [e1, List.map_cons, ih]
/-- A []string that reads as xs. -/
abbrev RdB := RdK kB
abbrev FrB := FrK kB
theorem RdK.atB {w : World} {A : Option Addr} {n : Nat} {xs : List ByteArray} {k : Nat} (h : RdK kB w A n xs) (hk : k < n) :
    ∃ b off x, A = some ⟨b, off, none⟩ ∧ b < w.heap.size ∧ Hid (xs[k]? = some x) ∧ w.cell? ⟨b, off + k, none⟩ = some (.string x) ∧ x.size ≤ 9223372036854775807 := by
  obtain ⟨b, off, x, hA, hb, hx, hf, hc⟩ := h.atK hk
  have h0 := hc 0 _ rfl
  have e : off + (k * kB.size + 0) = off + k := by show off + (k * 1 + 0) = off + k; omega
  rw [e] at h0
  exact ⟨b, off, x, hA, hb, hx, h0, hf⟩

end Go.Proofs.YtmpfkmbfbeejhaaDoor

namespace Go.Proofs.YtmpfkmbfbeejhaaDoor
open Go.RowKit
set_option linter.unusedVariables false

theorem conv_one (w : World) (d : Int) :
    (convert 22 9 (.slice (some ⟨w.heap.size, 0, none⟩) 1 1)).run Tryd.prog (w.alloc (.cells #[.int .u8 d] 5)) = .ok (.string (ByteArray.empty.push (UInt8.ofNat d.toNat))) (w.alloc (.cells #[.int .u8 d] 5)) := by
  rw [run_convert_bytes_string _ _ _ 5 _ _ _ Tryd.underlying22 Tryd.underlying5 Tryd.underlying9]
  exact run_bytesToString _ _ _ _ [d] (run_loadCells_list _ _ [Value.int .u8 d] (cell_one_new _ _ _))

def mtF : Nat → Nat → ByteArray → ByteArray
  | 0, _, out => out
  | f + 1, k, out => if k = 0 then out else mtF f (k / 10) (ByteArray.empty.push (UInt8.ofNat (48 + k % 10)) ++ out)
/-- The mark of a number. -/
def mT (k : Nat) : ByteArray := ⟨#[109]⟩ ++ mtF k k ⟨#[]⟩
theorem mtF_eq : ∀ (k f : Nat) (out : ByteArray), k ≤ f → mtF f k out = mtF k k out := by
  intro k
  induction k using Nat.strongRecOn with
  | _ k ih =>
    intro f out hf
    rcases Nat.eq_zero_or_pos k with h0 | h0
    · subst h0
      cases f <;> simp [mtF]
    · obtain ⟨k', rfl⟩ : ∃ k', k = k' + 1 := ⟨k - 1, by omega⟩
      obtain ⟨f', rfl⟩ : ∃ f', f = f' + 1 := ⟨f - 1, by omega⟩
      have hd : (k' + 1) / 10 ≤ k' := by omega
      simp only [mtF]
      rw [if_neg (by omega), if_neg (by omega), ih _ (by omega) f' _ (by omega), ih _ (by omega) k' _ (by omega)]
theorem mtF_step {k : Nat} (h : 0 < k) (out : ByteArray) : mtF k k out = mtF (k / 10) (k / 10) (ByteArray.empty.push (UInt8.ofNat (48 + k % 10)) ++ out) := by
  obtain ⟨k', rfl⟩ : ∃ k', k = k' + 1 := ⟨k - 1, by omega⟩
  conv => lhs; simp only [mtF]
  rw [if_neg (by omega), mtF_eq _ _ _ (by omega)]

theorem mtF_size : ∀ (f k : Nat) (out : ByteArray), (mtF f k out).size ≤ out.size + k := by
  intro f
  induction f with
  | zero => intro k out; simp [mtF]
  | succ f ih =>
    intro k out
    simp only [mtF]
    split
    · omega
    · refine Nat.le_trans (ih _ _) ?_
      rw [ByteArray.size_append]
      have : (ByteArray.empty.push (UInt8.ofNat (48 + k % 10))).size = 1 := rfl
      omega
theorem mT_size (k : Nat) : (mT k).size ≤ k + 1 := by
  unfold mT
  rw [ByteArray.size_append]
  have := mtF_size k k ⟨#[]⟩
  have e1 : (⟨#[109]⟩ : ByteArray).size = 1 := rfl
  have e2 : (⟨#[]⟩ : ByteArray).size = 0 := rfl
  omega

end Go.Proofs.YtmpfkmbfbeejhaaDoor

namespace Go.Proofs.YtmpfkmbfbeejhaaDoor
open Go.RowKit
set_option linter.unusedVariables false

def kSetting : Kind SetZ := ⟨fun x => [.string x.name, .int .i64 x.value], 2, fun x => x.name.size ≤ 9223372036854775807 ∧ I64 x.value, fun _ => rfl, by
  intro x u hu
  simp only [List.mem_cons, List.not_mem_nil, or_false] at hu
  rcases hu with rfl | rfl <;> rfl⟩
abbrev RdSetting := RdK kSetting
abbrev FrSetting := FrK kSetting

theorem RdK.atSetting {w : World} {A : Option Addr} {n : Nat} {xs : List SetZ} {k : Nat} (h : RdK kSetting w A n xs) (hk : k < n) :
    ∃ b off f0 f1, A = some ⟨b, off, none⟩ ∧ b < w.heap.size ∧ Hid (xs[k]? = some ⟨f0, f1⟩) ∧ w.cell? ⟨b, off + k * 2, none⟩ = some (.string f0) ∧ w.cell? ⟨b, off + k * 2 + 1, none⟩ = some (.int .i64 f1) ∧ f0.size ≤ 9223372036854775807 ∧ -9223372036854775808 ≤ f1 ∧ f1 ≤ 9223372036854775807 := by
  obtain ⟨b, off, x, hA, hb, hx, hf, hc⟩ := h.atK hk
  exact ⟨b, off, _, _, hA, hb, hx, hc 0 _ rfl, hc 1 _ rfl, hf.1, hf.2.1, hf.2.2⟩

theorem appSetting {w : World} {ops : Array Oper} {rest : List Oper} {o : Oper} {a : Act} {Q : Exit → Act → World → Prop} (hgd : o.guard = none) (s x : Operand)
    (ho : o.op = .call { callee := .builtin .append, args := #[s, x], argTypes := #[26, 26] })
    (base : Nat) (v : Value) (n : Nat) (xs : List SetZ) (u : SetZ) (hs : a.eval s = v) (hown : w.ownsRow base 57 2 v n (cK kSetting xs)) (hx : a.eval x = .slice (some ⟨w.heap.size, 0, none⟩) 1 1)
    (hn : n ≤ 1099511627776) (hbase : base ≤ w.heap.size)
    (h : ∀ v' w', w'.ownsRow base 57 2 v' (n + 1) (cK kSetting (xs ++ [u])) → Below base w w' → w.heap.size ≤ w'.heap.size → wpList Tryd.prog ops Q rest (a.put o.dst v') w') : wpList Tryd.prog ops Q (o :: rest) a (w.alloc (.cells #[.string u.name, .int .i64 u.value] 57)) :=
  appK_gen kSetting hgd s x 26 ho base 57 (.agg #[.string ⟨#[]⟩, .int .i64 0]) 24 Tryd.underlying26 Tryd.infoSetting rfl (by decide) (by omega) v n xs u hs hown hx hn hbase h

theorem appsSetting {w : World} {ops : Array Oper} {rest : List Oper} {o : Oper} {a : Act} {Q : Exit → Act → World → Prop} (hgd : o.guard = none) (s x : Operand)
    (ho : o.op = .call { callee := .builtin .append, args := #[s, x], argTypes := #[26, 26] })
    (base : Nat) (v : Value) (n : Nat) (xs : List SetZ) (hs : a.eval s = v) (hown : w.ownsRow base 57 2 v n (cK kSetting xs))
    (Ax : Option Addr) (m cx : Nat) (ys : List SetZ) (hx : a.eval x = .slice Ax m cx) (hy : Rd w Ax m 2 (cK kSetting ys)) (hn : n + m ≤ 1099511627776) (hbase : base ≤ w.heap.size)
    (h : ∀ v' w', w'.ownsRow base 57 2 v' (n + m) (cK kSetting (xs ++ ys)) → Below base w w' → w.heap.size ≤ w'.heap.size → wpList Tryd.prog ops Q rest (a.put o.dst v') w') : wpList Tryd.prog ops Q (o :: rest) a w :=
  appKs_gen kSetting hgd s x 26 ho base 57 (.agg #[.string ⟨#[]⟩, .int .i64 0]) 24 Tryd.underlying26 Tryd.infoSetting rfl (by decide) (by omega) v n xs hs hown Ax m cx ys hx hy hn hbase h

theorem take_setSetting {l : List Value} {k : Nat} {u0 u1 : Value} (h : k * 2 + 1 < l.length) : (((l).set (k * 2) u0).set (k * 2 + 1) u1).take ((k + 1) * 2) = l.take (k * 2) ++ [u0, u1] := by
  have e : (k + 1) * 2 = k * 2 + 1 + 1 := by omega
  rw [e, take_set_snoc (by first | omega | (simp; omega)), take_set_snoc (by first | omega | (simp; omega))]
  simp

def markSettingL (k : Nat) : Nat → List SetZ
  | 0 => []
  | n + 1 => markSettingL k n ++ [⟨mT (k + 2 * n), (k : Int) + 2 * (n : Int) + 1⟩]
theorem markSettingL_len (k n : Nat) : (markSettingL k n).length = n := by
  induction n with
  | zero => rfl
  | succ n ih => simp [markSettingL, ih]
theorem markSettingL_at (k : Nat) {n i : Nat} (h : i < n) : (markSettingL k n)[i]? = some (⟨mT (k + 2 * i), (k : Int) + 2 * (i : Int) + 1⟩) := by
  induction n with
  | zero => omega
  | succ n ih =>
    rw [markSettingL, List.getElem?_append, markSettingL_len]
    split
    · exact ih (by omega)
    · have : i = n := by omega
      subst this
      simp
theorem markSettingL_fine {k n : Nat} (hk : k + 2 * n ≤ 4611686018427387904) : ∀ x ∈ markSettingL k n, kSetting.fine x := by
  intro x hx
  obtain ⟨i, hi⟩ := List.mem_iff_getElem?.1 hx
  have hl := (List.getElem?_eq_some_iff.1 hi).1
  rw [markSettingL_len] at hl
  rw [markSettingL_at k hl] at hi
  obtain rfl := Option.some.inj hi
  refine ⟨Nat.le_trans (mT_size _) (by omega), ⟨by simp only; omega, by simp only; omega⟩⟩



end Go.Proofs.YtmpfkmbfbeejhaaDoor

namespace Go.Proofs.YtmpfkmbfbeejhaaDoor
open Go.RowKit
set_option linter.unusedVariables false

/-- How two strings stand: -1, 0 or 1. -/
def cmpS (s t : ByteArray) : Int := if strLess s t = true then -1 else if strLess t s = true then 1 else 0
theorem cmpS_ways (s t : ByteArray) : (strLess s t = true ∧ strLess t s = false ∧ s ≠ t ∧ cmpS s t = -1) ∨ (strLess s t = false ∧ strLess t s = false ∧ s = t ∧ cmpS s t = 0) ∨ (strLess s t = false ∧ strLess t s = true ∧ s ≠ t ∧ cmpS s t = 1) := by
  rcases str_ways s t with ⟨_, _, _, _, h1, h2, h3⟩ | ⟨_, _, _, _, h1, h2, h3⟩ | ⟨_, _, _, _, h1, h2, h3⟩
  · exact .inl ⟨h1, h2, h3, by simp [cmpS, h1]⟩
  · exact .inr (.inl ⟨h1, h2, h3, by simp [cmpS, h1, h2]⟩)
  · exact .inr (.inr ⟨h1, h2, h3, by simp [cmpS, h1, h2]⟩)

theorem isNaNS_calls (s : ByteArray) (w : World) : Calls Tryd.prog 85 #[.string s] w fun e w' => e = .returned (.bool false) ∧ w = w' := by
  go_enter Tryd.func85, Tryd.ntmps85
  go_wp2
  go_ret
  exact ⟨by simp, rfl⟩

set_option maxHeartbeats 400000 in
theorem compareS_calls (s t : ByteArray) (w : World) : Calls Tryd.prog 76 #[.string s, .string t] w fun e w' => e = .returned (.int .i64 (cmpS s t)) ∧ w = w' := by
  rcases str_ways s t with ⟨q1, q2, q3, q4, q5, q6, q7⟩ | ⟨q1, q2, q3, q4, q5, q6, q7⟩ | ⟨q1, q2, q3, q4, q5, q6, q7⟩
  · have HH : Hid (cmpS s t = -1) := by simp [Hid, cmpS, q5]
    clear q4 q5 q6 q7
    go_enter Tryd.func76, Tryd.ntmps76
    go_wp2_with (go_at_call 85; refine (isNaNS_calls _ _).mono ?_; rintro e w' ⟨rfl, rfl⟩)
    go_ret
    exact ⟨ret_int HH.out.symm, rfl⟩
  · have HH : Hid (cmpS s t = 0) := by simp [Hid, cmpS, q5, q6]
    clear q4 q5 q6 q7
    go_enter Tryd.func76, Tryd.ntmps76
    go_wp2_with (go_at_call 85; refine (isNaNS_calls _ _).mono ?_; rintro e w' ⟨rfl, rfl⟩)
    go_ret
    exact ⟨ret_int HH.out.symm, rfl⟩
  · have HH : Hid (cmpS s t = 1) := by simp [Hid, cmpS, q5, q6]
    clear q4 q5 q6 q7
    go_enter Tryd.func76, Tryd.ntmps76
    go_wp2_with (go_at_call 85; refine (isNaNS_calls _ _).mono ?_; rintro e w' ⟨rfl, rfl⟩)
    go_ret
    exact ⟨ret_int HH.out.symm, rfl⟩
theorem compareS_q (s t : ByteArray) (r : Int) (w : World) (hr : cmpS s t = r) : Calls Tryd.prog 76 #[.string s, .string t] w fun e w' => e = .returned (.int .i64 r) ∧ w = w' := hr ▸ compareS_calls s t w

end Go.Proofs.YtmpfkmbfbeejhaaDoor

namespace Go.Proofs.YtmpfkmbfbeejhaaDoor
open Go.RowKit
set_option linter.unusedVariables false

theorem settingAt1_q (s : ByteArray) (v : Int) (nm : ByteArray) (r : Int) (w : World) (hr : cmpS s nm = r) :
    Calls Tryd.prog 75 #[.agg #[.string s, .int .i64 v], .string nm] w fun e w' => e = .returned (.int .i64 r) ∧ Below w.heap.size w w' := by
  have HR := hide hr
  clear hr
  go_enter Tryd.func75, Tryd.ntmps75
  go_wp2_with (go_at_call 76; refine (compareS_q _ _ r _ HR.out).mono ?_; rintro e w' ⟨rfl, rfl⟩)
  go_ret
  exact ⟨rfl, (Below.refl _ _).alloc (Nat.le_refl _) _⟩

/-- What the binary search gives: the place of a name, and whether it is there. -/
def SeaPost (ss : List SetZ) (nm : ByteArray) (w : World) (e : Ending) (w' : World) : Prop :=
  ∃ (i : Nat) (q : Bool), e = .returned (.tuple #[.int .i64 i, .bool q]) ∧ IsIdx ss nm i ∧ (q = true ↔ ∃ v, ss[i]? = some ⟨nm, v⟩) ∧ Below w.heap.size w w'

set_option maxHeartbeats 4000000 in
theorem searchS_calls (A : Option Addr) (n c : Nat) (ss : List SetZ) (nm : ByteArray) (w : World) (h : RdS w A n ss) (hn : n ≤ 1048576) (hs : SortedZ ss) :
    Calls Tryd.prog 74 #[.slice A n c, .string nm, .func (.func 75) #[] #[]] w (SeaPost ss nm w) := by
  have HL := hide h.2.1
  have HS := hide hs
  clear hs
  go_enter Tryd.func74, Tryd.ntmps74
  go_wp2
  go_loopw [9, 10] (fun a b wr => ∃ (i j : Nat), i ≤ j ∧ j ≤ n ∧ a = .int .i64 i ∧ b = .int .i64 j ∧ Hid ((∀ (k : Nat) (s : SetZ), ss[k]? = some s → k < i → strLess s.name nm = true) ∧ ∀ (k : Nat) (s : SetZ), ss[k]? = some s → j ≤ k → strLess s.name nm = false) ∧ Below w.heap.size w wr) (fun a b _ => (intOf b).toNat - (intOf a).toNat)
  case atStart => exact ⟨0, n, Nat.zero_le _, Nat.le_refl _, rfl, rfl, ⟨fun k s _ h => absurd h (by omega), fun k s hk h => by have h1 := (List.getElem?_eq_some_iff.1 hk).1; rw [HL.out] at h1; omega⟩, Below.refl _ _⟩
  case round =>
    obtain ⟨i, j, hij, hj, rfl, rfl, HB, hb⟩ := hrel
    by_cases hlt : i < j
    · obtain ⟨b, off, s, v, rfl, hbl, hx, hc, hc2, hs1, hv1, hv2⟩ := (h.below hb (Nat.le_refl _)).at (k := (i + j) / 2) (by omega)
      have m1 : (i + j) / 2 < j := by omega
      have m2 : i ≤ (i + j) / 2 := by omega
      rcases cmpS_ways s nm with ⟨q1, q2, q3, q4⟩ | ⟨q1, q2, q3, q4⟩ | ⟨q1, q2, q3, q4⟩
      · have HN := hide (And.intro (idx_low HS.out hx.out q1) HB.out.2)
        have HQ := hide q4
        clear q1 q2 q3 q4
        go_wp2_with (go_at_call 75; refine (settingAt1_q _ _ _ _ _ HQ.out).mono ?_; rintro e w1 ⟨rfl, hb1⟩)
        go_roundw
        case rel => exact ⟨(i + j) / 2 + 1, j, by omega, hj, by go_num, rfl, HN, hb.trans (hb1.mono hb.size)⟩
        case measure => simp [intOf]; omega
      all_goals
        have HN := hide (And.intro HB.out.1 (idx_high HS.out hx.out q1))
        have HQ := hide q4
        clear q1 q2 q3 q4
        go_wp2_with (go_at_call 75; refine (settingAt1_q _ _ _ _ _ HQ.out).mono ?_; rintro e w1 ⟨rfl, hb1⟩)
        go_roundw
        case rel => exact ⟨i, (i + j) / 2, by omega, by omega, rfl, by go_num, HN, hb.trans (hb1.mono hb.size)⟩
        case measure => simp [intOf]; omega
    · have hkn : i = j := by omega
      subst hkn
      by_cases hin : i < n
      · obtain ⟨b, off, s, v, rfl, hbl, hx, hc, hc2, hs1, hv1, hv2⟩ := (h.below hb (Nat.le_refl _)).at hin
        have HI : Hid (IsIdx ss nm i) := ⟨by rw [HL.out]; exact hj, HB.out⟩
        rcases cmpS_ways s nm with ⟨q1, q2, q3, q4⟩ | ⟨q1, q2, q3, q4⟩ | ⟨q1, q2, q3, q4⟩
        case inr.inl =>
          have HF : Hid (∃ v, ss[i]? = some (⟨nm, v⟩ : SetZ)) := ⟨v, by rw [hx.out, q3]⟩
          have HQ := hide q4
          clear q1 q2 q3 q4
          go_wp2_with (go_at_call 75; refine (settingAt1_q _ _ _ _ _ HQ.out).mono ?_; rintro e w1 ⟨rfl, hb1⟩)
          go_ret2
          exact ⟨i, true, rfl, HI.out, ⟨fun _ => HF.out, fun _ => rfl⟩, hb.trans (hb1.mono hb.size)⟩
        all_goals
          have HF : Hid (¬ ∃ v, ss[i]? = some (⟨nm, v⟩ : SetZ)) := by
            rintro ⟨v', hv'⟩
            rw [hx.out] at hv'
            exact q3 (congrArg SetZ.name (Option.some.inj hv'))
          have HQ := hide q4
          clear q1 q2 q3 q4
          go_wp2_with (go_at_call 75; refine (settingAt1_q _ _ _ _ _ HQ.out).mono ?_; rintro e w1 ⟨rfl, hb1⟩)
          go_ret2
          exact ⟨i, false, rfl, HI.out, ⟨(fun h => by cases h), fun h => absurd h HF.out⟩, hb.trans (hb1.mono hb.size)⟩
      · have HI : Hid (IsIdx ss nm i) := ⟨by rw [HL.out]; exact hj, HB.out⟩
        have HF : Hid (¬ ∃ v, ss[i]? = some (⟨nm, v⟩ : SetZ)) := by
          rintro ⟨v', hv'⟩
          have h1 := (List.getElem?_eq_some_iff.1 hv').1
          rw [HL.out] at h1
          exact hin h1
        go_wp2
        go_ret2
        exact ⟨i, false, rfl, HI.out, ⟨(fun h => by cases h), fun h => absurd h HF.out⟩, hb⟩

theorem settingAt_calls (A : Option Addr) (n c : Nat) (ss : List SetZ) (nm : ByteArray) (w : World) (h : RdS w A n ss) (hn : n ≤ 1048576) (hs : SortedZ ss) :
    Calls Tryd.prog 55 #[.slice A n c, .string nm] w (SeaPost ss nm w) := by
  have HC := hide (searchS_calls A n c ss nm w h hn hs)
  clear h hs
  go_enter Tryd.func55, Tryd.ntmps55
  go_wp2_with fail
  refine HC.out.mono ?_
  rintro e w1 ⟨i, q, rfl, hi, hq, hb⟩
  have H := hide (And.intro hi hq)
  clear hi hq
  go_wp2
  go_ret2
  exact ⟨i, q, rfl, H.out.1, H.out.2, hb⟩

set_option maxHeartbeats 1000000 in
theorem valueOf_calls (A : Option Addr) (n c : Nat) (ss : List SetZ) (nm : ByteArray) (w : World) (h : RdS w A n ss) (hn : n ≤ 1048576) (hs : SortedZ ss) :
    Calls Tryd.prog 25 #[.slice A n c, .string nm] w fun e w' => e = .returned (.int .i64 (valZ ss nm)) ∧ Below w.heap.size w w' := by
  have HL := hide h.2.1
  have HS := hide hs
  have HC := hide (settingAt_calls A n c ss nm w h hn hs)
  clear hs
  go_enter Tryd.func25, Tryd.ntmps25
  go_wp2_with fail
  refine HC.out.mono ?_
  rintro e w1 ⟨i, q, rfl, hi, hq, hb⟩
  have HI := hide (idx_get hi HS.out)
  have hi1 := hi.1
  rw [HL.out] at hi1
  rcases b_cases q with rfl | rfl
  · have HV : Hid (valZ ss nm = -1) := by
      unfold Hid valZ
      rw [HI.out]
      rcases hx : ss[i]? with _ | s
      · rfl
      · simp only
        rw [if_neg]
        rintro rfl
        have := hq.2 ⟨s.value, hx⟩
        cases this
    clear hi hq
    go_wp2
    go_ret
    exact ⟨ret_int HV.out.symm, hb⟩
  · obtain ⟨v, hv⟩ := hq.1 rfl
    have hin : i < n := by have h1 := (List.getElem?_eq_some_iff.1 hv).1; rw [HL.out] at h1; exact h1
    have HV : Hid (valZ ss nm = v) := by
      unfold Hid valZ
      rw [HI.out, hv]
      simp
    obtain ⟨b, off, s, v', rfl, hbl, hx, hc, hc2, hs1, hv1, hv2⟩ := (h.below hb (Nat.le_refl _)).at hin
    obtain ⟨rfl, rfl⟩ : s = nm ∧ v' = v := by
      have := hx.out
      rw [hv] at this
      have h2 := Option.some.inj this
      injection h2 with h3 h4
      exact ⟨h3.symm, h4.symm⟩
    clear hi hq hv
    go_wp2
    go_ret
    exact ⟨ret_int HV.out.symm, hb⟩

/-- What l27At gives. -/
def AtPost (ss : List SetZ) (nm : ByteArray) (w : World) (e : Ending) (w' : World) : Prop :=
  ∃ r : Int, e = .returned (.int .i64 r) ∧ (r = -1 ∧ hasZ ss nm = false ∨ ∃ (k : Nat) (v : Int), r = k ∧ ss[k]? = some ⟨nm, v⟩) ∧ w = w'

theorem has_snoc {ss : List SetZ} {nm : ByteArray} {k : Nat} {s : SetZ} (hx : ss[k]? = some s) (h : hasZ (ss.take k) nm = false) (hp : s.name ≠ nm) : hasZ (ss.take (k + 1)) nm = false := by
  rw [take_snoc hx]
  unfold hasZ at *
  rw [List.any_append, h]
  simpa using hp

set_option maxHeartbeats 1000000 in
theorem l27At_calls (A : Option Addr) (n c : Nat) (ss : List SetZ) (nm : ByteArray) (w : World) (h : RdS w A n ss) (hn : n ≤ 1048576) :
    Calls Tryd.prog 51 #[.slice A n c, .string nm] w (AtPost ss nm w) := by
  have HL := hide h.2.1
  go_enter Tryd.func51, Tryd.ntmps51
  go_wp2
  go_loop [5] (fun i => ∃ (k : Nat), k ≤ n ∧ i = .int .i64 k ∧ Hid (hasZ (ss.take k) nm = false)) (fun i => n - (intOf i).toNat)
  case atStart => exact ⟨0, Nat.zero_le _, rfl, by simp [Hid, hasZ]⟩
  case round =>
    obtain ⟨k, hk, rfl, HC⟩ := hrel
    by_cases hlt : k < n
    · obtain ⟨b, off, s, v, rfl, hbl, hx, hc, hc2, hs1, hv1, hv2⟩ := h.at hlt
      by_cases c1 : s = nm
      · subst c1
        go_wp2
        go_ret
        exact ⟨k, rfl, .inr ⟨k, v, rfl, hx.out⟩, rfl⟩
      · obtain ⟨e1, e2⟩ := str_ne c1
        have HN := hide (has_snoc hx.out HC.out c1)
        clear c1
        go_wp2
        go_round
        case rel => exact ⟨k + 1, by omega, by go_num, HN⟩
        case measure => simp [intOf]; omega
    · have hkn : k = n := by omega
      subst hkn
      have HN : Hid (hasZ ss nm = false) := by
        have := HC.out
        rwa [List.take_of_length_le (by rw [HL.out]; omega)] at this
      go_wp2
      go_ret
      exact ⟨-1, rfl, .inl ⟨rfl, HN.out⟩, rfl⟩

end Go.Proofs.YtmpfkmbfbeejhaaDoor

namespace Go.Proofs.YtmpfkmbfbeejhaaDoor
open Go.RowKit
set_option linter.unusedVariables false

theorem Tryd.infoB : (Tryd.prog.info? 9).map (fun i => (i.zero, i.size, i.bytes)) = some (some (.string ⟨#[]⟩), 1, 16) := by kernel_rfl
theorem appB {w : World} {ops : Array Oper} {rest : List Oper} {o : Oper} {a : Act} {Q : Exit → Act → World → Prop} (hgd : o.guard = none) (s x : Operand)
    (ho : o.op = .call { callee := .builtin .append, args := #[s, x], argTypes := #[90, 90] })
    (base : Nat) (v : Value) (n : Nat) (xs : List ByteArray) (u : ByteArray) (hs : a.eval s = v) (hown : w.ownsRow base 9 1 v n (cK kB xs)) (hx : a.eval x = .slice (some ⟨w.heap.size, 0, none⟩) 1 1)
    (hn : n ≤ 1099511627776) (hbase : base ≤ w.heap.size)
    (h : ∀ v' w', w'.ownsRow base 9 1 v' (n + 1) (cK kB (xs ++ [u])) → Below base w w' → w.heap.size ≤ w'.heap.size → wpList Tryd.prog ops Q rest (a.put o.dst v') w') : wpList Tryd.prog ops Q (o :: rest) a (w.alloc (.cells #[.string u] 9)) :=
  appK_gen kB hgd s x 90 ho base 9 (.string ⟨#[]⟩) 16 Tryd.underlying90 Tryd.infoB rfl (by decide) (by omega) v n xs u hs hown hx hn hbase h
theorem appsB {w : World} {ops : Array Oper} {rest : List Oper} {o : Oper} {a : Act} {Q : Exit → Act → World → Prop} (hgd : o.guard = none) (s x : Operand)
    (ho : o.op = .call { callee := .builtin .append, args := #[s, x], argTypes := #[90, 90] })
    (base : Nat) (v : Value) (n : Nat) (xs : List ByteArray) (hs : a.eval s = v) (hown : w.ownsRow base 9 1 v n (cK kB xs))
    (Ax : Option Addr) (m cx : Nat) (ys : List ByteArray) (hx : a.eval x = .slice Ax m cx) (hy : Rd w Ax m 1 (cK kB ys)) (hn : n + m ≤ 1099511627776) (hbase : base ≤ w.heap.size)
    (h : ∀ v' w', w'.ownsRow base 9 1 v' (n + m) (cK kB (xs ++ ys)) → Below base w w' → w.heap.size ≤ w'.heap.size → wpList Tryd.prog ops Q rest (a.put o.dst v') w') : wpList Tryd.prog ops Q (o :: rest) a w :=
  appKs_gen kB hgd s x 90 ho base 9 (.string ⟨#[]⟩) 16 Tryd.underlying90 Tryd.infoB rfl (by decide) (by omega) v n xs hs hown Ax m cx ys hx hy hn hbase h




def markBL (k : Nat) : Nat → List ByteArray
  | 0 => []
  | n + 1 => markBL k n ++ [mT (k + n)]
theorem markBL_len (k n : Nat) : (markBL k n).length = n := by
  induction n with
  | zero => rfl
  | succ n ih => simp [markBL, ih]
theorem markBL_at (k : Nat) {n i : Nat} (h : i < n) : (markBL k n)[i]? = some (mT (k + i)) := by
  induction n with
  | zero => omega
  | succ n ih =>
    rw [markBL, List.getElem?_append, markBL_len]
    split
    · exact ih (by omega)
    · have : i = n := by omega
      subst this
      simp
theorem markBL_fine {k n : Nat} (hk : k + n ≤ 4611686018427387904) : ∀ x ∈ markBL k n, kB.fine x := by
  intro x hx
  obtain ⟨i, hi⟩ := List.mem_iff_getElem?.1 hx
  have hl := (List.getElem?_eq_some_iff.1 hi).1
  rw [markBL_len] at hl
  rw [markBL_at k hl] at hi
  obtain rfl := Option.some.inj hi
  exact Nat.le_trans (mT_size _) (by omega)



end Go.Proofs.YtmpfkmbfbeejhaaDoor
