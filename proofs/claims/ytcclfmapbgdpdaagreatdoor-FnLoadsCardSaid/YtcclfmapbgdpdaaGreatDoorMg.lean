/- Several of the plain texts and contracts in one. -/
import Derived.WalkKit
import Derived.WalkSpells
import Derived.WalkLawsBesides
import Derived.BigQuiet
import Derived.Deep.QuietTactic
import Derived.Deep.LoopGhost
import Derived.Deep.Draws
import Derived.Lib.Hide
import Derived.Lib.ConvBytes
import Derived.Lib.Strings
import Derived.Test.YtcclfmapbgdpdaaGreatDoorRows
import Derived.Lib.SplitLaws
import Derived.Lib.ItoaNum
import Derived.Laws.AppendOwnNone
import Derived.Laws.BytesString
import Derived.Deep.RegionHeld3
import Derived.Laws.BitsLemmas
namespace Go.Proofs.YtcclfmapbgdpdaaGreatDoor
open Go.RowKit

theorem b_cases (b : Bool) : b = false ∨ b = true := by cases b <;> simp
theorem hide {p : Prop} (h : p) : Hid p := h

theorem below_drewN {B : Nat} {a w : World} (h : Below B a w) (n : Nat) : Below B a (w.drewN n) := ⟨h.os, h.tape, h.output, h.size, h.block⟩
theorem below_of_drewN {w w' : World} (B : Nat) (h : ∃ m, w' = w.drewN m) : Below B w w' := by
  obtain ⟨m, rfl⟩ := h
  exact below_drewN (Below.refl _ _) m

theorem below_of_draws {w w' : World} (h : ∃ m, w' = w.drewN m) : Below w.heap.size w w' := below_of_drewN _ h

/-- The slice value '.slice A n c' of elements of 'size' cells reads as the cells 'cs'. -/
def Rd (w : World) (A : Option Addr) (n size : Nat) (cs : List Value) : Prop :=
  cs.length = n * size ∧ (0 < n → ∃ b off, A = some ⟨b, off, none⟩ ∧ b < w.heap.size ∧ ∀ j u, cs[j]? = some u → w.cell? ⟨b, off + j, none⟩ = some u)

section
variable {w w' : World} {A : Option Addr} {n size : Nat} {cs : List Value}
theorem Rd.nil : Rd w A 0 size [] := ⟨by simp, fun h => absurd h (by omega)⟩
theorem Rd.keep (h : Rd w A n size cs) (hs : w.heap.size ≤ w'.heap.size) (hk : ∀ p : Addr, p.block < w.heap.size → w'.cell? p = w.cell? p) : Rd w' A n size cs :=
  ⟨h.1, fun hn => by
    obtain ⟨b, off, rfl, hb, hc⟩ := h.2 hn
    exact ⟨b, off, rfl, by omega, fun j u hu => (hk _ hb).trans (hc j u hu)⟩⟩
theorem Rd.below {B : Nat} (h : Rd w A n size cs) (hb : Below B w w') (hB : w.heap.size ≤ B) : Rd w' A n size cs :=
  h.keep hb.size fun _ hp => hb.cell (by omega)
theorem Rd.drewN (h : Rd w A n size cs) (k : Nat) : Rd (w.drewN k) A n size cs := h
theorem Rd.alloc (h : Rd w A n size cs) (o : Obj) : Rd (w.alloc o) A n size cs := h.keep (by simp) fun p hp => World.cell?_alloc_lt w o p hp
theorem Rd.of_own {base : Nat} {e : TypeId} {c : Nat} (h : w.ownsRow base e size (.slice A n c) n cs) : Rd w A n size cs := by
  refine ⟨h.1, fun hn => ?_⟩
  rcases h.2 with ⟨_, h0⟩ | ⟨g, cap, cur, hv, _, hh, _⟩
  · omega
  · have hA : A = some ⟨g, 0, none⟩ := by injection hv
    subst hA
    refine ⟨g, 0, rfl, (Array.getElem?_eq_some_iff.1 hh).1, fun j u hu => ?_⟩
    have := h.cells (g := g) rfl j u hu
    simpa [Addr.add_lit] using this
/-- One cell an element: the cell at k. -/
theorem Rd.at1 {k : Nat} (h : Rd w A n 1 cs) (hk : k < n) : ∃ b off u, A = some ⟨b, off, none⟩ ∧ b < w.heap.size ∧ cs[k]? = some u ∧ w.cell? ⟨b, off + k, none⟩ = some u := by
  obtain ⟨b, off, e, hb, hc⟩ := h.2 (by omega)
  have hl : k < cs.length := by have := h.1; omega
  exact ⟨b, off, cs[k], e, hb, List.getElem?_eq_getElem hl, hc k _ (List.getElem?_eq_getElem hl)⟩
end

/-- A callee that leaves the world alone, met in a region that is walked quietly. -/
theorem quiet_eq {P : Program} {f : FuncId} {args : Array Value} {w : World} {n : Nat} {v : Value} (h : Calls P f args (w.drewN n) fun e w' => e = .returned v ∧ w.drewN n = w') :
    Calls P f args (w.drewN n) fun e w'' => e = .returned v ∧ ∃ m, w'' = w.drewN m := h.mono fun _ _ ⟨he, hm⟩ => ⟨he, n, hm.symm⟩
theorem quiet_eq2 {P : Program} {f : FuncId} {args : Array Value} {w : World} {a n : Nat} {v : Value} (h : Calls P f args (w.drewN (a + n)) fun e w' => e = .returned v ∧ w.drewN (a + n) = w') :
    Calls P f args (w.drewN (a + n)) fun e w'' => e = .returned v ∧ ∃ m, w'' = w.drewN (a + m) := h.mono fun _ _ ⟨he, hm⟩ => ⟨he, n, hm.symm⟩
/-- A callee that draws. -/
theorem quiet_dr {P : Program} {f : FuncId} {args : Array Value} {w : World} {n : Nat} {v : Value} (h : Calls P f args (w.drewN n) fun e w' => e = .returned v ∧ ∃ m, w' = (w.drewN n).drewN m) :
    Calls P f args (w.drewN n) fun e w'' => e = .returned v ∧ ∃ m, w'' = w.drewN m := h.mono fun _ _ ⟨he, m, hm⟩ => ⟨he, n + m, by rw [hm, World.drewN_drewN]⟩
theorem quiet_dr2 {P : Program} {f : FuncId} {args : Array Value} {w : World} {a n : Nat} {v : Value} (h : Calls P f args (w.drewN (a + n)) fun e w' => e = .returned v ∧ ∃ m, w' = (w.drewN (a + n)).drewN m) :
    Calls P f args (w.drewN (a + n)) fun e w'' => e = .returned v ∧ ∃ m, w'' = w.drewN (a + m) := h.mono fun _ _ ⟨he, m, hm⟩ => ⟨he, n + m, by rw [hm, World.drewN_drewN, Nat.add_assoc]⟩

/-! ### lists of integers -/
/-- An int64. -/
def I64 (x : Int) : Prop := -9223372036854775808 ≤ x ∧ x ≤ 9223372036854775807
def cI (xs : List Int) : List Value := xs.map (Value.int .i64)
/-- A []int64 that reads as xs. -/
def RdI (w : World) (A : Option Addr) (n : Nat) (xs : List Int) : Prop := Rd w A n 1 (cI xs) ∧ ∀ x ∈ xs, I64 x

section
variable {w w' : World} {A : Option Addr} {n : Nat} {xs : List Int}
theorem RdI.len (h : RdI w A n xs) : xs.length = n := by simpa [cI] using h.1.1
theorem RdI.below {B : Nat} (h : RdI w A n xs) (hb : Below B w w') (hB : w.heap.size ≤ B) : RdI w' A n xs := ⟨h.1.below hb hB, h.2⟩
theorem RdI.drewN (h : RdI w A n xs) (k : Nat) : RdI (w.drewN k) A n xs := h
theorem RdI.at {k : Nat} (h : RdI w A n xs) (hk : k < n) :
    ∃ b off x, A = some ⟨b, off, none⟩ ∧ b < w.heap.size ∧ Hid (xs[k]? = some x) ∧ w.cell? ⟨b, off + k, none⟩ = some (.int .i64 x) ∧ -9223372036854775808 ≤ x ∧ x ≤ 9223372036854775807 := by
  obtain ⟨b, off, u, e, hb, hu, hc⟩ := h.1.at1 hk
  have hl : k < xs.length := by rw [h.len]; exact hk
  have hx := List.getElem?_eq_getElem hl
  simp only [cI, List.getElem?_map, hx, Option.map_some, Option.some.injEq] at hu
  subst hu
  have hb2 := h.2 _ (List.getElem_mem hl)
  exact ⟨b, off, _, e, hb, hx, hc, hb2.1, hb2.2⟩
theorem RdI.of_own {base : Nat} {e : TypeId} {c : Nat} (h : w.ownsRow base e 1 (.slice A n c) n (cI xs)) (hx : ∀ x ∈ xs, I64 x) : RdI w A n xs := ⟨Rd.of_own h, hx⟩
end

theorem take_snoc {α : Type} {l : List α} {k : Nat} {x : α} (h : l[k]? = some x) : l.take (k + 1) = l.take k ++ [x] := by
  rw [List.take_add_one, h]; rfl

theorem take_set_snoc {α : Type} {l : List α} {k : Nat} {u : α} (h : k < l.length) : (l.set k u).take (k + 1) = l.take k ++ [u] := by
  rw [List.take_add_one, List.getElem?_set_self h, List.take_set_of_le (Nat.le_refl _)]; rfl
/-- What a store into a row of the call's own wants, and what it leaves. -/
theorem own_store {w : World} {base : Nat} {e : TypeId} {size g n cap k : Nat} {cur : List Value} (h : w.ownsRow base e size (.slice (some ⟨g, 0, none⟩) n cap) n cur) (hk : k < n * size) :
    ∃ v, w.cell? ⟨g, k, none⟩ = some v ∧ w.frozen? ⟨g, k, none⟩ = false ∧ Hid (∀ u, (w.setCell ⟨g, k, none⟩ u).ownsRow base e size (.slice (some ⟨g, 0, none⟩) n cap) n (cur.set k u)) := by
  have hl : k < cur.length := by rw [h.1]; exact hk
  refine ⟨cur[k], by rw [h.cellAt k hk, List.getElem?_eq_getElem hl], h.frozenAt k, fun u => (h.stored k u).1⟩

theorem eq_of_takes {α : Type} {xs ys : List α} {n : Nat} (h1 : xs.length = n) (h2 : ys.length = n) (h : xs.take n = ys.take n) : xs = ys := by
  rwa [List.take_of_length_le (by omega), List.take_of_length_le (by omega)] at h
theorem ne_of_at {α : Type} {xs ys : List α} {k : Nat} {x y : α} (h1 : xs[k]? = some x) (h2 : ys[k]? = some y) (h : x ≠ y) : xs ≠ ys := by
  rintro rfl
  rw [h1] at h2
  exact h (Option.some.inj h2)
theorem ne_of_len {α : Type} {xs ys : List α} {n m : Nat} (h1 : xs.length = n) (h2 : ys.length = m) (h : n ≠ m) : xs ≠ ys := by
  rintro rfl
  exact h (h1.symm.trans h2)
theorem any_take_snoc {α : Type} {p : α → Bool} {xs : List α} {k : Nat} {x : α} (hx : xs[k]? = some x) (h : (xs.take k).any p = false) (hp : p x = false) : (xs.take (k + 1)).any p = false := by
  rw [take_snoc hx, List.any_append, h]; simp [hp]
theorem any_of_at {α : Type} {p : α → Bool} {xs : List α} {k : Nat} {x : α} (hx : xs[k]? = some x) (hp : p x = true) : xs.any p = true := by
  rw [List.any_eq_true]
  exact ⟨x, List.mem_of_getElem? hx, hp⟩
theorem any_of_takes {α : Type} {p : α → Bool} {xs : List α} {n : Nat} (h : xs.length = n) (ht : (xs.take n).any p = false) : xs.any p = false := by
  rwa [List.take_of_length_le (by omega)] at ht
theorem drewN2 (w : World) (m n : Nat) : ∃ j, (w.drewN m).drewN n = w.drewN j := ⟨_, World.drewN_drewN w m n⟩

/-! ### rows of one length -/
theorem flatten_len {α : Type} {s : Nat} {rows : List (List α)} (h : ∀ x ∈ rows, x.length = s) : rows.flatten.length = rows.length * s := by
  induction rows with
  | nil => simp
  | cons r rs ih =>
    rw [List.flatten_cons, List.length_append, ih (fun x hx => h x (by simp [hx])), h r (by simp), List.length_cons, Nat.succ_mul, Nat.add_comm]
theorem flatten_at {α : Type} {s : Nat} {rows : List (List α)} (h : ∀ x ∈ rows, x.length = s) {q k : Nat} {r : List α} (hi : rows[q]? = some r) (hk : k < s) : rows.flatten[q * s + k]? = r[k]? := by
  induction rows generalizing q with
  | nil => simp at hi
  | cons r0 rs ih =>
    have h0 : r0.length = s := h r0 (by simp)
    rw [List.flatten_cons]
    cases q with
    | zero =>
      simp at hi
      subst hi
      rw [Nat.zero_mul, Nat.zero_add, List.getElem?_append_left (by omega)]
    | succ q =>
      simp only [List.getElem?_cons_succ] at hi
      rw [List.getElem?_append_right (by rw [h0, Nat.succ_mul]; omega), h0, Nat.succ_mul, show q * s + s + k - s = q * s + k by omega]
      exact ih (fun x hx => h x (by simp [hx])) hi

theorem Rd.row {w : World} {A : Option Addr} {n size : Nat} {rows : List (List Value)} (h : Rd w A n size rows.flatten) (hl : ∀ x ∈ rows, x.length = size) {k : Nat} (hk : k < n) (hn : rows.length = n) :
    ∃ b off r, A = some ⟨b, off, none⟩ ∧ b < w.heap.size ∧ rows[k]? = some r ∧ ∀ j u, r[j]? = some u → w.cell? ⟨b, off + (k * size + j), none⟩ = some u := by
  obtain ⟨b, off, e, hb, hc⟩ := h.2 (by omega)
  have hkl : k < rows.length := by omega
  refine ⟨b, off, rows[k], e, hb, List.getElem?_eq_getElem hkl, fun j u hu => hc _ _ ?_⟩
  have hj : j < size := by
    have := (List.getElem?_eq_some_iff.1 hu).1
    rwa [hl _ (List.getElem_mem hkl)] at this
  rw [flatten_at hl (List.getElem?_eq_getElem hkl) hj]
  exact hu

/-! ### strings -/
/-- A string's bytes. -/
def bs (s : ByteArray) : List UInt8 := s.data.toList
theorem bs_len (s : ByteArray) : (bs s).length = s.size := rfl
theorem toList_bs (s : ByteArray) : s.toList = bs s := Lib.toList_data s
theorem bs_inj {s t : ByteArray} (h : bs s = bs t) : s = t := by
  cases s; cases t
  simp only [bs] at h
  congr
  exact Array.toList_inj.1 h
/-- The byte at k. -/
theorem bs_at (s : ByteArray) {k : Nat} (h : k < s.size) : ∃ c : UInt8, s[k] = c ∧ Hid ((bs s)[k]? = some c) := by
  refine ⟨_, rfl, ?_⟩
  unfold Hid bs
  rw [List.getElem?_eq_getElem (by simpa using h)]
  rfl
theorem below_bytesWorld (w : World) (e : TypeId) (s : ByteArray) : Below w.heap.size w (Lib.bytesWorld w e s) :=
  ⟨rfl, rfl, rfl, by rw [Lib.bytesWorld_size]; omega, fun k hk => Lib.bytesWorld_at_old w e s k hk⟩

theorem own_below {w w' : World} {base : Nat} {e : TypeId} {size : Nat} {v : Value} {n : Nat} {xs : List Value} (h : w.ownsRow base e size v n xs) {B : Nat} (hb : Below B w w') (hB : w.heap.size ≤ B) : w'.ownsRow base e size v n xs := by
  refine ⟨h.1, ?_⟩
  rcases h.2 with hn | ⟨g, cap, cur, rfl, hbg, hgg, rest⟩
  · exact .inl hn
  · refine .inr ⟨g, cap, cur, rfl, hbg, ?_, rest⟩
    have hlt := (Array.getElem?_eq_some_iff.1 hgg).1
    rw [hb.block g (by omega)]
    exact hgg
theorem own_drewN {w : World} {base : Nat} {e : TypeId} {size : Nat} {v : Value} {n : Nat} {xs : List Value} (h : w.ownsRow base e size v n xs) (k : Nat) : (w.drewN k).ownsRow base e size v n xs := h
theorem own_cap {w : World} {base : Nat} {e : TypeId} {size n c : Nat} {A : Option Addr} {xs : List Value} (h : w.ownsRow base e size (.slice A n c) n xs) : n ≤ c := by
  rcases h.2 with ⟨hv, h0⟩ | ⟨g, cap, cur, hv, _, _, hnc, _⟩
  · omega
  · injection hv with _ _ hc
    omega
theorem own_slice {w : World} {base : Nat} {e : TypeId} {size n : Nat} {v : Value} {xs : List Value} (h : w.ownsRow base e size v n xs) : ∃ A c, v = .slice A n c := by
  rcases h.2 with ⟨rfl, rfl⟩ | ⟨g, cap, cur, rfl, _⟩
  · exact ⟨_, _, rfl⟩
  · exact ⟨_, _, rfl⟩
/-- Two cells stored one behind the other, at an even place. -/
theorem take_set_snoc2 {α : Type} {l : List α} {k : Nat} {u v : α} (h : k * 2 + 1 < l.length) : ((l.set (k * 2) u).set (k * 2 + 1) v).take ((k + 1) * 2) = l.take (k * 2) ++ [u, v] := by
  have e : (k + 1) * 2 = k * 2 + 1 + 1 := by omega
  rw [e, take_set_snoc (by simpa using h), take_set_snoc (by omega)]
  simp

/-- The number in a returned value is another's. -/
theorem ret_int {k : IntKind} {a b : Int} (h : a = b) : Ending.returned (.int k a) = .returned (.int k b) := by rw [h]
theorem ret_two {v v' u u' : Value} (h : v = v') (h' : u = u') : Ending.returned (.tuple #[v, u]) = .returned (.tuple #[v', u']) := by rw [h, h']
theorem ret_bool {a b : Bool} (h : a = b) : Ending.returned (.bool a) = .returned (.bool b) := by rw [h]

/-- What the laws' size functions return: less than zero, or what is left; then what was counted is small. -/
def SzPost (l : Int) (F : Prop) (w : World) (e : Ending) (w' : World) : Prop := ∃ r : Int, e = .returned (.int .i64 r) ∧ -1 ≤ r ∧ r ≤ l ∧ (0 ≤ r → F) ∧ Below w.heap.size w w'

theorem str_eq {s s' : ByteArray} (h : s = s') : (s.toList == s'.toList) = true ∧ (s.toList != s'.toList) = false := by
  subst h; simp
theorem str_ne {s s' : ByteArray} (h : s ≠ s') : (s.toList == s'.toList) = false ∧ (s.toList != s'.toList) = true := by
  have : ¬ s.toList = s'.toList := by rw [toList_bs, toList_bs]; exact fun e => h (bs_inj e)
  simp [this]

theorem ret_str {a b : ByteArray} (h : a = b) : Ending.returned (.string a) = .returned (.string b) := by rw [h]

end Go.Proofs.YtcclfmapbgdpdaaGreatDoor

namespace Go.Proofs.YtcclfmapbgdpdaaGreatDoor
open Go.RowKit
set_option linter.unusedVariables false

def lowerB (c : UInt8) : Bool := decide (97 ≤ c.toNat) && decide (c.toNat ≤ 122)
def digitB (c : UInt8) : Bool := decide (48 ≤ c.toNat) && decide (c.toNat ≤ 57)
/-- Is a text a name? -/
def nameB (s : ByteArray) : Bool := decide (1 ≤ s.size) && decide (s.size ≤ 10) && lowerB (s.data.toList.getD 0 0) && s.data.toList.all fun c => lowerB c || digitB c

theorem lower_eq (c : UInt8) : lowerB c = (decide ((97 : Int) ≤ c.toNat) && decide ((c.toNat : Int) ≤ 122)) := by
  unfold lowerB
  congr 1 <;> (rw [decide_eq_decide]; omega)
theorem digit_eq (c : UInt8) : digitB c = (decide ((48 : Int) ≤ c.toNat) && decide ((c.toNat : Int) ≤ 57)) := by
  unfold digitB
  congr 1 <;> (rw [decide_eq_decide]; omega)

set_option maxHeartbeats 400000 in
theorem l01Small_calls (c : UInt8) (w : World) : Calls Tryz.prog 227 #[.int .u8 (c.toNat : Int)] w fun e w' => e = .returned (.bool (lowerB c)) ∧ w = w' := by
  have hc := c.toNat_lt
  by_cases h : (97 : Int) ≤ c.toNat
  · have h1 : decide ((97 : Int) ≤ c.toNat) = true := by simpa using h
    go_enter Tryz.func227, Tryz.ntmps227
    go_wp2
    go_ret
    exact ⟨ret_bool (by rw [lower_eq, h1]; simp), rfl⟩
  · have h1 : decide ((97 : Int) ≤ c.toNat) = false := by simpa using h
    go_enter Tryz.func227, Tryz.ntmps227
    go_wp2
    go_ret
    exact ⟨ret_bool (by rw [lower_eq, h1]; simp), rfl⟩
set_option maxHeartbeats 400000 in
theorem l01Digit_calls (c : UInt8) (w : World) : Calls Tryz.prog 228 #[.int .u8 (c.toNat : Int)] w fun e w' => e = .returned (.bool (digitB c)) ∧ w = w' := by
  have hc := c.toNat_lt
  by_cases h : (48 : Int) ≤ c.toNat
  · have h1 : decide ((48 : Int) ≤ c.toNat) = true := by simpa using h
    go_enter Tryz.func228, Tryz.ntmps228
    go_wp2
    go_ret
    exact ⟨ret_bool (by rw [digit_eq, h1]; simp), rfl⟩
  · have h1 : decide ((48 : Int) ≤ c.toNat) = false := by simpa using h
    go_enter Tryz.func228, Tryz.ntmps228
    go_wp2
    go_ret
    exact ⟨ret_bool (by rw [digit_eq, h1]; simp), rfl⟩
theorem allName_snoc {s : ByteArray} {k : Nat} {c : UInt8} (hx : (bs s)[k]? = some c) (h : ((bs s).take k).all (fun c => lowerB c || digitB c) = true) (hc : (lowerB c || digitB c) = true) :
    ((bs s).take (k + 1)).all (fun c => lowerB c || digitB c) = true := by
  rw [take_snoc hx, List.all_append, h]; simpa using hc
theorem name_bad {s : ByteArray} {k : Nat} {c : UInt8} (hx : (bs s)[k]? = some c) (hc : (lowerB c || digitB c) = false) : nameB s = false := by
  have : (bs s).all (fun c => lowerB c || digitB c) = false := by
    rw [List.all_eq_false]
    exact ⟨c, List.mem_of_getElem? hx, by simp [hc]⟩
  unfold nameB
  simp only [bs] at this
  rw [this]; simp
theorem name_first {s : ByteArray} {c : UInt8} (hx : (bs s)[0]? = some c) (hc : lowerB c = false) : nameB s = false := by
  unfold nameB
  simp only [bs] at hx
  simp [List.getD, hx, hc]
theorem name_end {s : ByteArray} (h1 : 1 ≤ s.size) (h2 : s.size ≤ 10) (hf : lowerB ((bs s).getD 0 0) = true) (h : ((bs s).take s.size).all (fun c => lowerB c || digitB c) = true) : nameB s = true := by
  rw [List.take_of_length_le (by rw [bs_len]; omega)] at h
  unfold nameB
  simp only [bs] at h hf
  rw [h, hf]
  simp; omega
theorem name_len {s : ByteArray} (h : s.size < 1 ∨ 10 < s.size) : nameB s = false := by
  unfold nameB
  rcases h with h | h
  · rw [decide_eq_false (by omega : ¬ 1 ≤ s.size)]; rfl
  · rw [decide_eq_false (by omega : ¬ s.size ≤ 10)]; simp

set_option maxHeartbeats 2000000 in
theorem isName_calls (s : ByteArray) (w : World) (hs : s.size ≤ 9223372036854775807) : Calls Tryz.prog 183 #[.string s] w fun e w' => e = .returned (.bool (nameB s)) ∧ Below w.heap.size w w' := by
  by_cases h1 : s.size < 1
  · have e1 : decide ((s.size : Int) < 1) = true := by simp; omega
    go_enter Tryz.func183, Tryz.ntmps183
    go_wp2
    go_ret
    exact ⟨ret_bool (name_len (.inl h1)).symm, Below.refl _ _⟩
  · by_cases h2 : 10 < s.size
    · have e1 : decide ((s.size : Int) < 1) = false := by simp; omega
      have e2 : decide ((10 : Int) < s.size) = true := by simp; omega
      go_enter Tryz.func183, Tryz.ntmps183
      go_wp2
      go_ret
      exact ⟨ret_bool (name_len (.inr h2)).symm, Below.refl _ _⟩
    · have e1 : decide ((s.size : Int) < 1) = false := by simp; omega
      have e2 : decide ((10 : Int) < s.size) = false := by simp; omega
      have hcv := fun wx : World => Lib.run_convert_string_bytes (P := Tryz.prog) wx 9 22 5 s Tryz.underlying9 Tryz.underlying22 Tryz.underlying5
      have hB := below_bytesWorld w 5 s
      have hcell := fun j hj => Lib.bytesWorld_cell w 5 s j hj
      have HC := hide hcell
      clear hcell
      go_enter Tryz.func183, Tryz.ntmps183
      go_wp2
      generalize Lib.bytesWorld w 5 s = w1 at *
      clear hcv
      go_loop [18] (fun i => ∃ (k : Nat), k ≤ s.size ∧ i = .int .i64 k ∧ Hid (((bs s).take k).all (fun c => lowerB c || digitB c) = true ∧ (1 ≤ k → lowerB ((bs s).getD 0 0) = true))) (fun i => s.size - (intOf i).toNat)
      case atStart => exact ⟨0, Nat.zero_le _, rfl, by simp [Hid]⟩
      case round =>
        obtain ⟨k, hk, rfl, hr⟩ := hrel
        by_cases hlt : k < s.size
        · obtain ⟨c, hsc, hx⟩ := bs_at s hlt
          have hc : w1.cell? ⟨w.heap.size, k, none⟩ = some (.int .u8 (c.toNat : Int)) := by
            rw [HC.out k hlt]
            have := hx.out
            simp only [bs] at this
            simp [List.getD, this]
          clear hsc
          have hc2 := c.toNat_lt
          rcases (show (c.toNat : Int) < 48 ∨ (48 ≤ (c.toNat : Int) ∧ (c.toNat : Int) ≤ 57) ∨ (58 ≤ (c.toNat : Int) ∧ (c.toNat : Int) ≤ 96) ∨ (97 ≤ (c.toNat : Int) ∧ (c.toNat : Int) ≤ 122) ∨ 123 ≤ (c.toNat : Int) by omega) with hq | ⟨hq, hq'⟩ | ⟨hq, hq'⟩ | ⟨hq, hq'⟩ | hq
          · have HN := hide (name_bad hx.out (by rw [lower_eq, digit_eq]; simp; omega))
            by_cases hk0 : k = 0
            · subst hk0
              go_wp2
              go_ret
              exact ⟨ret_bool HN.out.symm, hB⟩
            · have e3 : ((k : Int) == 0) = false := by simp; omega
              go_wp2
              go_ret
              exact ⟨ret_bool HN.out.symm, hB⟩
          · by_cases hk0 : k = 0
            · subst hk0
              have HN := hide (name_first hx.out (by rw [lower_eq]; simp; omega))
              go_wp2
              go_ret
              exact ⟨ret_bool HN.out.symm, hB⟩
            · have e3 : ((k : Int) == 0) = false := by simp; omega
              go_wp2
              go_round
              case rel =>
                refine ⟨k + 1, by omega, by go_num, allName_snoc hx.out hr.out.1 (by rw [lower_eq, digit_eq]; simp; omega), fun _ => ?_⟩
                exact hr.out.2 (by omega)
              case measure => simp [intOf]; omega
          · have d57 : decide ((c.toNat : Int) ≤ 57) = false := by simp; omega
            have HN := hide (name_bad hx.out (by rw [lower_eq, digit_eq]; simp; omega))
            by_cases hk0 : k = 0
            · subst hk0
              go_wp2
              go_ret
              exact ⟨ret_bool HN.out.symm, hB⟩
            · have e3 : ((k : Int) == 0) = false := by simp; omega
              go_wp2
              go_ret
              exact ⟨ret_bool HN.out.symm, hB⟩
          · by_cases hk0 : k = 0
            · subst hk0
              go_wp2
              go_round
              case rel =>
                refine ⟨1, by omega, by go_num, allName_snoc (k := 0) hx.out hr.out.1 (by rw [lower_eq, digit_eq]; simp; omega), fun _ => ?_⟩
                have := hx.out
                simp only [List.getD, this, lower_eq]; simp; omega
              case measure => simp [intOf]; omega
            · have e3 : ((k : Int) == 0) = false := by simp; omega
              go_wp2
              go_round
              case rel =>
                refine ⟨k + 1, by omega, by go_num, allName_snoc hx.out hr.out.1 (by rw [lower_eq, digit_eq]; simp; omega), fun _ => ?_⟩
                exact hr.out.2 (by omega)
              case measure => simp [intOf]; omega
          · have d57 : decide ((c.toNat : Int) ≤ 57) = false := by simp; omega
            have d122 : decide ((c.toNat : Int) ≤ 122) = false := by simp; omega
            have HN := hide (name_bad hx.out (by rw [lower_eq, digit_eq]; simp; omega))
            by_cases hk0 : k = 0
            · subst hk0
              go_wp2
              go_ret
              exact ⟨ret_bool HN.out.symm, hB⟩
            · have e3 : ((k : Int) == 0) = false := by simp; omega
              go_wp2
              go_ret
              exact ⟨ret_bool HN.out.symm, hB⟩
        · have hkn : k = s.size := by omega
          have HN := hide (name_end (by omega) (by omega) (hr.out.2 (by omega)) (hkn ▸ hr.out.1))
          go_wp2
          go_ret
          exact ⟨ret_bool HN.out.symm, hB⟩
set_option maxHeartbeats 2000000 in
theorem l01Name_calls (s : ByteArray) (w : World) (hs : s.size ≤ 9223372036854775807) : Calls Tryz.prog 189 #[.string s] w fun e w' => e = .returned (.bool (nameB s)) ∧ w = w' := by
  by_cases h1 : s.size < 1
  · have e0 : s.toList = [] := by
      rw [toList_bs]; exact List.eq_nil_of_length_eq_zero (by rw [bs_len]; omega)
    go_enter Tryz.func189, Tryz.ntmps189
    go_wp2
    go_ret
    exact ⟨ret_bool (name_len (.inl h1)).symm, rfl⟩
  · have e0 : s.toList.isEmpty = false := by
      rw [toList_bs, List.isEmpty_eq_false_iff]
      intro h
      have := bs_len s
      rw [h] at this
      simp at this
      omega
    by_cases h2 : (10 : Int) < s.size
    · go_enter Tryz.func189, Tryz.ntmps189
      go_wp2
      go_ret
      exact ⟨ret_bool (name_len (.inr (by omega))).symm, rfl⟩
    · have h3 : 0 < s.size := by omega
      obtain ⟨c, hsc, hx⟩ := bs_at s h3
      cases hl : lowerB c
      · have HN := hide (name_first hx.out hl)
        go_enter Tryz.func189, Tryz.ntmps189
        go_wp2_with fail
        refine (l01Small_calls c _).mono ?_
        rintro e w' ⟨rfl, rfl⟩
        go_wp2
        go_ret
        exact ⟨ret_bool HN.out.symm, rfl⟩
      · have HF : Hid (lowerB ((bs s).getD 0 0) = true) := by
          have := hx.out
          simp [Hid, List.getD, this, hl]
        go_enter Tryz.func189, Tryz.ntmps189
        go_wp2_with fail
        refine (l01Small_calls c _).mono ?_
        rintro e w' ⟨rfl, rfl⟩
        go_wp2_with fail
        clear hx hsc hl
        go_loop [3] (fun i => ∃ (k : Nat), k ≤ s.size ∧ i = .int .i64 k ∧ Hid (((bs s).take k).all (fun c => lowerB c || digitB c) = true)) (fun i => s.size - (intOf i).toNat)
        case atStart => exact ⟨0, Nat.zero_le _, rfl, by simp [Hid]⟩
        case round =>
          obtain ⟨k, hk, rfl, hr⟩ := hrel
          by_cases hlt : k < s.size
          · obtain ⟨d, hsd, hx⟩ := bs_at s hlt
            cases hl : lowerB d
            · cases hd : digitB d
              · have HN := hide (name_bad hx.out (by rw [hl, hd]; rfl))
                go_wp2_with fail
                refine (l01Small_calls d _).mono ?_
                rintro e w' ⟨rfl, rfl⟩
                go_wp2_with fail
                refine (l01Digit_calls d _).mono ?_
                rintro e w' ⟨rfl, rfl⟩
                go_wp2
                go_ret
                exact ⟨ret_bool HN.out.symm, rfl⟩
              · have HN := hide (allName_snoc hx.out hr.out (by rw [hl, hd]; rfl))
                go_wp2_with fail
                refine (l01Small_calls d _).mono ?_
                rintro e w' ⟨rfl, rfl⟩
                go_wp2_with fail
                refine (l01Digit_calls d _).mono ?_
                rintro e w' ⟨rfl, rfl⟩
                go_wp2
                go_round
                case rel => exact ⟨k + 1, by omega, by go_num, HN⟩
                case measure => simp [intOf]; omega
            · have HN := hide (allName_snoc hx.out hr.out (by rw [hl]; rfl))
              go_wp2_with fail
              refine (l01Small_calls d _).mono ?_
              rintro e w' ⟨rfl, rfl⟩
              go_wp2
              go_round
              case rel => exact ⟨k + 1, by omega, by go_num, HN⟩
              case measure => simp [intOf]; omega
          · have hkn : k = s.size := by omega
            have HN := hide (name_end (by omega) (by omega) HF.out (hkn ▸ hr.out))
            go_wp2
            go_ret
            exact ⟨ret_bool HN.out.symm, rfl⟩
end Go.Proofs.YtcclfmapbgdpdaaGreatDoor

namespace Go.Proofs.YtcclfmapbgdpdaaGreatDoor
open Go.RowKit
set_option linter.unusedVariables false

/-! ### parts between a byte -/
/-- A first part with something ahead of it. -/
def preH (cur : List UInt8) : List (List UInt8) → List (List UInt8)
  | [] => [cur]
  | p :: ps => (cur ++ p) :: ps
def splitL (c : UInt8) : List UInt8 → List (List UInt8)
  | [] => [[]]
  | b :: l => if b = c then [] :: splitL c l else preH [b] (splitL c l)
theorem splitL_ne (c : UInt8) (l : List UInt8) : splitL c l ≠ [] := by
  cases l with
  | nil => simp [splitL]
  | cons b l =>
    rw [splitL]
    split
    · simp
    · cases splitL c l <;> simp [preH]
theorem preH_nil {ps : List (List UInt8)} (h : ps ≠ []) : preH [] ps = ps := by
  cases ps with
  | nil => exact absurd rfl h
  | cons p ps => simp [preH]
theorem preH_pre (a b : List UInt8) (ps : List (List UInt8)) : preH a (preH b ps) = preH (a ++ b) ps := by
  cases ps <;> simp [preH]
theorem preH_sep (cur : List UInt8) (c : UInt8) (l : List UInt8) : preH cur (splitL c (c :: l)) = cur :: splitL c l := by
  rw [splitL, if_pos rfl]; simp [preH]
theorem preH_other (cur : List UInt8) {b c : UInt8} (h : b ≠ c) (l : List UInt8) : preH cur (splitL c (b :: l)) = preH (cur ++ [b]) (splitL c l) := by
  rw [splitL, if_neg h, preH_pre]

/-- The library's pieces at a separator of one byte. -/
theorem splitK_one (c : UInt8) (l : List UInt8) : Lib.splitK [c] 0 (Lib.count l [c]) l = splitL c l := by
  induction l with
  | nil => rw [Lib.count_miss (by simp [Lib.index])]; rfl
  | cons b l ih =>
    by_cases h : b = c
    · subst h
      have hix : Lib.index (b :: l) [b] = ((0 : Nat) : Int) := by rw [Lib.index]; simp [List.isPrefixOf]
      rw [Lib.count_cons_eq, Nat.add_comm, Lib.splitK, hix, splitL, if_pos rfl]
      simp [ih]
    · have hp : ([c] : List UInt8).isPrefixOf (b :: l) = false := by simp [List.isPrefixOf, Ne.symm h]
      have hix : Lib.index (b :: l) [c] = if Lib.index l [c] == -1 then -1 else Lib.index l [c] + 1 := by rw [Lib.index, hp]; simp
      rw [Lib.count_cons_ne b c l h, splitL, if_neg h, ← ih]
      by_cases hm : Lib.index l [c] = -1
      · rw [Lib.count_miss hm]; rfl
      · have hge := Lib.index_ge l [c]
        obtain ⟨j, hj⟩ : ∃ j : Nat, Lib.index l [c] = j := ⟨(Lib.index l [c]).toNat, by omega⟩
        rw [Lib.count_hit (by simp) hj]
        have e1 : (Lib.index l [c] == -1) = false := by simpa using hm
        have e2 : Lib.index (b :: l) [c] = ((j + 1 : Nat) : Int) := by rw [hix, e1, hj]; simp
        have e3 : (((j + 1 : Nat) : Int) == -1) = false := by simp; omega
        rw [Nat.add_comm 1, Lib.splitK, Lib.splitK, e2, e3, hj]
        rw [hj] at e1
        rw [e1]
        simp [preH]

/-- The parts of a string. -/
def splitS (c : UInt8) (s : ByteArray) : List ByteArray := (splitL c (bs s)).map fun l => ⟨l.toArray⟩
theorem splitS_ne (c : UInt8) (s : ByteArray) : splitS c s ≠ [] := by
  unfold splitS
  simp [splitL_ne]
theorem arr_bs (s : ByteArray) : (⟨(bs s).toArray⟩ : ByteArray) = s := bs_inj rfl
theorem splitB_S (c : UInt8) (s : ByteArray) : Lib.splitB ⟨#[c]⟩ 0 (Lib.countB s ⟨#[c]⟩) s = splitS c s := by
  have h := Lib.splitB_data ⟨#[c]⟩ 0 (Lib.countB s ⟨#[c]⟩) s
  have e : Lib.splitK [c] 0 (Lib.countB s ⟨#[c]⟩) (bs s) = splitL c (bs s) := splitK_one c (bs s)
  unfold splitS
  rw [← e]
  have h' : (Lib.splitB ⟨#[c]⟩ 0 (Lib.countB s ⟨#[c]⟩) s).map (·.data.toList) = Lib.splitK [c] 0 (Lib.countB s ⟨#[c]⟩) (bs s) := h
  rw [← h', List.map_map]
  conv => lhs; rw [← List.map_id (Lib.splitB ⟨#[c]⟩ 0 (Lib.countB s ⟨#[c]⟩) s)]
  refine List.map_congr_left fun x _ => ?_
  exact (arr_bs x).symm
theorem splitS_len (c : UInt8) (s : ByteArray) : (splitS c s).length = Lib.countB s ⟨#[c]⟩ + 1 := by
  rw [← splitB_S]
  exact Lib.splitB_all ⟨#[c]⟩ (Nat.le_refl 1) 0 _ s rfl
theorem splitL_len (c : UInt8) (l : List UInt8) : (splitL c l).length ≤ l.length + 1 := by
  induction l with
  | nil => simp [splitL]
  | cons b l ih =>
    rw [splitL]
    split
    · simp; omega
    · cases h : splitL c l with
      | nil => simp [preH]
      | cons p ps => rw [h] at ih; simp [preH] at ih ⊢; omega
theorem splitS_le (c : UInt8) (s : ByteArray) : (splitS c s).length ≤ s.size + 1 := by
  unfold splitS
  rw [List.length_map]
  exact splitL_len c (bs s)
theorem splitL_part (c : UInt8) (l : List UInt8) : ∀ p ∈ splitL c l, p.length ≤ l.length := by
  induction l with
  | nil => simp [splitL]
  | cons b l ih =>
    rw [splitL]
    split
    · intro p hp
      rcases List.mem_cons.1 hp with rfl | hp
      · simp
      · have := ih p hp; simp; omega
    · cases h : splitL c l with
      | nil => intro p hp; simp [preH] at hp; subst hp; simp
      | cons q ps =>
        rw [h] at ih
        intro p hp
        simp only [preH] at hp
        rcases List.mem_cons.1 hp with rfl | hp
        · have := ih q (by simp); simp; omega
        · have := ih p (by simp [hp]); simp; omega
theorem splitS_part (c : UInt8) (s : ByteArray) : ∀ p ∈ splitS c s, p.size ≤ s.size := by
  intro p hp
  obtain ⟨l, hl, rfl⟩ := List.mem_map.1 hp
  exact splitL_part c (bs s) l hl

/-- What a reader of bytes has when it stands at k: the parts done, and the part from f to k. -/
def SplitAt (c : UInt8) (s : ByteArray) (done : List ByteArray) (f k : Nat) : Prop :=
  f ≤ k ∧ splitL c (bs s) = done.map bs ++ preH (((bs s).take k).drop f) (splitL c ((bs s).drop k))
theorem splitAt_start (c : UInt8) (s : ByteArray) : SplitAt c s [] 0 0 := ⟨Nat.le_refl _, by simp [preH_nil (splitL_ne _ _)]⟩
theorem bs_extract (s : ByteArray) (a b : Nat) : bs (s.extract a b) = ((bs s).take b).drop a := by
  unfold bs
  rw [Lib.extract_data]
  rw [List.drop_take]
theorem splitAt_sep {c : UInt8} {s : ByteArray} {done : List ByteArray} {f k : Nat} (h : SplitAt c s done f k) (hx : (bs s)[k]? = some c) : SplitAt c s (done ++ [s.extract f k]) (k + 1) (k + 1) := by
  obtain ⟨hf, h⟩ := h
  refine ⟨Nat.le_refl _, ?_⟩
  have hk := (List.getElem?_eq_some_iff.1 hx).1
  have e : (bs s).drop k = c :: (bs s).drop (k + 1) := by rw [← List.getElem_cons_drop (h := hk), (List.getElem?_eq_some_iff.1 hx).2]
  rw [e, preH_sep] at h
  have e2 : ((bs s).take (k + 1)).drop (k + 1) = [] := List.drop_eq_nil_of_le (by rw [List.length_take]; omega)
  rw [h, List.map_append, List.append_assoc, e2, preH_nil (splitL_ne _ _)]
  simp [bs_extract]
theorem splitAt_other {c b : UInt8} {s : ByteArray} {done : List ByteArray} {f k : Nat} (h : SplitAt c s done f k) (hx : (bs s)[k]? = some b) (hb : b ≠ c) : SplitAt c s done f (k + 1) := by
  obtain ⟨hf, h⟩ := h
  refine ⟨by omega, ?_⟩
  have hk := (List.getElem?_eq_some_iff.1 hx).1
  have e : (bs s).drop k = b :: (bs s).drop (k + 1) := by rw [← List.getElem_cons_drop (h := hk), (List.getElem?_eq_some_iff.1 hx).2]
  rw [e, preH_other _ hb] at h
  rw [h, take_snoc hx, List.drop_append_of_le_length (by rw [List.length_take]; omega)]
theorem splitAt_end {c : UInt8} {s : ByteArray} {done : List ByteArray} {f : Nat} (h : SplitAt c s done f s.size) : splitS c s = done ++ [s.extract f s.size] := by
  obtain ⟨hf, h⟩ := h
  unfold splitS
  have e2 : (bs s).drop s.size = [] := List.drop_eq_nil_of_le (by rw [bs_len]; exact Nat.le_refl _)
  rw [h, e2]
  simp only [splitL, preH, List.append_nil, List.map_append, List.map_map, List.map_cons, List.map_nil]
  congr 1
  · conv => rhs; rw [← List.map_id done]
    exact List.map_congr_left fun x _ => arr_bs x
  · rw [← bs_extract, arr_bs]

/-! ### words and texts -/
def wchB (c : UInt8) : Bool := lowerB c || digitB c
def wordB (s : ByteArray) : Bool := !(bs s).isEmpty && (bs s).all wchB
/-- Is there a text of a line? -/
def textB (s : ByteArray) : Bool := decide (s.size ≤ 40) && (splitS 32 s).all wordB
theorem word_empty {s : ByteArray} (h : s.size = 0) : wordB s = false := by
  have : bs s = [] := List.eq_nil_of_length_eq_zero (by rw [bs_len]; exact h)
  unfold wordB
  rw [this]; rfl
theorem word_some {s : ByteArray} (h : 0 < s.size) : wordB s = (bs s).all wchB := by
  have : (bs s).isEmpty = false := by
    rw [List.isEmpty_eq_false_iff]
    intro e
    have := bs_len s
    rw [e] at this
    simp at this
    omega
  unfold wordB
  rw [this]; rfl
theorem text_empty {s : ByteArray} (h : s.size = 0) : textB s = false := by
  have h1 : bs s = [] := List.eq_nil_of_length_eq_zero (by rw [bs_len]; exact h)
  unfold textB splitS
  rw [h1]
  simp [splitL, wordB, bs]
theorem text_long {s : ByteArray} (h : 40 < s.size) : textB s = false := by
  unfold textB
  rw [decide_eq_false (by omega)]; rfl
theorem text_mid {s : ByteArray} (h : s.size ≤ 40) : textB s = (splitS 32 s).all wordB := by
  unfold textB
  rw [decide_eq_true h]; rfl

/-! ### decimal -/
/-- A number in decimal. -/
def decZ (n : Int) : ByteArray := ⟨(Lib.itoa n).toArray⟩
theorem bs_decZ (n : Int) : bs (decZ n) = Lib.itoa n := by simp [decZ, bs]
/-- The digits of a number, the last one first. -/
def revD (u : Nat) : List UInt8 := (Lib.decDigits u).reverse
theorem revD_small {u : Nat} (h : u < 10) : revD u = [UInt8.ofNat (48 + u)] := by
  unfold revD; rw [Lib.decDigits, dif_pos h]; rfl
theorem revD_big {u : Nat} (h : ¬ u < 10) : revD u = UInt8.ofNat (48 + u % 10) :: revD (u / 10) := by
  unfold revD; rw [Lib.decDigits, dif_neg h]; simp

end Go.Proofs.YtcclfmapbgdpdaaGreatDoor

namespace Go.Proofs.YtcclfmapbgdpdaaGreatDoor
open Go.RowKit

/-- From w to w' only blocks from lo on and below hi, and new ones, may have changed. -/
structure Wr (lo hi : Nat) (w w' : World) : Prop where
  os : w'.os = w.os
  tape : w'.tape = w.tape
  output : w'.output = w.output
  size : w.heap.size ≤ w'.heap.size
  block : ∀ k, k < w.heap.size → (k < lo ∨ hi ≤ k) → w'.heap[k]? = w.heap[k]?

theorem Wr.refl (lo hi : Nat) (w : World) : Wr lo hi w w := ⟨rfl, rfl, rfl, Nat.le_refl _, fun _ _ _ => rfl⟩
theorem Wr.trans {lo hi : Nat} {a b c : World} (h : Wr lo hi a b) (k : Wr lo hi b c) : Wr lo hi a c :=
  ⟨k.os.trans h.os, k.tape.trans h.tape, k.output.trans h.output, Nat.le_trans h.size k.size, fun i hi' hr => (k.block i (Nat.lt_of_lt_of_le hi' h.size) hr).trans (h.block i hi' hr)⟩
theorem Wr.mono {lo hi lo' hi' : Nat} {w w' : World} (h : Wr lo hi w w') (h1 : lo' ≤ lo) (h2 : hi ≤ hi') : Wr lo' hi' w w' :=
  ⟨h.os, h.tape, h.output, h.size, fun k hk hr => h.block k hk (by omega)⟩
theorem Wr.of_below {lo hi : Nat} {w w' : World} (h : Below w.heap.size w w') : Wr lo hi w w' := ⟨h.os, h.tape, h.output, h.size, fun k hk _ => h.block k hk⟩
theorem Wr.below {lo hi B : Nat} {w0 w w' : World} (h : Below B w0 w) (hw : Wr lo hi w w') (hB : B ≤ lo) (hz : B ≤ w.heap.size) : Below B w0 w' :=
  h.trans ⟨hw.os, hw.tape, hw.output, hw.size, fun k hk => hw.block k (by omega) (by omega)⟩
theorem Wr.setCell {lo hi b off : Nat} (w : World) (u : Value) (h1 : lo ≤ b) (h2 : b < hi) : Wr lo hi w (w.setCell ⟨b, off, none⟩ u) :=
  ⟨rfl, rfl, rfl, by simp [World.setCell], fun k _ hr => Below.heap_setCell _ _ _ _ (by simp only; omega)⟩
theorem Wr.drewN {lo hi : Nat} {w w' : World} (h : Wr lo hi w w') (n : Nat) : Wr lo hi w (w'.drewN n) := ⟨h.os, h.tape, h.output, h.size, h.block⟩

/-- A slice of elements of 'size' cells that reads as cs, in one writable block between lo and hi. -/
def Fr (w : World) (lo hi : Nat) (e : TypeId) (size : Nat) (A : Option Addr) (n : Nat) (cs : List Value) : Prop :=
  cs.length = n * size ∧ (0 < n → ∃ b off cur, A = some ⟨b, off, none⟩ ∧ lo ≤ b ∧ b < hi ∧ w.heap[b]? = some (.cells cur e (0, 0)) ∧ ∀ j u, cs[j]? = some u → cur[off + j]? = some u)

section
variable {w w' : World} {lo hi : Nat} {e : TypeId} {size : Nat} {A : Option Addr} {n : Nat} {cs : List Value}
theorem Fr.nil : Fr w lo hi e size A 0 [] := ⟨by simp, fun h => absurd h (by omega)⟩
theorem Fr.of_own {base c : Nat} (h : w.ownsRow base e size (.slice A n c) n cs) : Fr w base w.heap.size e size A n cs := by
  refine ⟨h.1, fun hn => ?_⟩
  rcases h.2 with ⟨_, h0⟩ | ⟨g, cap, cur, hv, hb, hh, _, _, _, ht⟩
  · omega
  · have hA : A = some ⟨g, 0, none⟩ := by injection hv
    subst hA
    refine ⟨g, 0, cur, rfl, hb, (Array.getElem?_eq_some_iff.1 hh).1, hh, fun j u hu => ?_⟩
    rw [← ht, List.getElem?_take] at hu
    split at hu
    · simpa using hu
    · cases hu
theorem Fr.rd (h : Fr w lo hi e size A n cs) : Rd w A n size cs := by
  refine ⟨h.1, fun hn => ?_⟩
  obtain ⟨b, off, cur, hA, _, _, hh, hc⟩ := h.2 hn
  exact ⟨b, off, hA, (Array.getElem?_eq_some_iff.1 hh).1, fun j u hu => by rw [cell_of_row w b (off + j) cur e (0, 0) hh]; exact hc j u hu⟩
theorem Fr.mono {lo' hi' : Nat} (h : Fr w lo hi e size A n cs) (h1 : lo' ≤ lo) (h2 : hi ≤ hi') : Fr w lo' hi' e size A n cs :=
  ⟨h.1, fun hn => by
    obtain ⟨b, off, cur, hA, hl, hh, hw, hc⟩ := h.2 hn
    exact ⟨b, off, cur, hA, by omega, by omega, hw, hc⟩⟩
theorem Fr.wr {lo' hi' : Nat} (h : Fr w lo hi e size A n cs) (hw : Wr lo' hi' w w') (hd : hi ≤ lo' ∨ hi' ≤ lo) : Fr w' lo hi e size A n cs :=
  ⟨h.1, fun hn => by
    obtain ⟨b, off, cur, hA, hl, hh, hb, hc⟩ := h.2 hn
    exact ⟨b, off, cur, hA, hl, hh, (hw.block b (Array.getElem?_eq_some_iff.1 hb).1 (by omega)).trans hb, hc⟩⟩
theorem Fr.below {B : Nat} (h : Fr w lo hi e size A n cs) (hb : Below B w w') (hB : hi ≤ B) : Fr w' lo hi e size A n cs :=
  ⟨h.1, fun hn => by
    obtain ⟨b, off, cur, hA, hl, hh, hw, hc⟩ := h.2 hn
    exact ⟨b, off, cur, hA, hl, hh, (hb.block b (by omega)).trans hw, hc⟩⟩
/-- What a store into it wants, and what it leaves. -/
theorem Fr.store {j : Nat} (h : Fr w lo hi e size A n cs) (hj : j < n * size) :
    ∃ b off v, A = some ⟨b, off, none⟩ ∧ lo ≤ b ∧ b < hi ∧ w.cell? ⟨b, off + j, none⟩ = some v ∧ w.frozen? ⟨b, off + j, none⟩ = false ∧ Hid (∀ u, Fr (w.setCell ⟨b, off + j, none⟩ u) lo hi e size A n (cs.set j u)) := by
  have hn : 0 < n := by
    rcases Nat.eq_zero_or_pos n with h0 | h0
    · rw [h0, Nat.zero_mul] at hj; omega
    · exact h0
  obtain ⟨b, off, cur, hA, hl, hh, hb, hc⟩ := h.2 hn
  have hjl : j < cs.length := by rw [h.1]; exact hj
  have hcj := hc j _ (List.getElem?_eq_getElem hjl)
  refine ⟨b, off, cs[j], hA, hl, hh, by rw [cell_of_row w b (off + j) cur e (0, 0) hb]; exact hcj, frozen_of_row w b (off + j) cur e hb, fun u => ⟨by simpa using h.1, fun _ => ?_⟩⟩
  refine ⟨b, off, cur.setIfInBounds (off + j) u, hA, hl, hh, heap_setCell_same w b (off + j) cur e u hb, fun i v hv => ?_⟩
  by_cases hij : i = j
  · subst hij
    rw [List.getElem?_set_self hjl] at hv
    rw [Array.getElem?_setIfInBounds_self_of_lt (Array.getElem?_eq_some_iff.1 hcj).1]
    exact hv
  · rw [List.getElem?_set_ne (by omega)] at hv
    rw [Array.getElem?_setIfInBounds_ne (by omega)]
    exact hc i v hv
end

/-- A []int64 of the call's own. -/
def FrI (w : World) (lo hi : Nat) (e : TypeId) (A : Option Addr) (n : Nat) (xs : List Int) : Prop := Fr w lo hi e 1 A n (cI xs) ∧ ∀ x ∈ xs, I64 x
theorem FrI.rd {w : World} {lo hi : Nat} {e : TypeId} {A : Option Addr} {n : Nat} {xs : List Int} (h : FrI w lo hi e A n xs) : RdI w A n xs := ⟨h.1.rd, h.2⟩
theorem FrI.wr {w w' : World} {lo hi lo' hi' : Nat} {e : TypeId} {A : Option Addr} {n : Nat} {xs : List Int} (h : FrI w lo hi e A n xs) (hw : Wr lo' hi' w w') (hd : hi ≤ lo' ∨ hi' ≤ lo) : FrI w' lo hi e A n xs := ⟨h.1.wr hw hd, h.2⟩
theorem FrI.below {w w' : World} {lo hi B : Nat} {e : TypeId} {A : Option Addr} {n : Nat} {xs : List Int} (h : FrI w lo hi e A n xs) (hb : Below B w w') (hB : hi ≤ B) : FrI w' lo hi e A n xs := ⟨h.1.below hb hB, h.2⟩
theorem FrI.nil {w : World} {lo hi : Nat} {e : TypeId} {A : Option Addr} : FrI w lo hi e A 0 [] := ⟨Fr.nil, by simp⟩
theorem FrI.of_own {w : World} {base c n : Nat} {e : TypeId} {A : Option Addr} {xs : List Int} (h : w.ownsRow base e 1 (.slice A n c) n (cI xs)) (hx : ∀ x ∈ xs, I64 x) : FrI w base w.heap.size e A n xs := ⟨Fr.of_own h, hx⟩
theorem FrI.len {w : World} {lo hi : Nat} {e : TypeId} {A : Option Addr} {n : Nat} {xs : List Int} (h : FrI w lo hi e A n xs) : xs.length = n := by simpa [cI] using h.1.1

/-- The numbers from k on. -/
def seqZ (k : Int) : Nat → List Int
  | 0 => []
  | n + 1 => seqZ k n ++ [k + n]
theorem seqZ_len (k : Int) (n : Nat) : (seqZ k n).length = n := by
  induction n with
  | zero => rfl
  | succ n ih => simp [seqZ, ih]
theorem seqZ_at (k : Int) {n i : Nat} (h : i < n) : (seqZ k n)[i]? = some (k + i) := by
  induction n with
  | zero => omega
  | succ n ih =>
    rw [seqZ, List.getElem?_append]
    rw [seqZ_len]
    split
    · exact ih (by omega)
    · have : i = n := by omega
      subst this
      simp
theorem seqZ_mem {k x : Int} {n : Nat} (h : x ∈ seqZ k n) : k ≤ x ∧ x < k + n := by
  induction n with
  | zero => simp [seqZ] at h
  | succ n ih =>
    rw [seqZ, List.mem_append] at h
    rcases h with h | h
    · have := ih h; omega
    · simp at h; omega

theorem app1_gen {P : Program} {w : World} {ops : Array Oper} {rest : List Oper} {o : Oper} {a : Act} {Q : Exit → Act → World → Prop} (hgd : o.guard = none) (s x : Operand) (t : TypeId)
    (ho : o.op = .call { callee := .builtin .append, args := #[s, x], argTypes := #[t, t] })
    (base : Nat) (e : TypeId) (z : Value) (bytes : Nat) (ht : P.underlying t = some (.slice e)) (hinfo : (P.info? e).map (fun i => (i.zero, i.size, i.bytes)) = some (some z, 1, bytes)) (hzs : z.cells.size = 1) (hby : bytes ≤ 64)
    (v : Value) (n : Nat) (cs : List Value) (u : Value) (hu : u.oneCell' = true) (hs : a.eval s = v) (hown : w.ownsRow base e 1 v n cs) (hx : a.eval x = .slice (some ⟨w.heap.size, 0, none⟩) 1 1)
    (hn : n ≤ 1099511627776) (hbase : base ≤ w.heap.size)
    (h : ∀ v' w', w'.ownsRow base e 1 v' (n + 1) (cs ++ [u]) → Below base w w' → w.heap.size ≤ w'.heap.size → wpList P ops Q rest (a.put o.dst v') w') : wpList P ops Q (o :: rest) a (w.alloc (.cells #[u] e)) := by
  obtain ⟨i, hi, hz0, hz1, hz2⟩ := info_parts hinfo
  refine wpList_append_own _ hgd s x t ho base e i z 1 bytes ht hi hz0 hz1 hz2 hzs (by decide) v n cs hs (hown.alloc _) ⟨w.heap.size, 0, none⟩ 1 1 [u] hx rfl (cell_one_new _ _ _) ?_ ?_ ?_ ?_ ?_
  · intro y hy; simp at hy; subst hy; exact hu
  · unfold maxLen; omega
  · have : (n + 1) * bytes ≤ (n + 1) * 64 := Nat.mul_le_mul_left _ hby
    omega
  · simp; omega
  · intro v' w' h1 h2 _
    refine h v' w' h1 (((Below.refl base w).alloc hbase _).grown h2 (by simp; omega) (fun g hg => (hown.lt g hg).1)) ?_
    have := h2.size
    simp at this
    omega

end Go.Proofs.YtcclfmapbgdpdaaGreatDoor

namespace Go.Proofs.YtcclfmapbgdpdaaGreatDoor
open Go.RowKit
set_option linter.unusedVariables false

/-- A kind of element: its cells, how many, and what binds its parts. -/
structure Kind (α : Type) where
  c : α → List Value
  size : Nat
  fine : α → Prop
  len : ∀ x, (c x).length = size
  one : ∀ x, ∀ u ∈ c x, u.oneCell' = true

section
variable {α : Type} {K : Kind α}
def cK (K : Kind α) (xs : List α) : List Value := (xs.map K.c).flatten
theorem mapc_len (xs : List α) : ∀ x ∈ xs.map K.c, x.length = K.size := by
  intro x hx
  obtain ⟨s, _, rfl⟩ := List.mem_map.1 hx
  exact K.len s
theorem cK_len (xs : List α) : (cK K xs).length = xs.length * K.size := by
  unfold cK
  rw [flatten_len (mapc_len xs), List.length_map]
theorem cK_snoc (xs : List α) (x : α) : cK K (xs ++ [x]) = cK K xs ++ K.c x := by simp [cK]
theorem cK_append (xs ys : List α) : cK K (xs ++ ys) = cK K xs ++ cK K ys := by simp [cK]
theorem cK_nil : cK K ([] : List α) = [] := rfl
theorem cK_one {xs : List α} : ∀ u ∈ cK K xs, u.oneCell' = true := by
  intro u hu
  obtain ⟨l, hl, hu⟩ := List.mem_flatten.1 hu
  obtain ⟨x, _, rfl⟩ := List.mem_map.1 hl
  exact K.one x u hu
theorem cK_take_snoc {xs : List α} {k : Nat} {x : α} (h : xs[k]? = some x) : cK K (xs.take (k + 1)) = cK K (xs.take k) ++ K.c x := by
  rw [take_snoc h, cK_snoc]

/-- A slice that reads as xs. -/
def RdK (K : Kind α) (w : World) (A : Option Addr) (n : Nat) (xs : List α) : Prop := Rd w A n K.size (cK K xs) ∧ xs.length = n ∧ ∀ x ∈ xs, K.fine x
/-- A slice of the call's own that reads as xs. -/
def FrK (K : Kind α) (w : World) (lo hi : Nat) (e : TypeId) (A : Option Addr) (n : Nat) (xs : List α) : Prop := Fr w lo hi e K.size A n (cK K xs) ∧ xs.length = n ∧ ∀ x ∈ xs, K.fine x

variable {w w' : World} {lo hi : Nat} {e : TypeId} {A : Option Addr} {n : Nat} {xs : List α}
theorem RdK.len (h : RdK K w A n xs) : xs.length = n := h.2.1
theorem RdK.nil : RdK K w A 0 [] := ⟨by simpa [cK] using Rd.nil, rfl, by simp⟩
theorem RdK.below {B : Nat} (h : RdK K w A n xs) (hb : Below B w w') (hB : w.heap.size ≤ B) : RdK K w' A n xs := ⟨h.1.below hb hB, h.2⟩
theorem RdK.drewN (h : RdK K w A n xs) (k : Nat) : RdK K (w.drewN k) A n xs := h
theorem RdK.of_own {base c : Nat} (h : w.ownsRow base e K.size (.slice A n c) n (cK K xs)) (hl : xs.length = n) (hx : ∀ x ∈ xs, K.fine x) : RdK K w A n xs := ⟨Rd.of_own h, hl, hx⟩
theorem RdK.atK {k : Nat} (h : RdK K w A n xs) (hk : k < n) :
    ∃ b off x, A = some ⟨b, off, none⟩ ∧ b < w.heap.size ∧ xs[k]? = some x ∧ K.fine x ∧ ∀ j u, (K.c x)[j]? = some u → w.cell? ⟨b, off + (k * K.size + j), none⟩ = some u := by
  obtain ⟨b, off, r, e, hb, hr, hc⟩ := Rd.row (rows := xs.map K.c) h.1 (mapc_len xs) hk (by rw [List.length_map, h.2.1])
  have hkl : k < xs.length := by rw [h.2.1]; exact hk
  have hx := List.getElem?_eq_getElem hkl
  rw [List.getElem?_map, hx] at hr
  simp only [Option.map_some, Option.some.injEq] at hr
  subst hr
  exact ⟨b, off, _, e, hb, hx, h.2.2 _ (List.getElem_mem hkl), hc⟩
theorem FrK.nil : FrK K w lo hi e A 0 [] := ⟨by simpa [cK] using Fr.nil, rfl, by simp⟩
theorem FrK.rd (h : FrK K w lo hi e A n xs) : RdK K w A n xs := ⟨h.1.rd, h.2⟩
theorem FrK.below {B : Nat} (h : FrK K w lo hi e A n xs) (hb : Below B w w') (hB : hi ≤ B) : FrK K w' lo hi e A n xs := ⟨h.1.below hb hB, h.2⟩
theorem FrK.wr {lo' hi' : Nat} (h : FrK K w lo hi e A n xs) (hw : Wr lo' hi' w w') (hd : hi ≤ lo' ∨ hi' ≤ lo) : FrK K w' lo hi e A n xs := ⟨h.1.wr hw hd, h.2⟩
theorem FrK.mono {lo' hi' : Nat} (h : FrK K w lo hi e A n xs) (h1 : lo' ≤ lo) (h2 : hi ≤ hi') : FrK K w lo' hi' e A n xs := ⟨h.1.mono h1 h2, h.2⟩
theorem FrK.of_own {base c : Nat} (h : w.ownsRow base e K.size (.slice A n c) n (cK K xs)) (hl : xs.length = n) (hx : ∀ x ∈ xs, K.fine x) : FrK K w base w.heap.size e A n xs := ⟨Fr.of_own h, hl, hx⟩
end

/-! ### stores into a row whose place is known -/
section
variable {w : World} {lo hi : Nat} {e : TypeId} {size : Nat} {b off n : Nat} {cs : List Value}
theorem Fr.put {j : Nat} (h : Fr w lo hi e size (some ⟨b, off, none⟩) n cs) (hj : j < n * size) :
    ∃ v, w.cell? ⟨b, off + j, none⟩ = some v ∧ w.frozen? ⟨b, off + j, none⟩ = false ∧ lo ≤ b ∧ b < hi ∧ Hid (∀ u, Fr (w.setCell ⟨b, off + j, none⟩ u) lo hi e size (some ⟨b, off, none⟩) n (cs.set j u)) := by
  obtain ⟨b', off', v, hA, hl, hh, h1, h2, h3⟩ := h.store hj
  injection hA with hA
  injection hA with hb ho
  subst hb ho
  exact ⟨v, h1, h2, hl, hh, h3⟩
theorem Fr.addr {A : Option Addr} (h : Fr w lo hi e size A n cs) (hn : 0 < n) : ∃ b off, A = some ⟨b, off, none⟩ := by
  obtain ⟨b, off, _, hA, _⟩ := h.2 hn
  exact ⟨b, off, hA⟩
end

/-! ### appending -/
section
variable {α : Type} (K : Kind α)
variable {P : Program} {w : World} {ops : Array Oper} {rest : List Oper} {o : Oper} {a : Act} {Q : Exit → Act → World → Prop}
theorem appK_gen (hgd : o.guard = none) (s x : Operand) (t : TypeId)
    (ho : o.op = .call { callee := .builtin .append, args := #[s, x], argTypes := #[t, t] })
    (base : Nat) (e : TypeId) (z : Value) (bytes : Nat) (ht : P.underlying t = some (.slice e)) (hinfo : (P.info? e).map (fun i => (i.zero, i.size, i.bytes)) = some (some z, K.size, bytes)) (hzs : z.cells.size = K.size) (hsz : 0 < K.size) (hby : bytes ≤ 64)
    (v : Value) (n : Nat) (xs : List α) (u : α) (hs : a.eval s = v) (hown : w.ownsRow base e K.size v n (cK K xs)) (hx : a.eval x = .slice (some ⟨w.heap.size, 0, none⟩) 1 1)
    (hn : n ≤ 1099511627776) (hbase : base ≤ w.heap.size)
    (h : ∀ v' w', w'.ownsRow base e K.size v' (n + 1) (cK K (xs ++ [u])) → Below base w w' → w.heap.size ≤ w'.heap.size → wpList P ops Q rest (a.put o.dst v') w') : wpList P ops Q (o :: rest) a (w.alloc (.cells (K.c u).toArray e)) := by
  obtain ⟨i, hi, hz0, hz1, hz2⟩ := info_parts hinfo
  refine wpList_append_own _ hgd s x t ho base e i z K.size bytes ht hi hz0 hz1 hz2 hzs hsz v n (cK K xs) hs (hown.alloc _) ⟨w.heap.size, 0, none⟩ 1 1 (K.c u) hx (by rw [K.len]; omega) ?_ (K.one u) ?_ ?_ ?_ ?_
  · intro j y hy
    rw [Addr.add_lit, cell_of_row _ w.heap.size (0 + j) (K.c u).toArray e (0, 0) (heap_alloc_new w _)]
    simpa using hy
  · unfold maxLen; omega
  · have : (n + 1) * bytes ≤ (n + 1) * 64 := Nat.mul_le_mul_left _ hby
    omega
  · simp; omega
  · intro v' w' h1 h2 _
    refine h v' w' (by rw [cK_snoc]; exact h1) (((Below.refl base w).alloc hbase _).grown h2 (by simp; omega) (fun g hg => (hown.lt g hg).1)) ?_
    have := h2.size
    simp at this
    omega

theorem run_append_own_nil (base : Nat) (t ty e : TypeId) (i : TypeInfo) (size c : Nat) (ht : P.underlying t = some (.slice e)) (hi : P.info? e = some i)
    (v : Value) (n : Nat) (xs : List Value) (hown : w.ownsRow base e size v n xs) :
    (Builtin.append_ #[t, t] ty #[v, .slice none 0 c]).run P w = .ok v w := by
  rcases hown.2 with ⟨rfl, rfl⟩ | ⟨g, cap, cur, rfl, _, _, hnc, _⟩
  · simp [Builtin.append_, run_underlying ht, sizeOf, typeInfo, hi, Builtin.lenOf, Builtin.firstCells]
  · simp [Builtin.append_, run_underlying ht, sizeOf, typeInfo, hi, Builtin.lenOf, Builtin.firstCells, hnc, storeCells]

theorem wpList_append_own_nil (hgd : o.guard = none) (s x : Operand) (t : TypeId)
    (ho : o.op = .call { callee := .builtin .append, args := #[s, x], argTypes := #[t, t] })
    (base : Nat) (e : TypeId) (i : TypeInfo) (size c : Nat) (ht : P.underlying t = some (.slice e)) (hi : P.info? e = some i)
    (v : Value) (n : Nat) (xs : List Value) (hs : a.eval s = v) (hown : w.ownsRow base e size v n xs) (hx : a.eval x = .slice none 0 c)
    (h : wpList P ops Q rest (a.put o.dst v) w) : wpList P ops Q (o :: rest) a w := by
  refine wpList_plain hgd fun K hK => ?_
  have hrun := run_append_own_nil (P := P) (w := w) base t o.type e i size c ht hi v n xs hown
  unfold Oper.wp
  simp [execOp, ho, resolve, invoke, builtin, hs, hx, hrun, Result.andThen]
  exact hK _ _ h

/-- Appending a whole slice, whatever it lies in. -/
theorem appKs_gen (hgd : o.guard = none) (s x : Operand) (t : TypeId)
    (ho : o.op = .call { callee := .builtin .append, args := #[s, x], argTypes := #[t, t] })
    (base : Nat) (e : TypeId) (z : Value) (bytes : Nat) (ht : P.underlying t = some (.slice e)) (hinfo : (P.info? e).map (fun i => (i.zero, i.size, i.bytes)) = some (some z, K.size, bytes)) (hzs : z.cells.size = K.size) (hsz : 0 < K.size) (hby : bytes ≤ 64)
    (v : Value) (n : Nat) (xs : List α) (hs : a.eval s = v) (hown : w.ownsRow base e K.size v n (cK K xs))
    (Ax : Option Addr) (m cx : Nat) (ys : List α) (hx : a.eval x = .slice Ax m cx) (hy : Rd w Ax m K.size (cK K ys))
    (hn : n + m ≤ 1099511627776) (hbase : base ≤ w.heap.size)
    (h : ∀ v' w', w'.ownsRow base e K.size v' (n + m) (cK K (xs ++ ys)) → Below base w w' → w.heap.size ≤ w'.heap.size → wpList P ops Q rest (a.put o.dst v') w') : wpList P ops Q (o :: rest) a w := by
  obtain ⟨i, hi, hz0, hz1, hz2⟩ := info_parts hinfo
  have hb : (n + m) * bytes ≤ 140737488355328 := by
    have : (n + m) * bytes ≤ (n + m) * 64 := Nat.mul_le_mul_left _ hby
    omega
  have hdone : ∀ v' w', w'.ownsRow base e K.size v' (n + m) (cK K xs ++ cK K ys) → w.grownBy w' v.ownBlock → (v' = .slice none 0 0 ↔ v = .slice none 0 0 ∧ m = 0) → wpList P ops Q rest (a.put o.dst v') w' := fun v' w' h1 h2 _ =>
    h v' w' (by rw [cK_append]; exact h1) ((Below.refl base w).grown h2 hbase (fun g hg => (hown.lt g hg).1)) h2.size
  cases Ax with
  | none =>
    have hm : m = 0 := by
      rcases Nat.eq_zero_or_pos m with h0 | h0
      · exact h0
      · obtain ⟨_, _, hA, _⟩ := hy.2 h0
        cases hA
    subst hm
    refine wpList_append_own_nil hgd s x t ho base e i K.size cx ht hi v n _ hs hown hx (h v w ?_ (Below.refl _ _) (Nat.le_refl _))
    have h0 : cK K ys = [] := by
      have := hy.1
      rw [Nat.zero_mul] at this
      exact List.eq_nil_of_length_eq_zero this
    rw [cK_append, h0, List.append_nil]
    exact hown
  | some ad =>
    refine wpList_append_own w hgd s x t ho base e i z K.size bytes ht hi hz0 hz1 hz2 hzs hsz v n (cK K xs) hs hown ad m cx (cK K ys) hx hy.1 ?_ (fun u hu => cK_one u hu) (by unfold maxLen; omega) hb hbase hdone
    intro j u hu
    rcases Nat.eq_zero_or_pos m with h0 | h0
    · subst h0
      have := (List.getElem?_eq_some_iff.1 hu).1
      rw [hy.1] at this
      omega
    · obtain ⟨b, off, hA, _, hc⟩ := hy.2 h0
      injection hA with hA
      subst hA
      rw [Addr.add_lit]
      exact hc j u hu
end

/-! ### kinds -/
def kB : Kind ByteArray := ⟨fun s => [.string s], 1, fun s => s.size ≤ 9223372036854775807, fun _ => rfl, by intro x u hu; simp at hu; subst hu; rfl⟩
def kI : Kind Int := ⟨fun x => [.int .i64 x], 1, I64, fun _ => rfl, by intro x u hu; simp at hu; subst hu; rfl⟩
theorem cK_kI (xs : List Int) : cK kI xs = cI xs := by
  induction xs with
  | nil => rfl
  | cons x xs ih =>
    have e1 : cK kI (x :: xs) = .int .i64 x :: cK kI xs := rfl
    have e2 : cI (x :: xs) = .int .i64 x :: cI xs := rfl
    rw [e1, e2, ih]
theorem cK_kB (xs : List ByteArray) : cK kB xs = xs.map Value.string := by
  induction xs with
  | nil => rfl
  | cons x xs ih =>
    have e1 : cK kB (x :: xs) = .string x :: cK kB xs := rfl
    rw [e1, List.map_cons, ih]
/-- A []string that reads as xs. -/
abbrev RdB := RdK kB
abbrev FrB := FrK kB
theorem RdK.atB {w : World} {A : Option Addr} {n : Nat} {xs : List ByteArray} {k : Nat} (h : RdK kB w A n xs) (hk : k < n) :
    ∃ b off x, A = some ⟨b, off, none⟩ ∧ b < w.heap.size ∧ Hid (xs[k]? = some x) ∧ w.cell? ⟨b, off + k, none⟩ = some (.string x) ∧ x.size ≤ 9223372036854775807 := by
  obtain ⟨b, off, x, hA, hb, hx, hf, hc⟩ := h.atK hk
  have h0 := hc 0 _ rfl
  have e : off + (k * kB.size + 0) = off + k := by show off + (k * 1 + 0) = off + k; omega
  rw [e] at h0
  exact ⟨b, off, x, hA, hb, hx, h0, hf⟩

end Go.Proofs.YtcclfmapbgdpdaaGreatDoor

namespace Go.Proofs.YtcclfmapbgdpdaaGreatDoor
open Go.RowKit
set_option linter.unusedVariables false

def printB (c : UInt8) : Bool := decide (32 ≤ c.toNat) && decide (c.toNat ≤ 126)
/-- Is a text a memo? -/
def memoB (s : ByteArray) : Bool := decide (s.size ≤ 20) && (bs s).all printB
theorem print_eq (c : UInt8) : printB c = (decide ((32 : Int) ≤ c.toNat) && decide ((c.toNat : Int) ≤ 126)) := by
  unfold printB
  congr 1 <;> (rw [decide_eq_decide]; omega)

theorem allP_snoc {p : UInt8 → Bool} {s : ByteArray} {k : Nat} {c : UInt8} (hx : (bs s)[k]? = some c) (h : ((bs s).take k).all p = true) (hc : p c = true) :
    ((bs s).take (k + 1)).all p = true := by
  rw [take_snoc hx, List.all_append, h]; simpa using hc
theorem allP_bad {p : UInt8 → Bool} {s : ByteArray} {k : Nat} {c : UInt8} (hx : (bs s)[k]? = some c) (hc : p c = false) : (bs s).all p = false := by
  rw [List.all_eq_false]
  exact ⟨c, List.mem_of_getElem? hx, by simp [hc]⟩
theorem allP_end {p : UInt8 → Bool} {s : ByteArray} {k : Nat} (hk : k = s.size) (h : ((bs s).take k).all p = true) : (bs s).all p = true := by
  rwa [List.take_of_length_le (by rw [bs_len]; omega)] at h
theorem memo_bad {s : ByteArray} (h : (bs s).all printB = false) : memoB s = false := by unfold memoB; rw [h]; simp
theorem memo_end {s : ByteArray} (h : (bs s).all printB = true) : memoB s = decide ((s.size : Int) ≤ 20) := by
  unfold memoB
  rw [h, Bool.and_true, decide_eq_decide]
  omega

/-- A row of bytes reads as a string's. -/
def RdU (w : World) (b : Nat) (s : ByteArray) : Prop := ∀ k c, (bs s)[k]? = some c → w.cell? ⟨b, k, none⟩ = some (.int .u8 (c.toNat : Int))
theorem rdU_bytesWorld (w : World) (e : TypeId) (s : ByteArray) : RdU (Lib.bytesWorld w e s) w.heap.size s := by
  intro k c hx
  have hk : k < s.size := by have := (List.getElem?_eq_some_iff.1 hx).1; rwa [bs_len] at this
  rw [Lib.bytesWorld_cell w e s k hk]
  simp only [bs] at hx
  simp [List.getD, hx]

theorem anyU_snoc {p : UInt8 → Bool} {s : ByteArray} {k : Nat} {c : UInt8} (hx : (bs s)[k]? = some c) (h : ((bs s).take k).any p = false) (hc : p c = false) :
    ((bs s).take (k + 1)).any p = false := by
  rw [take_snoc hx, List.any_append, h]; simpa using hc
theorem anyU_at {p : UInt8 → Bool} {s : ByteArray} {k : Nat} {c : UInt8} (hx : (bs s)[k]? = some c) (hc : p c = true) : (bs s).any p = true := by
  rw [List.any_eq_true]
  exact ⟨c, List.mem_of_getElem? hx, hc⟩
theorem anyU_end {p : UInt8 → Bool} {s : ByteArray} {k : Nat} (hk : k = s.size) (h : ((bs s).take k).any p = false) : (bs s).any p = false := by
  rwa [List.take_of_length_le (by rw [bs_len]; omega)] at h

set_option maxHeartbeats 1000000 in
theorem indexFuncU_calls (b cap : Nat) (s : ByteArray) (f : Nat) (p : UInt8 → Bool) (w : World) (h : RdU w b s) (hs : s.size ≤ 1048576)
    (hcf : ∀ args w, Sem.run Tryz.prog (callFunc f args) w = .ok (.enter f args) w)
    (hf : ∀ (x : UInt8) w, Calls Tryz.prog f #[.int .u8 (x.toNat : Int)] w fun e w' => e = .returned (.bool (p x)) ∧ w = w') :
    Calls Tryz.prog 226 #[.slice (some ⟨b, 0, none⟩) s.size cap, .func (.func f) #[] #[]] w fun e w' => (∃ i : Int, e = .returned (.int .i64 i) ∧ decide (0 ≤ i) = (bs s).any p) ∧ w = w' := by
  have HF := hide hf
  clear hf
  go_enter Tryz.func226, Tryz.ntmps226
  go_wp2
  go_loop [8] (fun i => ∃ (k : Nat), k ≤ s.size ∧ i = .int .i64 k ∧ Hid (((bs s).take k).any p = false)) (fun i => s.size - (intOf i).toNat)
  case atStart => exact ⟨0, Nat.zero_le _, rfl, by simp [Hid]⟩
  case round =>
    obtain ⟨k, hk, rfl, HC⟩ := hrel
    by_cases hlt : k < s.size
    · obtain ⟨c, _, hx⟩ := bs_at s hlt
      have hc := h k c hx.out
      cases hp : p c
      · go_wp2_with fail
        refine (HF.out _ _).mono ?_
        rintro e w' ⟨rfl, rfl⟩
        go_wp2
        go_round
        case rel => exact ⟨k + 1, by omega, by go_num, anyU_snoc hx.out HC.out hp⟩
        case measure => simp [intOf]; omega
      · go_wp2_with fail
        refine (HF.out _ _).mono ?_
        rintro e w' ⟨rfl, rfl⟩
        go_wp2
        go_ret
        exact ⟨⟨_, rfl, by rw [anyU_at hx.out hp]; simp⟩, rfl⟩
    · have hkn : k = s.size := by omega
      have HN := hide (anyU_end hkn HC.out)
      go_wp2
      go_ret
      exact ⟨⟨_, rfl, by rw [HN.out]; rfl⟩, rfl⟩

theorem containsFuncU_calls (b cap : Nat) (s : ByteArray) (f : Nat) (p : UInt8 → Bool) (w : World) (h : RdU w b s) (hs : s.size ≤ 1048576)
    (hcf : ∀ args w, Sem.run Tryz.prog (callFunc f args) w = .ok (.enter f args) w)
    (hf : ∀ (x : UInt8) w, Calls Tryz.prog f #[.int .u8 (x.toNat : Int)] w fun e w' => e = .returned (.bool (p x)) ∧ w = w') :
    Calls Tryz.prog 176 #[.slice (some ⟨b, 0, none⟩) s.size cap, .func (.func f) #[] #[]] w fun e w' => e = .returned (.bool ((bs s).any p)) ∧ w = w' := by
  have HF := hide hf
  have HCF := hide hcf
  clear hf hcf
  go_enter Tryz.func176, Tryz.ntmps176
  go_wp2_with fail
  refine (indexFuncU_calls _ _ _ _ p _ h hs HCF.out HF.out).mono ?_
  rintro e w' ⟨⟨i, rfl, hi⟩, rfl⟩
  have HI := hide hi
  clear hi
  go_wp2
  go_ret
  exact ⟨ret_bool HI.out, rfl⟩

theorem memo_any (s : ByteArray) (h : s.size ≤ 20) : memoB s = !(bs s).any (fun c => !printB c) := by
  unfold memoB
  rw [List.not_any_eq_all_not]
  simp [h]


end Go.Proofs.YtcclfmapbgdpdaaGreatDoor

namespace Go.Proofs.YtcclfmapbgdpdaaGreatDoor
open Go.RowKit
set_option linter.unusedVariables false

def withinB (n low high : Int) : Bool := decide (low ≤ n) && decide (n ≤ high)
theorem withinB_iff {n low high : Int} : withinB n low high = true ↔ low ≤ n ∧ n ≤ high := by simp [withinB]
theorem withinB_not {n low high : Int} : withinB n low high = false ↔ n < low ∨ high < n := by
  rw [← Bool.not_eq_true, withinB_iff]; omega

set_option maxHeartbeats 400000 in
theorem within_calls (n low high : Int) (w : World) : Calls Tryz.prog 75 #[.int .i64 n, .int .i64 low, .int .i64 high] w fun e w' => e = .returned (.bool (withinB n low high)) ∧ w = w' := by
  by_cases h : low ≤ n
  · have h1 : decide (low ≤ n) = true := by simpa using h
    go_enter Tryz.func75, Tryz.ntmps75
    go_wp2
    go_ret
    exact ⟨by simp [withinB, h], rfl⟩
  · have h1 : decide (low ≤ n) = false := by simpa using h
    go_enter Tryz.func75, Tryz.ntmps75
    go_wp2
    go_ret
    exact ⟨by simp [withinB, h1], rfl⟩

set_option maxHeartbeats 400000 in
theorem l00In_calls (n low high : Int) (w : World) : Calls Tryz.prog 162 #[.int .i64 n, .int .i64 low, .int .i64 high] w fun e w' => e = .returned (.bool (withinB n low high)) ∧ w = w' := by
  by_cases h : low ≤ n
  · have h1 : decide (low ≤ n) = true := by simpa using h
    go_enter Tryz.func162, Tryz.ntmps162
    go_wp2
    go_ret
    exact ⟨by simp [withinB, h], rfl⟩
  · have h1 : decide (low ≤ n) = false := by simpa using h
    go_enter Tryz.func162, Tryz.ntmps162
    go_wp2
    go_ret
    exact ⟨by simp [withinB, h1], rfl⟩


/-! ### strings in order -/
theorem bless_irrefl : ∀ (x : List UInt8), Op.bytesLess x x = false
  | [] => rfl
  | a :: x => by simp [Op.bytesLess, bless_irrefl x]
theorem bless_cons {a b : UInt8} {x y : List UInt8} : Op.bytesLess (a :: x) (b :: y) = true ↔ a.toNat < b.toNat ∨ (a = b ∧ Op.bytesLess x y = true) := by
  simp [Op.bytesLess, UInt8.lt_iff_toNat_lt]
theorem bless_trans : ∀ {x y z : List UInt8}, Op.bytesLess x y = true → Op.bytesLess y z = true → Op.bytesLess x z = true
  | _, [], _, h, _ => by simp [Op.bytesLess] at h
  | _, _ :: _, [], _, h => by simp [Op.bytesLess] at h
  | [], _ :: _, _ :: _, _, _ => by simp [Op.bytesLess]
  | a :: x, b :: y, c :: z, h, h' => by
    rw [bless_cons] at *
    rcases h with h | ⟨rfl, h⟩
    · rcases h' with h' | ⟨rfl, h'⟩
      · exact .inl (by omega)
      · exact .inl h
    · rcases h' with h' | ⟨rfl, h'⟩
      · exact .inl h'
      · exact .inr ⟨rfl, bless_trans h h'⟩
theorem bless_total : ∀ {x y : List UInt8}, Op.bytesLess x y = false → Op.bytesLess y x = false → x = y
  | [], [], _, _ => rfl
  | [], _ :: _, h, _ => by simp [Op.bytesLess] at h
  | _ :: _, [], _, h => by simp [Op.bytesLess] at h
  | a :: x, b :: y, h, h' => by
    have h1 : ¬ Op.bytesLess (a :: x) (b :: y) = true := by rw [h]; simp
    have h2 : ¬ Op.bytesLess (b :: y) (a :: x) = true := by rw [h']; simp
    rw [bless_cons] at h1 h2
    have hab : a = b := UInt8.toNat_inj.1 (by omega)
    subst hab
    rw [bless_total (x := x) (y := y) (by simpa using h1) (by simpa using h2)]
/-- A string stands before another. -/
def strLess (s t : ByteArray) : Bool := Op.bytesLess s.toList t.toList
theorem strLess_irrefl (s : ByteArray) : strLess s s = false := bless_irrefl _
theorem strLess_trans {s t u : ByteArray} (h : strLess s t = true) (h' : strLess t u = true) : strLess s u = true := bless_trans h h'
theorem strLess_total {s t : ByteArray} (h : strLess s t = false) (h' : strLess t s = false) : s = t := by
  have := bless_total h h'
  rw [toList_bs, toList_bs] at this
  exact bs_inj this
theorem strLess_asymm {s t : ByteArray} (h : strLess s t = true) : strLess t s = false := by
  rcases b_cases (strLess t s) with e | e
  · exact e
  · have := strLess_trans h e
    rw [strLess_irrefl] at this
    exact absurd this (by simp)
/-- The three ways in which two strings stand. -/
theorem str_ways (s t : ByteArray) :
    (Op.bytesLess s.toList t.toList = true ∧ Op.bytesLess t.toList s.toList = false ∧ (s.toList == t.toList) = false ∧ (t.toList == s.toList) = false ∧ strLess s t = true ∧ strLess t s = false ∧ s ≠ t)
    ∨ (Op.bytesLess s.toList t.toList = false ∧ Op.bytesLess t.toList s.toList = false ∧ (s.toList == t.toList) = true ∧ (t.toList == s.toList) = true ∧ strLess s t = false ∧ strLess t s = false ∧ s = t)
    ∨ (Op.bytesLess s.toList t.toList = false ∧ Op.bytesLess t.toList s.toList = true ∧ (s.toList == t.toList) = false ∧ (t.toList == s.toList) = false ∧ strLess s t = false ∧ strLess t s = true ∧ s ≠ t) := by
  rcases b_cases (strLess s t) with e | e
  · rcases b_cases (strLess t s) with e' | e'
    · have := strLess_total e e'
      subst this
      exact .inr (.inl ⟨e, e, by simp, by simp, e, e, rfl⟩)
    · have hne : s ≠ t := by rintro rfl; rw [e] at e'; exact absurd e' (by simp)
      have hl : s.toList ≠ t.toList := by rw [toList_bs, toList_bs]; exact fun h => hne (bs_inj h)
      exact .inr (.inr ⟨e, e', by simpa using hl, by simpa using hl.symm, e, e', hne⟩)
  · have e' := strLess_asymm e
    have hne : s ≠ t := by rintro rfl; rw [e] at e'; exact absurd e' (by simp)
    have hl : s.toList ≠ t.toList := by rw [toList_bs, toList_bs]; exact fun h => hne (bs_inj h)
    exact .inl ⟨e, e', by simpa using hl, by simpa using hl.symm, e, e', hne⟩

end Go.Proofs.YtcclfmapbgdpdaaGreatDoor

namespace Go.Proofs.YtcclfmapbgdpdaaGreatDoor
open Go.RowKit
set_option linter.unusedVariables false

theorem conv_one (w : World) (d : Int) :
    (convert 22 9 (.slice (some ⟨w.heap.size, 0, none⟩) 1 1)).run Tryz.prog (w.alloc (.cells #[.int .u8 d] 5)) = .ok (.string (ByteArray.empty.push (UInt8.ofNat d.toNat))) (w.alloc (.cells #[.int .u8 d] 5)) := by
  rw [run_convert_bytes_string _ _ _ 5 _ _ _ Tryz.underlying22 Tryz.underlying5 Tryz.underlying9]
  exact run_bytesToString _ _ _ _ [d] (run_loadCells_list _ _ [Value.int .u8 d] (cell_one_new _ _ _))

def mtF : Nat → Nat → ByteArray → ByteArray
  | 0, _, out => out
  | f + 1, k, out => if k = 0 then out else mtF f (k / 10) (ByteArray.empty.push (UInt8.ofNat (48 + k % 10)) ++ out)
/-- The mark of a number. -/
def mT (k : Nat) : ByteArray := ⟨#[109]⟩ ++ mtF k k ⟨#[]⟩
theorem mtF_eq : ∀ (k f : Nat) (out : ByteArray), k ≤ f → mtF f k out = mtF k k out := by
  intro k
  induction k using Nat.strongRecOn with
  | _ k ih =>
    intro f out hf
    rcases Nat.eq_zero_or_pos k with h0 | h0
    · subst h0
      cases f <;> simp [mtF]
    · obtain ⟨k', rfl⟩ : ∃ k', k = k' + 1 := ⟨k - 1, by omega⟩
      obtain ⟨f', rfl⟩ : ∃ f', f = f' + 1 := ⟨f - 1, by omega⟩
      have hd : (k' + 1) / 10 ≤ k' := by omega
      simp only [mtF]
      rw [if_neg (by omega), if_neg (by omega), ih _ (by omega) f' _ (by omega), ih _ (by omega) k' _ (by omega)]
theorem mtF_step {k : Nat} (h : 0 < k) (out : ByteArray) : mtF k k out = mtF (k / 10) (k / 10) (ByteArray.empty.push (UInt8.ofNat (48 + k % 10)) ++ out) := by
  obtain ⟨k', rfl⟩ : ∃ k', k = k' + 1 := ⟨k - 1, by omega⟩
  conv => lhs; simp only [mtF]
  rw [if_neg (by omega), mtF_eq _ _ _ (by omega)]

theorem mtF_size : ∀ (f k : Nat) (out : ByteArray), (mtF f k out).size ≤ out.size + k := by
  intro f
  induction f with
  | zero => intro k out; simp [mtF]
  | succ f ih =>
    intro k out
    simp only [mtF]
    split
    · omega
    · refine Nat.le_trans (ih _ _) ?_
      rw [ByteArray.size_append]
      have : (ByteArray.empty.push (UInt8.ofNat (48 + k % 10))).size = 1 := rfl
      omega
theorem mT_size (k : Nat) : (mT k).size ≤ k + 1 := by
  unfold mT
  rw [ByteArray.size_append]
  have := mtF_size k k ⟨#[]⟩
  have e1 : (⟨#[109]⟩ : ByteArray).size = 1 := rfl
  have e2 : (⟨#[]⟩ : ByteArray).size = 0 := rfl
  omega

end Go.Proofs.YtcclfmapbgdpdaaGreatDoor

namespace Go.Proofs.YtcclfmapbgdpdaaGreatDoor
open Go.RowKit
set_option linter.unusedVariables false

theorem Tryz.infoB : (Tryz.prog.info? 9).map (fun i => (i.zero, i.size, i.bytes)) = some (some (.string ⟨#[]⟩), 1, 16) := by kernel_rfl
theorem appB {w : World} {ops : Array Oper} {rest : List Oper} {o : Oper} {a : Act} {Q : Exit → Act → World → Prop} (hgd : o.guard = none) (s x : Operand)
    (ho : o.op = .call { callee := .builtin .append, args := #[s, x], argTypes := #[54, 54] })
    (base : Nat) (v : Value) (n : Nat) (xs : List ByteArray) (u : ByteArray) (hs : a.eval s = v) (hown : w.ownsRow base 9 1 v n (cK kB xs)) (hx : a.eval x = .slice (some ⟨w.heap.size, 0, none⟩) 1 1)
    (hn : n ≤ 1099511627776) (hbase : base ≤ w.heap.size)
    (h : ∀ v' w', w'.ownsRow base 9 1 v' (n + 1) (cK kB (xs ++ [u])) → Below base w w' → w.heap.size ≤ w'.heap.size → wpList Tryz.prog ops Q rest (a.put o.dst v') w') : wpList Tryz.prog ops Q (o :: rest) a (w.alloc (.cells #[.string u] 9)) :=
  appK_gen kB hgd s x 54 ho base 9 (.string ⟨#[]⟩) 16 Tryz.underlying54 Tryz.infoB rfl (by decide) (by omega) v n xs u hs hown hx hn hbase h
theorem appsB {w : World} {ops : Array Oper} {rest : List Oper} {o : Oper} {a : Act} {Q : Exit → Act → World → Prop} (hgd : o.guard = none) (s x : Operand)
    (ho : o.op = .call { callee := .builtin .append, args := #[s, x], argTypes := #[54, 54] })
    (base : Nat) (v : Value) (n : Nat) (xs : List ByteArray) (hs : a.eval s = v) (hown : w.ownsRow base 9 1 v n (cK kB xs))
    (Ax : Option Addr) (m cx : Nat) (ys : List ByteArray) (hx : a.eval x = .slice Ax m cx) (hy : Rd w Ax m 1 (cK kB ys)) (hn : n + m ≤ 1099511627776) (hbase : base ≤ w.heap.size)
    (h : ∀ v' w', w'.ownsRow base 9 1 v' (n + m) (cK kB (xs ++ ys)) → Below base w w' → w.heap.size ≤ w'.heap.size → wpList Tryz.prog ops Q rest (a.put o.dst v') w') : wpList Tryz.prog ops Q (o :: rest) a w :=
  appKs_gen kB hgd s x 54 ho base 9 (.string ⟨#[]⟩) 16 Tryz.underlying54 Tryz.infoB rfl (by decide) (by omega) v n xs hs hown Ax m cx ys hx hy hn hbase h




def markBL (k : Nat) : Nat → List ByteArray
  | 0 => []
  | n + 1 => markBL k n ++ [mT (k + n)]
theorem markBL_len (k n : Nat) : (markBL k n).length = n := by
  induction n with
  | zero => rfl
  | succ n ih => simp [markBL, ih]
theorem markBL_at (k : Nat) {n i : Nat} (h : i < n) : (markBL k n)[i]? = some (mT (k + i)) := by
  induction n with
  | zero => omega
  | succ n ih =>
    rw [markBL, List.getElem?_append, markBL_len]
    split
    · exact ih (by omega)
    · have : i = n := by omega
      subst this
      simp
theorem markBL_fine {k n : Nat} (hk : k + n ≤ 4611686018427387904) : ∀ x ∈ markBL k n, kB.fine x := by
  intro x hx
  obtain ⟨i, hi⟩ := List.mem_iff_getElem?.1 hx
  have hl := (List.getElem?_eq_some_iff.1 hi).1
  rw [markBL_len] at hl
  rw [markBL_at k hl] at hi
  obtain rfl := Option.some.inj hi
  exact Nat.le_trans (mT_size _) (by omega)



end Go.Proofs.YtcclfmapbgdpdaaGreatDoor

namespace Go.Proofs.YtcclfmapbgdpdaaGreatDoor
open Go.RowKit
set_option linter.unusedVariables false

/-- The strings rise strictly. -/
def SortB (xs : List ByteArray) : Prop := xs.Pairwise (fun a b => strLess a b = true)
theorem less_ne {s t : ByteArray} (h : strLess s t = true) : s ≠ t := by rintro rfl; rw [strLess_irrefl] at h; cases h
theorem not_less {s t : ByteArray} (h : strLess s t = false) (hne : s ≠ t) : strLess t s = true := by
  rcases b_cases (strLess t s) with e | e
  · exact absurd (strLess_total h e) hne
  · exact e
/-- Two sorted lists of the same strings are one. -/
theorem sortB_ext : ∀ {xs ys : List ByteArray}, SortB xs → SortB ys → (∀ x, x ∈ xs ↔ x ∈ ys) → xs = ys
  | [], [], _, _, _ => rfl
  | [], y :: ys, _, _, h => by have := (h y).2 (by simp); simp at this
  | x :: xs, [], _, _, h => by have := (h x).1 (by simp); simp at this
  | x :: xs, y :: ys, h1, h2, h => by
    unfold SortB at h1 h2
    rw [List.pairwise_cons] at h1 h2
    have hxy : x = y := by
      rcases List.mem_cons.1 ((h x).1 (by simp)) with e | e
      · exact e
      · rcases List.mem_cons.1 ((h y).2 (by simp)) with e' | e'
        · exact e'.symm
        · have := strLess_trans (h1.1 y e') (h2.1 x e)
          rw [strLess_irrefl] at this
          cases this
    subst hxy
    rw [sortB_ext h1.2 h2.2 (fun z => ?_)]
    constructor
    · intro hz
      rcases List.mem_cons.1 ((h z).1 (by simp [hz])) with rfl | e
      · have := h1.1 z hz
        rw [strLess_irrefl] at this
        cases this
      · exact e
    · intro hz
      rcases List.mem_cons.1 ((h z).2 (by simp [hz])) with rfl | e
      · have := h2.1 z hz
        rw [strLess_irrefl] at this
        cases this
      · exact e

/-- Is the string there? -/
def inB (xs : List ByteArray) (x : ByteArray) : Bool := xs.any fun y => decide (y = x)
theorem inB_iff {xs : List ByteArray} {x : ByteArray} : inB xs x = true ↔ x ∈ xs := by
  unfold inB
  rw [List.any_eq_true]
  constructor
  · rintro ⟨y, hy, h⟩
    rw [decide_eq_true_iff] at h
    exact h ▸ hy
  · intro h
    exact ⟨x, h, by simp⟩
theorem inB_not {xs : List ByteArray} {x : ByteArray} : inB xs x = false ↔ x ∉ xs := by
  rw [← inB_iff]; simp
/-- Does the string at k come behind the one before it? -/
def upB (xs : List ByteArray) : Nat → Bool
  | 0 => true
  | k + 1 => strLess (xs.getD k ⟨#[]⟩) (xs.getD (k + 1) ⟨#[]⟩)
theorem upB_at {xs : List ByteArray} {k : Nat} {a b : ByteArray} (h1 : xs[k]? = some a) (h2 : xs[k + 1]? = some b) : upB xs (k + 1) = strLess a b := by
  simp [upB, List.getD, h1, h2]
/-- The strings rise if each comes behind the one before it. -/
theorem sortB_take {xs : List ByteArray} {k : Nat} {x : ByteArray} (hx : xs[k]? = some x) (h : SortB (xs.take k)) (hu : upB xs k = true) : SortB (xs.take (k + 1)) := by
  rw [take_snoc hx]
  unfold SortB at *
  rw [List.pairwise_append]
  refine ⟨h, by simp, fun a ha b hb => ?_⟩
  simp only [List.mem_singleton] at hb
  subst hb
  cases k with
  | zero => simp at ha
  | succ k =>
    have hk := (List.getElem?_eq_some_iff.1 hx).1
    have hy : xs[k]? = some xs[k] := List.getElem?_eq_getElem (by omega)
    rw [upB_at hy hx] at hu
    rw [take_snoc hy] at h ha
    rw [List.pairwise_append] at h
    rcases List.mem_append.1 ha with ha | ha
    · exact strLess_trans (h.2.2 a ha _ (by simp)) hu
    · simp only [List.mem_singleton] at ha
      subst ha
      exact hu
theorem sortB_up {xs : List ByteArray} (h : SortB xs) {k : Nat} (hk : k < xs.length) : upB xs k = true := by
  cases k with
  | zero => rfl
  | succ k =>
    rw [upB_at (List.getElem?_eq_getElem (by omega)) (List.getElem?_eq_getElem hk)]
    exact List.pairwise_iff_getElem.1 h k (k + 1) (by omega) hk (by omega)
theorem sortB_nodup {xs : List ByteArray} (h : SortB xs) : xs.Nodup := by
  refine List.Pairwise.imp ?_ h
  intro a b hab
  exact less_ne hab
theorem nodup_len {α : Type} [DecidableEq α] : ∀ {ys xs : List α}, xs.Nodup → (∀ x ∈ xs, x ∈ ys) → xs.length ≤ ys.length
  | [], xs, _, h => by
    cases xs with
    | nil => simp
    | cons x xs => have := h x (by simp); simp at this
  | y :: ys, xs, hn, h => by
    have h1 : (xs.filter (fun x => decide (x ≠ y))).length ≤ ys.length := by
      refine nodup_len (hn.filter _) (fun x hx => ?_)
      obtain ⟨hx, he⟩ := List.mem_filter.1 hx
      have he' : x ≠ y := by simpa using he
      rcases List.mem_cons.1 (h x hx) with e | e
      · exact absurd e he'
      · exact e
    have h2 : xs.length ≤ (xs.filter (fun x => decide (x ≠ y))).length + 1 := by
      clear h h1
      induction xs with
      | nil => simp
      | cons x xs ih =>
        rw [List.nodup_cons] at hn
        by_cases e : x = y
        · subst e
          have : xs.filter (fun z => decide (z ≠ x)) = xs := List.filter_eq_self.2 fun a ha => by
            simp only [ne_eq, decide_not, Bool.not_eq_true', decide_eq_false_iff_not]
            rintro rfl
            exact hn.1 ha
          rw [List.filter_cons_of_neg (by simp), this]
          simp
        · rw [List.filter_cons_of_pos (by simpa using e)]
          have := ih hn.2
          simp only [List.length_cons]
          omega
    simp only [List.length_cons]
    omega

end Go.Proofs.YtcclfmapbgdpdaaGreatDoor

namespace Go.Proofs.YtcclfmapbgdpdaaGreatDoor
open Go.RowKit

theorem Tryz.info2 : (Tryz.prog.info? 2).map (fun i => (i.zero, i.size, i.bytes)) = some (some (.int .i64 0), 1, 8) := by kernel_rfl

end Go.Proofs.YtcclfmapbgdpdaaGreatDoor

namespace Go.Proofs.YtcclfmapbgdpdaaGreatDoor
open Go.RowKit

theorem appI {w : World} {ops : Array Oper} {rest : List Oper} {o : Oper} {a : Act} {Q : Exit → Act → World → Prop} (hgd : o.guard = none) (s x : Operand)
    (ho : o.op = .call { callee := .builtin .append, args := #[s, x], argTypes := #[24, 24] })
    (base : Nat) (v : Value) (n : Nat) (xs : List Int) (u : Int) (hs : a.eval s = v) (hown : w.ownsRow base 2 1 v n (cI xs)) (hx : a.eval x = .slice (some ⟨w.heap.size, 0, none⟩) 1 1)
    (hn : n ≤ 1099511627776) (hbase : base ≤ w.heap.size)
    (h : ∀ v' w', w'.ownsRow base 2 1 v' (n + 1) (cI (xs ++ [u])) → Below base w w' → w.heap.size ≤ w'.heap.size → wpList Tryz.prog ops Q rest (a.put o.dst v') w') : wpList Tryz.prog ops Q (o :: rest) a (w.alloc (.cells #[.int .i64 u] 2)) :=
  app1_gen hgd s x 24 ho base 2 (.int .i64 0) 8 Tryz.underlying24 Tryz.info2 rfl (by omega) v n (cI xs) (.int .i64 u) rfl hs hown hx hn hbase
    (fun v' w' h1 h2 h3 => h v' w' (by simpa [cI] using h1) h2 h3)

end Go.Proofs.YtcclfmapbgdpdaaGreatDoor

namespace Go.Proofs.YtcclfmapbgdpdaaGreatDoor

/-- The nearest quotient, halves away from zero, for a divisor that is greater than zero. -/
def nearZ (a b : Int) : Int := if 0 ≤ a then (2 * a + b) / (2 * b) else -((b - 2 * a) / (2 * b))

theorem near_step (a b : Int) (ha : 0 ≤ a) (hb : 0 < b) : (2 * a + b) / (2 * b) = if b - a % b ≤ a % b then a / b + 1 else a / b := by
  have h1 := Int.emod_add_mul_ediv a b
  have h2 := Int.emod_nonneg a (by omega : b ≠ 0)
  have h3 := Int.emod_lt_of_pos a hb
  generalize a % b = r at *
  generalize a / b = q at *
  subst h1
  have e : 2 * (r + b * q) + b = (2 * r + b) + (2 * b) * q := by
    rw [Int.mul_assoc 2 b q]; omega
  rw [e, Int.add_mul_ediv_left _ _ (by omega : (2 * b) ≠ 0)]
  split
  · rename_i h
    have : (2 * r + b) / (2 * b) = 1 := by
      rw [show 2 * r + b = (2 * r - b) + (2 * b) * 1 by omega, Int.add_mul_ediv_left _ _ (by omega : (2 * b) ≠ 0), Int.ediv_eq_zero_of_lt (by omega) (by omega)]
      rfl
    omega
  · rename_i h
    rw [Int.ediv_eq_zero_of_lt (by omega) (by omega)]
    omega

theorem near_neg (a b : Int) (ha : a < 0) (hb : 0 < b) : nearZ a b = if b - -(a.tmod b) ≤ -(a.tmod b) then a.tdiv b - 1 else a.tdiv b := by
  have h := near_step (-a) b (by omega) hb
  obtain ⟨c, rfl⟩ : ∃ c, a = -c := ⟨-a, by omega⟩
  rw [nearZ, if_neg (by omega), show b - 2 * -c = 2 * c + b by omega]
  rw [Int.neg_neg] at h
  rw [h, Int.neg_tmod, Int.neg_tdiv, Int.neg_neg, Int.tmod_eq_emod_of_nonneg (by omega), Int.tdiv_eq_ediv_of_nonneg (by omega)]
  split <;> omega

theorem near_pos (a b : Int) (ha : 0 ≤ a) (hb : 0 < b) : nearZ a b = if b - a % b ≤ a % b then a / b + 1 else a / b := by
  rw [nearZ, if_pos ha, near_step a b ha hb]

theorem tmod_bd (a b : Int) (ha : a < 0) (hb : 0 < b) : -b < a.tmod b ∧ a.tmod b ≤ 0 := by
  obtain ⟨c, rfl⟩ : ∃ c, a = -c := ⟨-a, by omega⟩
  rw [Int.neg_tmod, Int.tmod_eq_emod_of_nonneg (by omega)]
  have h2 := Int.emod_nonneg c (by omega : b ≠ 0)
  have h3 := Int.emod_lt_of_pos c hb
  omega
theorem tdiv_bd (a b : Int) (ha : a < 0) (hb : 0 < b) : a ≤ a.tdiv b ∧ a.tdiv b ≤ 0 := by
  obtain ⟨c, rfl⟩ : ∃ c, a = -c := ⟨-a, by omega⟩
  rw [Int.neg_tdiv, Int.tdiv_eq_ediv_of_nonneg (by omega)]
  have h2 := Int.ediv_nonneg (a := c) (b := b) (by omega) (by omega)
  have h3 := Int.ediv_le_self (a := c) b (by omega)
  omega

/-- Between the bounds of what is divided. -/
theorem nearZ_bd (a b M : Int) (hb : 0 < b) (h1 : -(M * b) ≤ a) (h2 : a ≤ M * b) : -M ≤ nearZ a b ∧ nearZ a b ≤ M := by
  unfold nearZ
  split
  · rename_i h
    refine ⟨?_, ?_⟩
    · have := Int.ediv_nonneg (a := 2 * a + b) (b := 2 * b) (by omega) (by omega)
      have : 0 ≤ M := by
        by_cases hM : 0 ≤ M
        · exact hM
        · have := Int.mul_neg_of_neg_of_pos (by omega : M < 0) hb; omega
      omega
    · have : (2 * a + b) / (2 * b) < M + 1 := by
        rw [Int.ediv_lt_iff_lt_mul (by omega)]
        rw [show (M + 1) * (2 * b) = 2 * (M * b) + 2 * b by rw [Int.add_mul, Int.mul_left_comm]; omega]
        omega
      omega
  · rename_i h
    refine ⟨?_, ?_⟩
    · have : (b - 2 * a) / (2 * b) < M + 1 := by
        rw [Int.ediv_lt_iff_lt_mul (by omega)]
        rw [show (M + 1) * (2 * b) = 2 * (M * b) + 2 * b by rw [Int.add_mul, Int.mul_left_comm]; omega]
        omega
      omega
    · have := Int.ediv_nonneg (a := b - 2 * a) (b := 2 * b) (by omega) (by omega)
      have : 0 ≤ M := by
        by_cases hM : 0 ≤ M
        · exact hM
        · have := Int.mul_neg_of_neg_of_pos (by omega : M < 0) hb; omega
      omega

/-- The sum of a list. -/
def sumZ : List Int → Int
  | [] => 0
  | x :: r => x + sumZ r
theorem sumZ_append (a b : List Int) : sumZ (a ++ b) = sumZ a + sumZ b := by
  induction a with
  | nil => simp [sumZ]
  | cons x r ih => simp [sumZ, ih]; omega
theorem sumZ_snoc {xs : List Int} {k : Nat} {x : Int} (h : xs[k]? = some x) : sumZ (xs.take (k + 1)) = sumZ (xs.take k) + x := by
  rw [take_snoc h, sumZ_append]; simp [sumZ]
theorem sumZ_bd (lo hi : Int) (l : List Int) (h : ∀ x ∈ l, lo ≤ x ∧ x ≤ hi) : lo * l.length ≤ sumZ l ∧ sumZ l ≤ hi * l.length := by
  induction l with
  | nil => simp [sumZ]
  | cons x r ih =>
    have h1 := h x (by simp)
    have h2 := ih (fun y hy => h y (by simp [hy]))
    simp only [sumZ, List.length_cons, Int.natCast_add, Int.mul_add]
    omega

end Go.Proofs.YtcclfmapbgdpdaaGreatDoor

namespace Go.Proofs.YtcclfmapbgdpdaaGreatDoor
open Go.RowKit
set_option linter.unusedVariables false

def cY (bs : List Int) : List Value := bs.map (Value.int .u8)
/-- A []byte that reads as bs. -/
def RdY (w : World) (A : Option Addr) (n : Nat) (bs : List Int) : Prop := Rd w A n 1 (cY bs) ∧ ∀ x ∈ bs, 0 ≤ x ∧ x ≤ 255
theorem RdY.len {w : World} {A : Option Addr} {n : Nat} {bs : List Int} (h : RdY w A n bs) : bs.length = n := by simpa [cY] using h.1.1
theorem RdY.below {w w' : World} {A : Option Addr} {n B : Nat} {bs : List Int} (h : RdY w A n bs) (hb : Below B w w') (hB : w.heap.size ≤ B) : RdY w' A n bs := ⟨h.1.below hb hB, h.2⟩
/-- A source at block g, at place a of the bytes .slice A n c. -/
structure Src (w : World) (g : Nat) (A : Option Addr) (n c a : Nat) : Prop where
  at_ : ∃ sd : Int, w.heap[g]? = some (.cells #[.slice A n c, .int .i64 a, .int .u64 sd] 175 (0, 0))
  code : ∀ k, k < n → ∃ b off v, A = some ⟨b, off, none⟩ ∧ b < g ∧ w.cell? ⟨b, off + k, none⟩ = some (.int .u8 v) ∧ 0 ≤ v ∧ v ≤ 255
  small : n ≤ 1048576
theorem Src.lt {w : World} {g n c a : Nat} {A : Option Addr} (h : Src w g A n c a) : g < w.heap.size := by
  obtain ⟨sd, hs⟩ := h.at_
  exact (Array.getElem?_eq_some_iff.1 hs).1
theorem Src.keep {w w' : World} {g n c a : Nat} {A : Option Addr} (h : Src w g A n c a) (hk : ∀ k, k ≤ g → w'.heap[k]? = w.heap[k]?) : Src w' g A n c a := by
  obtain ⟨sd, hs⟩ := h.at_
  refine ⟨⟨sd, by rw [hk g (Nat.le_refl _)]; exact hs⟩, fun k hkn => ?_, h.small⟩
  obtain ⟨b, off, v, h1, h2, h3, h4⟩ := h.code k hkn
  refine ⟨b, off, v, h1, h2, ?_, h4⟩
  rw [← h3]
  simp only [World.cell?, hk b (by omega)]
theorem Src.below {w w' : World} {g n c a B : Nat} {A : Option Addr} (h : Src w g A n c a) (hb : Below B w w') (hB : g < B) : Src w' g A n c a := h.keep fun k hk => hb.block k (by omega)
theorem Src.wr {w w' : World} {g n c a lo hi : Nat} {A : Option Addr} (h : Src w g A n c a) (hw : Wr lo hi w w') (hl : g < lo) : Src w' g A n c a := h.keep fun k hk => hw.block k (by have := h.lt; omega) (by omega)
/-- The cells of a source. -/
theorem Src.cells {w : World} {g n c a : Nat} {A : Option Addr} (h : Src w g A n c a) : ∃ sd : Int, w.cell? ⟨g, 0, none⟩ = some (.slice A n c) ∧ w.cell? ⟨g, 1, none⟩ = some (.int .i64 a) ∧ w.cell? ⟨g, 2, none⟩ = some (.int .u64 sd) ∧ w.frozen? ⟨g, 1, none⟩ = false ∧ w.frozen? ⟨g, 2, none⟩ = false ∧
    Hid (∀ a' : Nat, Src (w.setCell ⟨g, 1, none⟩ (.int .i64 a')) g A n c a') ∧ Hid (∀ sd' : Int, Src (w.setCell ⟨g, 2, none⟩ (.int .u64 sd')) g A n c a) := by
  obtain ⟨sd, hs⟩ := h.at_
  have code : ∀ (off' : Nat) (u : Value) k, k < n → ∃ b off v, A = some ⟨b, off, none⟩ ∧ b < g ∧ (w.setCell ⟨g, off', none⟩ u).cell? ⟨b, off + k, none⟩ = some (.int .u8 v) ∧ 0 ≤ v ∧ v ≤ 255 := fun off' u k hk => by
    obtain ⟨b, off, v, h1, h2, h3, h4⟩ := h.code k hk
    refine ⟨b, off, v, h1, h2, ?_, h4⟩
    rw [World.cell?_setCell_other _ _ _ _ (by intro e; simp only [Addr.mk.injEq] at e; omega)]
    exact h3
  have f1 := heap_setCell_same w g 1 #[.slice A n c, .int .i64 a, .int .u64 sd] 175
  have f2 := heap_setCell_same w g 2 #[.slice A n c, .int .i64 a, .int .u64 sd] 175
  refine ⟨sd, ?_, ?_, ?_, ?_, ?_, fun a' => ⟨⟨sd, by simpa using f1 _ hs⟩, code 1 _, h.small⟩, fun sd' => ⟨⟨sd', by simpa using f2 _ hs⟩, code 2 _, h.small⟩⟩
  · exact (cell_of_row w g 0 _ _ (0, 0) hs).trans rfl
  · exact (cell_of_row w g 1 _ _ (0, 0) hs).trans rfl
  · exact (cell_of_row w g 2 _ _ (0, 0) hs).trans rfl
  · exact frozen_of_row w g 1 _ _ hs
  · exact frozen_of_row w g 2 _ _ hs

theorem Src.next {w : World} {g n c a : Nat} {A : Option Addr} (h : Src w g A n c a) (k : Nat) (sd : Int) : Src (((w.drewN k).setCell ⟨g, 1, none⟩ (.int .i64 ((a + 1 : Nat) : Int))).setCell ⟨g, 2, none⟩ (.int .u64 sd)) g A n c (a + 1) ∧
    Wr g (g + 1) w (((w.drewN k).setCell ⟨g, 1, none⟩ (.int .i64 ((a + 1 : Nat) : Int))).setCell ⟨g, 2, none⟩ (.int .u64 sd)) := by
  have h0 : Src (w.drewN k) g A n c a := h.keep fun _ _ => rfl
  obtain ⟨_, _, _, _, _, _, K1, _⟩ := h0.cells
  obtain ⟨_, _, _, _, _, _, _, K2⟩ := (K1.out (a + 1)).cells
  exact ⟨K2.out sd, (((Wr.refl g (g + 1) w).drewN k).trans (Wr.setCell _ _ (Nat.le_refl _) (Nat.lt_succ_self _))).trans (Wr.setCell _ _ (Nat.le_refl _) (Nat.lt_succ_self _))⟩
theorem u64_and (x : Int) : 0 ≤ wrap64 (bits .and .u64 x 255) ∧ wrap64 (bits .and .u64 x 255) ≤ 255 := by
  have h : (BitVec.ofInt 64 x &&& BitVec.ofInt 64 255).toNat ≤ 255 := by
    rw [BitVec.toNat_and]
    exact Nat.le_trans Nat.and_le_right (by decide)
  have e : bits .and .u64 x 255 = IntKind.u64.wrap ((BitVec.ofInt 64 x &&& BitVec.ofInt 64 255).toNat : Int) := rfl
  rw [e]
  generalize (BitVec.ofInt 64 x &&& BitVec.ofInt 64 255).toNat = y at h
  have e2 : IntKind.u64.wrap (y : Int) = y := by simp [IntKind.wrap, IntKind.bits, IntKind.signed]; omega
  rw [e2]
  unfold wrap64
  omega

set_option maxHeartbeats 2000000 in
theorem next_calls (g n c a : Nat) (A : Option Addr) (w : World) (h : Src w g A n c a) (ha : a ≤ 1099511627776) :
    Calls Tryz.prog 150 #[.pointer (some ⟨g, 0, none⟩)] w fun e w' => ∃ x : Int, e = .returned (.int .i64 x) ∧ 0 ≤ x ∧ x ≤ 255 ∧ Src w' g A n c (a + 1) ∧ Wr g (g + 1) w w' := by
  have hn := h.small
  have HS := hide h
  obtain ⟨sd, c0, c1, c2, f1, f2, K1, K2⟩ := h.cells
  clear h K1 K2
  by_cases hlt : a < n
  · obtain ⟨b, off, v, rfl, hb, hc, hv1, hv2⟩ := HS.out.code a hlt
    have i0 : (a : Int) < (n : Int) := by omega
    have i1 : (0 : Int) ≤ (a : Int) := by omega
    have i2 : (a : Int) + 1 ≤ (n : Int) := by omega
    go_enter Tryz.func150, Tryz.ntmps150
    go_wp2
    go_quiet (fail)
    obtain ⟨nq1, hnq⟩ : ∃ q, q = nq := ⟨_, rfl⟩
    rw [← hnq]
    clear hnq
    go_wp2
    go_quiet (fail)
    go_wp2
    generalize (IntKind.u64.wrap (IntKind.u64.wrap (IntKind.u64.wrap (sd * 6364136223846793005) + v) + 1442695040888963407)) = sd2
    obtain ⟨wz, hwz⟩ : ∃ wz, wz = ((w.drewN (nq1 + nq)).setCell ⟨g, 1, none⟩ (.int .i64 ((a : Int) + 1))).setCell ⟨g, 2, none⟩ (.int .u64 sd2) := ⟨_, rfl⟩
    have N2 := HS.out.next (nq1 + nq) sd2
    rw [show ((a + 1 : Nat) : Int) = (a : Int) + 1 by omega, ← hwz] at N2
    rw [← hwz]
    have N3 := hide N2
    obtain ⟨sd3, d0, d1, d2, _, _, _, _⟩ := N2.1.cells
    rw [show ((a + 1 : Nat) : Int) = (a : Int) + 1 by omega] at d1
    clear hwz N2 c0 c1 c2 f1 f2
    go_quiet (fail)
    go_wp2
    go_ret
    exact ⟨v, rfl, hv1, hv2, N3.out.1.keep fun _ _ => rfl, N3.out.2.drewN _⟩
  · have i2 : ¬ (a : Int) + 1 ≤ (n : Int) := by omega
    go_enter Tryz.func150, Tryz.ntmps150
    go_wp2
    go_quiet (fail)
    go_wp2
    generalize (IntKind.u64.wrap (IntKind.u64.wrap (IntKind.u64.wrap (sd * 6364136223846793005)) + 1442695040888963407)) = sd2
    obtain ⟨wz, hwz⟩ : ∃ wz, wz = ((w.drewN (nq)).setCell ⟨g, 1, none⟩ (.int .i64 ((a : Int) + 1))).setCell ⟨g, 2, none⟩ (.int .u64 sd2) := ⟨_, rfl⟩
    have N2 := HS.out.next (nq) sd2
    rw [show ((a + 1 : Nat) : Int) = (a : Int) + 1 by omega, ← hwz] at N2
    rw [← hwz]
    have N3 := hide N2
    obtain ⟨sd3, d0, d1, d2, _, _, _, _⟩ := N2.1.cells
    rw [show ((a + 1 : Nat) : Int) = (a : Int) + 1 by omega] at d1
    clear hwz N2 c0 c1 c2 f1 f2
    go_quiet (fail)
    go_wp2
    go_ret
    exact ⟨_, rfl, (u64_and _).1, (u64_and _).2, N3.out.1.keep fun _ _ => rfl, N3.out.2.drewN _⟩


/-- What a draw below n leaves. -/
def PickPost (g : Nat) (A : Option Addr) (n c a : Nat) (m : Int) (w : World) (e : Ending) (w' : World) : Prop :=
  ∃ (x : Nat) (a' : Nat), e = .returned (.int .i64 (x : Int)) ∧ ((x : Int) < m ∨ x = 0) ∧ a' ≤ a + 2 ∧ Src w' g A n c a' ∧ Wr g (g + 1) w w'

theorem rem_nat {x m : Int} (h0 : 0 ≤ x) (hm : ¬ m ≤ 1) : ∃ k : Nat, (k : Int) = x % m ∧ (k : Int) < m := by
  have h1 := Int.emod_nonneg x (show m ≠ 0 by omega)
  have h2 := Int.emod_lt_of_pos x (show 0 < m by omega)
  exact ⟨(x % m).toNat, by omega, by omega⟩

set_option maxHeartbeats 2000000 in
theorem pick_calls (g n c a : Nat) (A : Option Addr) (m : Int) (w : World) (h : Src w g A n c a) (ha : a ≤ 549755813888) (hm : I64 m) :
    Calls Tryz.prog 70 #[.pointer (some ⟨g, 0, none⟩), .int .i64 m] w (PickPost g A n c a m w) := by
  have HS := hide h
  by_cases h1 : m ≤ 1
  · clear h
    go_enter Tryz.func70, Tryz.ntmps70
    go_wp2
    go_ret
    exact ⟨0, a, rfl, .inr rfl, by omega, HS.out, Wr.refl _ _ _⟩
  · have N1 := hide (next_calls g n c a A w h (by omega))
    clear h
    have hm0 : m ≠ 0 := by omega
    go_enter Tryz.func70, Tryz.ntmps70
    go_wp2_with fail
    refine N1.out.mono ?_
    rintro e w1 ⟨x, rfl, hx1, hx2, s1, r1⟩
    have HS1 := hide (And.intro s1 r1)
    clear s1 r1 N1
    by_cases h2 : 200 < m
    · have N2 := hide (next_calls g n c (a + 1) A w1 HS1.out.1 (by omega))
      go_wp2_with fail
      refine N2.out.mono ?_
      rintro e w2 ⟨y, rfl, hy1, hy2, s2, r2⟩
      have HS2 := hide (And.intro s2 (HS1.out.2.trans r2))
      clear s2 r2 N2
      obtain ⟨k, hk, hkm⟩ := rem_nat (m := m) (show 0 ≤ x * 256 + y by omega) (by omega)
      have HK := hide (And.intro hk hkm)
      clear hk hkm
      go_wp2
      go_ret
      exact ⟨k, a + 2, by rw [HK.out.1]; rfl, .inl HK.out.2, Nat.le_refl _, HS2.out.1, HS2.out.2⟩
    · obtain ⟨k, hk, hkm⟩ := rem_nat (m := m) hx1 (by omega)
      have HK := hide (And.intro hk hkm)
      clear hk hkm
      go_wp2
      all_goals go_ret
      all_goals exact ⟨k, a + 1, by rw [HK.out.1]; rfl, .inl HK.out.2, by omega, HS1.out.1, HS1.out.2⟩

theorem one_calls (g n c a : Nat) (A : Option Addr) (m : Int) (w : World) (h : Src w g A n c a) (ha : a ≤ 549755813888) (hm : I64 m) :
    Calls Tryz.prog 83 #[.pointer (some ⟨g, 0, none⟩), .int .i64 m] w fun e w' => ∃ (b : Bool) (a' : Nat), e = .returned (.bool b) ∧ a' ≤ a + 2 ∧ Src w' g A n c a' ∧ Wr g (g + 1) w w' := by
  have P := hide (pick_calls g n c a A m w h ha hm)
  clear h
  go_enter Tryz.func83, Tryz.ntmps83
  go_wp2_with fail
  refine P.out.mono ?_
  rintro e w1 ⟨x, a', rfl, hx, ha', s1, r1⟩
  have HS := hide (And.intro ha' (And.intro s1 r1))
  clear s1 r1 ha' hx
  go_wp2
  go_ret
  exact ⟨_, a', rfl, HS.out.1, HS.out.2.1, HS.out.2.2⟩

set_option maxHeartbeats 1000000 in
theorem among_calls (g n c a lo hi l cap : Nat) (A B : Option Addr) (xs : List Int) (w : World) (h : Src w g A n c a) (ha : a ≤ 549755813888) (hf : FrI w lo hi 2 B l xs) (hlo : g < lo) (hl : 1 ≤ l) (hl2 : l ≤ 1000) :
    Calls Tryz.prog 84 #[.pointer (some ⟨g, 0, none⟩), .slice B l cap] w fun e w' => ∃ (x : Int) (a' : Nat), e = .returned (.int .i64 x) ∧ x ∈ xs ∧ I64 x ∧ a' ≤ a + 2 ∧ Src w' g A n c a' ∧ Wr g (g + 1) w w' := by
  have P := hide (pick_calls g n c a A l w h ha (by unfold I64; omega))
  have HF := hide hf
  clear h hf
  go_enter Tryz.func84, Tryz.ntmps84
  go_wp2_with fail
  refine P.out.mono ?_
  rintro e w1 ⟨x, a', rfl, hx, ha', s1, r1⟩
  have hxl : x < l := by omega
  obtain ⟨b, off, y, rfl, hb, hy, hc, hy1, hy2⟩ := (HF.out.wr r1 (.inr hlo)).rd.at hxl
  have HS := hide (And.intro ha' (And.intro s1 r1))
  clear s1 r1 ha' hx P
  have i0 : (0 : Int) ≤ (x : Int) := by omega
  have i1 : (x : Int) < (l : Int) := by omega
  go_wp2
  go_ret
  exact ⟨y, a', rfl, List.mem_of_getElem? hy.out, ⟨hy1, hy2⟩, HS.out.1, HS.out.2.1, HS.out.2.2⟩

/-- A source is made. -/
theorem l00From_calls (n c : Nat) (A : Option Addr) (bs : List Int) (w : World) (h : RdY w A n bs) (hn : n ≤ 1048576) :
    Calls Tryz.prog 68 #[.slice A n c] w fun e w' => e = .returned (.pointer (some ⟨w.heap.size, 0, none⟩)) ∧ Src w' w.heap.size A n c 0 ∧ Below w.heap.size w w' ∧ w'.heap.size = w.heap.size + 1 := by
  have HY := hide h
  clear h
  go_enter Tryz.func68, Tryz.ntmps68
  go_wp2
  go_ret
  refine ⟨rfl, ⟨⟨0, heap_alloc_new w _⟩, fun k hk => ?_, hn⟩, (Below.refl _ _).alloc (Nat.le_refl _) _, by simp⟩
  obtain ⟨b, off, u, hA, hb, hu, hc⟩ := HY.out.1.at1 hk
  have hk2 : k < bs.length := by rw [HY.out.len]; exact hk
  have hx := List.getElem?_eq_getElem hk2
  simp only [cY, List.getElem?_map, hx, Option.map_some, Option.some.injEq] at hu
  subst hu
  have := HY.out.2 _ (List.getElem_mem hk2)
  exact ⟨b, off, _, hA, hb, (World.cell?_alloc_lt w _ _ hb).trans hc, this.1, this.2⟩

end Go.Proofs.YtcclfmapbgdpdaaGreatDoor

namespace Go.Proofs.YtcclfmapbgdpdaaGreatDoor
open Go.RowKit
set_option linter.unusedVariables false

theorem own_wrv {w w' : World} {base lo hi : Nat} {e : TypeId} {size : Nat} {v : Value} {n : Nat} {xs : List Value} (h : w.ownsRow base e size v n xs) (hw : Wr lo hi w w') (hd : hi ≤ base) : w'.ownsRow base e size v n xs := by
  refine ⟨h.1, ?_⟩
  rcases h.2 with hn | ⟨g, cap, cur, rfl, hbg, hgg, rest⟩
  · exact .inl hn
  · exact .inr ⟨g, cap, cur, rfl, hbg, by rw [hw.block g (Array.getElem?_eq_some_iff.1 hgg).1 (by omega)]; exact hgg, rest⟩
theorem Wr.thenB {lo hi B : Nat} {w w1 w2 : World} (h : Wr lo hi w w1) (hb : Below B w1 w2) (hB : w.heap.size ≤ B) : Wr lo hi w w2 :=
  ⟨hb.os.trans h.os, hb.tape.trans h.tape, hb.output.trans h.output, Nat.le_trans h.size hb.size, fun k hk hr => (hb.block k (by omega)).trans (h.block k hk hr)⟩
theorem Wr.cell {lo hi : Nat} {w w' : World} (h : Wr lo hi w w') {p : Addr} (h1 : p.block < w.heap.size) (h2 : p.block < lo ∨ hi ≤ p.block) : w'.cell? p = w.cell? p := by
  simp only [World.cell?, h.block p.block h1 h2]

set_option maxHeartbeats 1000000 in
/-- One of some texts. -/
theorem text_calls (g n c a b cap : Nat) (A : Option Addr) (xs : List ByteArray) (w : World) (h : Src w g A n c a) (ha : a ≤ 549755813888) (hx : ∀ j s, xs[j]? = some s → w.cell? ⟨b, j, none⟩ = some (.string s)) (hb : b < w.heap.size) (hlo : g < b) (hl : 1 ≤ xs.length) (hl2 : xs.length ≤ 1000) :
    Calls Tryz.prog 179 #[.pointer (some ⟨g, 0, none⟩), .slice (some ⟨b, 0, none⟩) xs.length cap] w fun e w' => ∃ (s : ByteArray) (a' : Nat), e = .returned (.string s) ∧ s ∈ xs ∧ a' ≤ a + 2 ∧ Src w' g A n c a' ∧ Wr g (g + 1) w w' := by
  have P := hide (pick_calls g n c a A xs.length w h ha (by unfold I64; omega))
  have HX := hide hx
  obtain ⟨l, hl3⟩ : ∃ l, l = xs.length := ⟨_, rfl⟩
  have HL := hide hl3
  rw [← hl3] at P hl hl2 ⊢
  clear h hx hl3
  go_enter Tryz.func179, Tryz.ntmps179
  go_wp2_with fail
  refine P.out.mono ?_
  rintro e w1 ⟨x, a', rfl, hx, ha', s1, r1⟩
  have hxl : x < l := by omega
  have hx0 := List.getElem?_eq_getElem (l := xs) (i := x) (by rw [← HL.out]; exact hxl)
  obtain ⟨s, hs⟩ : ∃ s, s = xs[x]'(by rw [← HL.out]; exact hxl) := ⟨_, rfl⟩
  rw [← hs] at hx0
  have hc : w1.cell? ⟨b, x, none⟩ = some (.string s) := (r1.cell (p := ⟨b, x, none⟩) hb (.inr hlo)).trans (HX.out x s hx0)
  have HS := hide (And.intro ha' (And.intro s1 (And.intro r1 (List.mem_of_getElem? hx0))))
  clear s1 r1 ha' hx P hs hx0
  have i0 : (0 : Int) ≤ (x : Int) := by omega
  have i1 : (x : Int) < (l : Int) := by omega
  go_wp2
  go_ret
  exact ⟨s, a', rfl, HS.out.2.2.2, HS.out.1, HS.out.2.1, HS.out.2.2.1⟩

end Go.Proofs.YtcclfmapbgdpdaaGreatDoor

namespace Go.Proofs.YtcclfmapbgdpdaaGreatDoor
open Go.RowKit
set_option linter.unusedVariables false

theorem notmem_snoc {xs : List Int} {k : Nat} {x y : Int} (hx : xs[k]? = some y) (h : x ∉ xs.take k) (hp : y ≠ x) : x ∉ xs.take (k + 1) := by
  rw [take_snoc hx, List.mem_append]
  rintro (h1 | h1)
  · exact h h1
  · simp at h1; exact hp h1.symm
theorem mem_at {xs : List Int} {k : Nat} {x : Int} (hx : xs[k]? = some x) : x ∈ xs := List.mem_of_getElem? hx
theorem notmem_end {xs : List Int} {n : Nat} {x : Int} (hl : xs.length = n) (h : x ∉ xs.take n) : x ∉ xs := by rwa [List.take_of_length_le (by omega)] at h

set_option maxHeartbeats 400000 in
theorem l00Has_calls (A : Option Addr) (n c : Nat) (xs : List Int) (x : Int) (w : World) (h : RdI w A n xs) (hn : n ≤ 1048576) :
    Calls Tryz.prog 187 #[.slice A n c, .int .i64 x] w fun e w' => e = .returned (.bool (decide (x ∈ xs))) ∧ w = w' := by
  have HL := hide h.len
  go_enter Tryz.func187, Tryz.ntmps187
  go_wp2
  go_loop [5] (fun i => ∃ (k : Nat), k ≤ n ∧ i = .int .i64 k ∧ Hid (x ∉ xs.take k)) (fun i => n - (intOf i).toNat)
  case atStart => exact ⟨0, Nat.zero_le _, rfl, by simp [Hid]⟩
  case round =>
    obtain ⟨k, hk, rfl, HC⟩ := hrel
    by_cases hlt : k < n
    · obtain ⟨b, off, y, rfl, hbl, hx, hc, hx1, hx2⟩ := h.at hlt
      by_cases c1 : y = x
      · subst c1
        go_wp2
        go_ret
        exact ⟨ret_bool (decide_eq_true (mem_at hx.out)).symm, rfl⟩
      · have e1 : (y == x) = false := by simpa using c1
        have HN := hide (notmem_snoc hx.out HC.out c1)
        clear c1
        go_wp2
        go_round
        case rel => exact ⟨k + 1, by omega, by go_num, HN⟩
        case measure => simp [intOf]; omega
    · have hkn : k = n := by omega
      subst hkn
      go_wp2
      go_ret
      exact ⟨ret_bool (decide_eq_false (notmem_end HL.out HC.out)).symm, rfl⟩

set_option maxHeartbeats 400000 in
theorem indexI_calls (A : Option Addr) (n c : Nat) (xs : List Int) (x : Int) (w : World) (h : RdI w A n xs) (hn : n ≤ 1048576) :
    Calls Tryz.prog 165 #[.slice A n c, .int .i64 x] w fun e w' => (∃ i : Int, e = .returned (.int .i64 i) ∧ decide (0 ≤ i) = decide (x ∈ xs)) ∧ w = w' := by
  have HL := hide h.len
  go_enter Tryz.func165, Tryz.ntmps165
  go_wp2
  go_loop [8] (fun i => ∃ (k : Nat), k ≤ n ∧ i = .int .i64 k ∧ Hid (x ∉ xs.take k)) (fun i => n - (intOf i).toNat)
  case atStart => exact ⟨0, Nat.zero_le _, rfl, by simp [Hid]⟩
  case round =>
    obtain ⟨k, hk, rfl, HC⟩ := hrel
    by_cases hlt : k < n
    · obtain ⟨b, off, y, rfl, hbl, hx, hc, hx1, hx2⟩ := h.at hlt
      by_cases c1 : x = y
      · subst c1
        go_wp2
        go_ret
        exact ⟨⟨_, rfl, ⟨fun _ => mem_at hx.out, fun _ => by omega⟩⟩, rfl⟩
      · have e1 : (x == y) = false := by simpa using c1
        have HN := hide (notmem_snoc hx.out HC.out (fun e => c1 e.symm))
        clear c1
        go_wp2
        go_round
        case rel => exact ⟨k + 1, by omega, by go_num, HN⟩
        case measure => simp [intOf]; omega
    · have hkn : k = n := by omega
      subst hkn
      go_wp2
      go_ret
      exact ⟨⟨_, rfl, ⟨fun h => absurd h (by omega), fun h => absurd h (notmem_end HL.out HC.out)⟩⟩, rfl⟩

theorem containsI_calls (A : Option Addr) (n c : Nat) (xs : List Int) (x : Int) (w : World) (h : RdI w A n xs) (hn : n ≤ 1048576) :
    Calls Tryz.prog 86 #[.slice A n c, .int .i64 x] w fun e w' => e = .returned (.bool (decide (x ∈ xs))) ∧ w = w' := by
  go_enter Tryz.func86, Tryz.ntmps86
  go_wp2_with fail
  refine (indexI_calls _ _ _ xs x _ h hn).mono ?_
  rintro e w' ⟨⟨i, rfl, hi⟩, rfl⟩
  have HI := hide hi
  clear hi
  go_wp2
  go_ret
  exact ⟨ret_bool HI.out, rfl⟩

/-- Appending a whole list of numbers. -/
theorem appIs {w : World} {ops : Array Oper} {rest : List Oper} {o : Oper} {a : Act} {Q : Exit → Act → World → Prop} (hgd : o.guard = none) (s x : Operand)
    (ho : o.op = .call { callee := .builtin .append, args := #[s, x], argTypes := #[24, 24] })
    (base : Nat) (v : Value) (n : Nat) (xs : List Int) (hs : a.eval s = v) (hown : w.ownsRow base 2 1 v n (cI xs))
    (base2 : Nat) (vx : Value) (m : Nat) (ys : List Int) (hx : a.eval x = vx) (hy : w.ownsRow base2 2 1 vx m (cI ys))
    (hn : n + m ≤ 1099511627776) (hbase : base ≤ w.heap.size)
    (h : ∀ v' w', w'.ownsRow base 2 1 v' (n + m) (cI (xs ++ ys)) → Below base w w' → w.heap.size ≤ w'.heap.size → wpList Tryz.prog ops Q rest (a.put o.dst v') w') : wpList Tryz.prog ops Q (o :: rest) a w := by
  obtain ⟨i, hi, hz0, hz1, hz2⟩ := info_parts Tryz.info2
  rcases hy.2 with ⟨rfl, rfl⟩ | ⟨g, cap, cur, rfl, hbg, hgg, rest'⟩
  · refine wpList_append_own_none hgd s x _ ho base 2 i 1 Tryz.underlying24 hi v n (cI xs) hs hown hx (h v w ?_ (Below.refl _ _) (Nat.le_refl _))
    have h0 : ys = [] := by have := hy.1; simp [cI] at this; exact this
    subst h0
    simpa using hown
  · refine wpList_append_own w hgd s x _ ho base 2 i (.int .i64 0) 1 8 Tryz.underlying24 hi hz0 hz1 hz2 rfl (by decide) v n (cI xs) hs hown ⟨g, 0, none⟩ m cap (cI ys) hx hy.1 (hy.cells rfl) ?_ (by unfold maxLen; omega) (by omega) hbase ?_
    · intro u hu
      obtain ⟨z, _, rfl⟩ := List.mem_map.1 hu
      rfl
    · intro v' w' h1 h2 _
      refine h v' w' (by simpa [cI] using h1) ((Below.refl base w).grown h2 hbase (fun g hg => (hown.lt g hg).1)) h2.size

end Go.Proofs.YtcclfmapbgdpdaaGreatDoor

namespace Go.Proofs.YtcclfmapbgdpdaaGreatDoor
open Go.RowKit
set_option linter.unusedVariables false

theorem r8Long_calls (A B : Option Addr) (n m c d : Nat) (w : World) :
    Calls Tryz.prog 19 #[.slice A n c, .slice B m d] w fun e w' => e = .returned (.bool (!decide (n ≤ 1048576) || !decide (m ≤ 1048576))) ∧ w = w' := by
  by_cases h1 : n ≤ 1048576
  · have g1 : decide ((1048576 : Int) < n) = false := decide_eq_false (by omega)
    by_cases h2 : m ≤ 1048576
    · have g2 : decide ((1048576 : Int) < m) = false := decide_eq_false (by omega)
      have HR : Hid (true = true ∧ (!decide (n ≤ 1048576) || !decide (m ≤ 1048576)) = false) := ⟨rfl, by simp [h1, h2]⟩
      clear h1 h2
      go_enter Tryz.func19, Tryz.ntmps19
      go_wp2
      go_ret
      exact ⟨by rw [HR.out.2]; rfl, rfl⟩
    · have g2 : decide ((1048576 : Int) < m) = true := decide_eq_true (by omega)
      have HR : Hid (true = true ∧ (!decide (n ≤ 1048576) || !decide (m ≤ 1048576)) = true) := ⟨rfl, by simp [h1, h2]⟩
      clear h1 h2
      go_enter Tryz.func19, Tryz.ntmps19
      go_wp2
      go_ret
      exact ⟨by rw [HR.out.2]; rfl, rfl⟩
  · have g1 : decide ((1048576 : Int) < n) = true := decide_eq_true (by omega)
    have HR : Hid (true = true ∧ (!decide (n ≤ 1048576) || !decide (m ≤ 1048576)) = true) := ⟨rfl, by simp [h1]⟩
    clear h1
    go_enter Tryz.func19, Tryz.ntmps19
    go_wp2
    go_ret
    exact ⟨by rw [HR.out.2]; rfl, rfl⟩

theorem RdY.at {w : World} {A : Option Addr} {n k : Nat} {bs : List Int} (h : RdY w A n bs) (hk : k < n) : ∃ b off v, A = some ⟨b, off, none⟩ ∧ b < w.heap.size ∧ w.cell? ⟨b, off + k, none⟩ = some (.int .u8 v) ∧ 0 ≤ v ∧ v ≤ 255 := by
  obtain ⟨b, off, u, hA, hb, hu, hc⟩ := h.1.at1 hk
  have hk2 : k < bs.length := by rw [h.len]; exact hk
  have hx := List.getElem?_eq_getElem hk2
  simp only [cY, List.getElem?_map, hx, Option.map_some, Option.some.injEq] at hu
  subst hu
  have := h.2 _ (List.getElem_mem hk2)
  exact ⟨b, off, _, hA, hb, hc, this.1, this.2⟩

set_option maxHeartbeats 1000000 in
theorem r8At_calls (A : Option Addr) (n c k : Nat) (m : Int) (bs : List Int) (w : World) (h : RdY w A n bs) (hn : n ≤ 1048576) (hk : k ≤ 1000) (hm : I64 m) :
    Calls Tryz.prog 22 #[.slice A n c, .int .i64 k, .int .i64 m] w fun e w' => ∃ x : Nat, e = .returned (.int .i64 (x : Int)) ∧ ((x : Int) < m ∨ x = 0) ∧ x ≤ 255 ∧ w = w' := by
  by_cases h1 : m ≤ 1
  · have g1 : decide (m ≤ 1) = true := decide_eq_true h1
    clear h
    go_enter Tryz.func22, Tryz.ntmps22
    go_wp2
    go_ret
    exact ⟨0, rfl, .inr rfl, by omega, rfl⟩
  · have g1 : decide (m ≤ 1) = false := decide_eq_false h1
    by_cases h2 : n ≤ k
    · have g2 : decide ((n : Int) ≤ (k : Int)) = true := decide_eq_true (by omega)
      clear h
      go_enter Tryz.func22, Tryz.ntmps22
      go_wp2
      go_ret
      exact ⟨0, rfl, .inr rfl, by omega, rfl⟩
    · have g2 : decide ((n : Int) ≤ (k : Int)) = false := decide_eq_false (by omega)
      obtain ⟨b, off, v, rfl, hb, hc, hv1, hv2⟩ := h.at (show k < n by omega)
      obtain ⟨q, hq, hqm⟩ := rem_nat (m := m) hv1 (by omega)
      have hqv : q ≤ 255 := by
        have e1 := Int.emod_add_mul_ediv v m
        have e2 := Int.mul_nonneg (show 0 ≤ m by omega) (Int.ediv_nonneg hv1 (show 0 ≤ m by omega))
        omega
      have HQ := hide (And.intro hq (And.intro hqm hqv))
      have i1 : (0 : Int) ≤ (k : Int) := by omega
      have i2 : (k : Int) < (n : Int) := by omega
      have hm0 : m ≠ 0 := by omega
      clear hq hqm h hqv
      go_enter Tryz.func22, Tryz.ntmps22
      go_wp2
      go_ret
      exact ⟨q, by rw [HQ.out.1]; rfl, .inl HQ.out.2.1, HQ.out.2.2, rfl⟩

set_option maxHeartbeats 1000000 in
theorem r8Wide_calls (A : Option Addr) (n c k m : Nat) (bs : List Int) (w : World) (h : RdY w A n bs) (hn : n ≤ 1048576) (hk : k ≤ 999) (hm : 1 ≤ m) (hm2 : m ≤ 1048576) :
    Calls Tryz.prog 23 #[.slice A n c, .int .i64 k, .int .i64 m] w fun e w' => ∃ x : Nat, e = .returned (.int .i64 (x : Int)) ∧ x < m ∧ w = w' := by
  have P1 := hide (r8At_calls A n c k 256 bs w h hn (by omega) (by unfold I64; omega))
  have P2 := hide (r8At_calls A n c (k + 1) 256 bs w h hn (by omega) (by unfold I64; omega))
  rw [show ((k + 1 : Nat) : Int) = (k : Int) + 1 by omega] at P2
  have hm0 : (m : Int) ≠ 0 := by omega
  clear h
  go_enter Tryz.func23, Tryz.ntmps23
  go_wp2_with fail
  refine P1.out.mono ?_
  rintro e w1 ⟨x, rfl, _, hx, rfl⟩
  clear P1
  go_wp2_with fail
  refine P2.out.mono ?_
  rintro e w1 ⟨y, rfl, _, hy, rfl⟩
  clear P2
  have hq := Nat.mod_lt (256 * x + y) (show 0 < m by omega)
  have HE := hide (show (256 * (x : Int) + (y : Int)) % (m : Int) = ((256 * x + y) % m : Nat) by rw [Int.natCast_emod, Int.natCast_add, Int.natCast_mul]; rfl)
  have h0 : (0 : Int) ≤ 256 * (x : Int) + (y : Int) := by omega
  generalize (256 * x + y) % m = q at hq HE
  have HQ := hide hq
  clear hq
  go_wp2
  go_ret
  exact ⟨q, ret_int HE.out, HQ.out, rfl⟩

set_option maxHeartbeats 400000 in
theorem r8Has_calls (A : Option Addr) (n c : Nat) (xs : List Int) (x : Int) (w : World) (h : RdI w A n xs) (hn : n ≤ 1048576) :
    Calls Tryz.prog 35 #[.slice A n c, .int .i64 x] w fun e w' => e = .returned (.bool (decide (x ∈ xs))) ∧ w = w' := by
  have HL := hide h.len
  go_enter Tryz.func35, Tryz.ntmps35
  go_wp2
  go_loop [5] (fun i => ∃ (k : Nat), k ≤ n ∧ i = .int .i64 k ∧ Hid (x ∉ xs.take k)) (fun i => n - (intOf i).toNat)
  case atStart => exact ⟨0, Nat.zero_le _, rfl, by simp [Hid]⟩
  case round =>
    obtain ⟨k, hk, rfl, HC⟩ := hrel
    by_cases hlt : k < n
    · obtain ⟨b, off, y, rfl, hbl, hx, hc, hx1, hx2⟩ := h.at hlt
      by_cases c1 : y = x
      · subst c1
        go_wp2
        go_ret
        exact ⟨ret_bool (decide_eq_true (mem_at hx.out)).symm, rfl⟩
      · have e1 : (y == x) = false := by simpa using c1
        have HN := hide (notmem_snoc hx.out HC.out c1)
        clear c1
        go_wp2
        go_round
        case rel => exact ⟨k + 1, by omega, by go_num, HN⟩
        case measure => simp [intOf]; omega
    · have hkn : k = n := by omega
      subst hkn
      go_wp2
      go_ret
      exact ⟨ret_bool (decide_eq_false (notmem_end HL.out HC.out)).symm, rfl⟩

end Go.Proofs.YtcclfmapbgdpdaaGreatDoor

namespace Go.Proofs.YtcclfmapbgdpdaaGreatDoor
open Go.RowKit
set_option linter.unusedVariables false

structure RmZ where
  p : Int
  b : Int
  k : Int
deriving DecidableEq
structure GrpZ where
  id : ByteArray
  p : Int
  b : Int
  k : Int
def needZ (x : GrpZ) : RmZ := ⟨x.p, x.b, 75 * x.p + 15 * x.b + x.k⟩
def plusZ (a c : RmZ) : RmZ := ⟨a.p + c.p, a.b + c.b, a.k + c.k⟩
def fitsZ (n r : RmZ) : Bool := decide (n.p ≤ r.p) && decide (n.b ≤ r.b) && decide (n.k ≤ r.k)
def zeroR : RmZ := ⟨0, 0, 0⟩
/-- Not negative. -/
def PosR (a : RmZ) : Prop := 0 ≤ a.p ∧ 0 ≤ a.b ∧ 0 ≤ a.k
theorem fits_iff {n r : RmZ} : fitsZ n r = true ↔ n.p ≤ r.p ∧ n.b ≤ r.b ∧ n.k ≤ r.k := by
  unfold fitsZ
  rw [Bool.and_eq_true, Bool.and_eq_true, decide_eq_true_eq, decide_eq_true_eq, decide_eq_true_eq, and_assoc]
theorem plus_zero (a : RmZ) : plusZ a zeroR = a := by cases a; simp [plusZ, zeroR]
theorem zero_plus (a : RmZ) : plusZ zeroR a = a := by cases a; simp [plusZ, zeroR]
theorem plus_assoc (a b c : RmZ) : plusZ (plusZ a b) c = plusZ a (plusZ b c) := by simp only [plusZ, RmZ.mk.injEq]; omega
theorem pos_zero : PosR zeroR := ⟨by decide, by decide, by decide⟩
theorem PosR.plus {a b : RmZ} (h : PosR a) (k : PosR b) : PosR (plusZ a b) := by unfold PosR plusZ at *; simp only; omega
theorem fits_less {a b r : RmZ} (h : fitsZ (plusZ a b) r = true) (hb : PosR b) : fitsZ a r = true := by
  rw [fits_iff] at *
  unfold PosR at hb
  simp only [plusZ] at h
  omega

/-! ### n rounds -/
def itr {β : Type} (f : Nat → β → β) (a : Nat) : Nat → β → β
  | 0, b => b
  | m + 1, b => f (a + m) (itr f a m b)

/-! ### sums of chosen needs -/
/-- The sum of the needs from a on, j of them, where p holds. -/
def sumQ (nd : List RmZ) (p : Nat → Bool) : Nat → RmZ
  | 0 => zeroR
  | n + 1 => if p n = true then plusZ (sumQ nd p n) (nd.getD n zeroR) else sumQ nd p n
theorem sumQ_congr {nd : List RmZ} {p q : Nat → Bool} : ∀ n, (∀ i, i < n → p i = q i) → sumQ nd p n = sumQ nd q n
  | 0, _ => rfl
  | n + 1, h => by rw [sumQ, sumQ, sumQ_congr n (fun i hi => h i (by omega)), h n (by omega)]
theorem posd {nd : List RmZ} (h : ∀ x ∈ nd, PosR x) (i : Nat) : PosR (nd.getD i zeroR) := by
  rw [List.getD_eq_getElem?_getD]
  cases hx : nd[i]? with
  | none => exact pos_zero
  | some x => exact h x (List.mem_of_getElem? hx)
theorem sumQ_pos {nd : List RmZ} (h : ∀ x ∈ nd, PosR x) (p : Nat → Bool) : ∀ n, PosR (sumQ nd p n)
  | 0 => pos_zero
  | n + 1 => by
    rw [sumQ]
    split
    · exact (sumQ_pos h p n).plus (posd h n)
    · exact sumQ_pos h p n
theorem sumQ_none {nd : List RmZ} {p : Nat → Bool} : ∀ n, (∀ i, i < n → p i = false) → sumQ nd p n = zeroR
  | 0, _ => rfl
  | n + 1, h => by rw [sumQ, if_neg (by rw [h n (by omega)]; simp), sumQ_none n (fun i hi => h i (by omega))]
/-- The part from a on. -/
theorem sumQ_part {nd : List RmZ} (h : ∀ x ∈ nd, PosR x) (p : Nat → Bool) (a : Nat) : ∀ n, a ≤ n → ∃ d, PosR d ∧ sumQ nd p n = plusZ (sumQ nd p a) d
  | 0, hn => by
    obtain rfl : a = 0 := by omega
    exact ⟨zeroR, pos_zero, (plus_zero _).symm⟩
  | n + 1, hn => by
    by_cases e : a = n + 1
    · subst e; exact ⟨zeroR, pos_zero, (plus_zero _).symm⟩
    · obtain ⟨d, hd, he⟩ := sumQ_part h p a n (by omega)
      rw [sumQ]
      split
      · exact ⟨plusZ d (nd.getD n zeroR), hd.plus (posd h n), by rw [he, plus_assoc]⟩
      · exact ⟨d, hd, he⟩
/-- The places where p holds. -/
def idxQ (p : Nat → Bool) : Nat → List Int
  | 0 => []
  | n + 1 => if p n = true then idxQ p n ++ [(n : Int)] else idxQ p n
def sumL (nd : List RmZ) (S : List Int) : RmZ := S.foldl (fun a i => plusZ a (nd.getD i.toNat zeroR)) zeroR
theorem sumL_snoc (nd : List RmZ) (S : List Int) (i : Int) : sumL nd (S ++ [i]) = plusZ (sumL nd S) (nd.getD i.toNat zeroR) := by unfold sumL; rw [List.foldl_append]; rfl
theorem sumL_idx (nd : List RmZ) (p : Nat → Bool) : ∀ n, sumL nd (idxQ p n) = sumQ nd p n
  | 0 => rfl
  | n + 1 => by
    rw [idxQ, sumQ]
    split
    · rw [sumL_snoc, sumL_idx nd p n]; rfl
    · exact sumL_idx nd p n
theorem idxQ_bd (p : Nat → Bool) : ∀ n, ∀ x ∈ idxQ p n, 0 ≤ x ∧ x < (n : Int)
  | 0 => by simp [idxQ]
  | n + 1 => fun x hx => by
    rw [idxQ] at hx
    split at hx
    · rcases List.mem_append.1 hx with h | h
      · have := idxQ_bd p n x h; omega
      · have : x = (n : Int) := by simpa using h
        omega
    · have := idxQ_bd p n x hx; omega
theorem idxQ_rise (p : Nat → Bool) : ∀ n, (idxQ p n).Pairwise (· < ·)
  | 0 => by simp [idxQ]
  | n + 1 => by
    rw [idxQ]
    split
    · rw [List.pairwise_append]
      refine ⟨idxQ_rise p n, by simp, fun a ha b hb => ?_⟩
      have := idxQ_bd p n a ha
      have hb : b = (n : Int) := by simpa using hb
      omega
    · exact idxQ_rise p n
theorem idxQ_len (p : Nat → Bool) : ∀ n, (idxQ p n).length ≤ n
  | 0 => by simp [idxQ]
  | n + 1 => by
    rw [idxQ]
    have := idxQ_len p n
    split
    · rw [List.length_append]; simp only [List.length_cons, List.length_nil]; omega
    · omega
theorem idxQ_mem {p : Nat → Bool} {i : Nat} : ∀ n, i < n → p i = true → (i : Int) ∈ idxQ p n
  | 0, h, _ => absurd h (Nat.not_lt_zero _)
  | n + 1, h, hp => by
    rw [idxQ]
    by_cases e : i = n
    · subst e
      rw [if_pos hp]
      simp
    · have := idxQ_mem n (show i < n by omega) hp
      split
      · exact List.mem_append_left _ this
      · exact this

/-! ### the fewest rides -/
def bestL (u : Nat) (rs : List Int) : Option (List Int × Nat) → Option (List Int × Nat)
  | none => some (rs, u)
  | some b => if u < b.2 then some (rs, u) else some b
def goZ (r : RmZ) : List RmZ → List RmZ → List Int → Option (List Int × Nat) → Option (List Int × Nat)
  | [], ons, rs, best => bestL ons.length rs best
  | x :: rest, ons, rs, best => goZ r rest (ons ++ [x]) (rs ++ [(ons.length : Int)]) (itr (fun j b => if fitsZ (plusZ (ons.getD j zeroR) x) r = true then goZ r rest (ons.set j (plusZ (ons.getD j zeroR) x)) (rs ++ [(j : Int)]) b else b) 0 ons.length best)
/-- The nodes of the search: j groups are left, m rides are there. -/
def nodZ : Nat → Nat → Nat
  | 0, _ => 1
  | j + 1, m => 1 + m * nodZ j m + nodZ j (m + 1)
theorem nodZ_few {n : Nat} (h : n ≤ 6) : nodZ n 0 ≤ 2000 := by
  rcases (by omega : n = 0 ∨ n = 1 ∨ n = 2 ∨ n = 3 ∨ n = 4 ∨ n = 5 ∨ n = 6) with rfl | rfl | rfl | rfl | rfl | rfl | rfl <;> decide

theorem itr_inv {β : Type} {f : Nat → β → β} (Q : β → Prop) {a : Nat} : ∀ (m : Nat) (b : β), Q b → (∀ j b, a ≤ j → j < a + m → Q b → Q (f j b)) → Q (itr f a m b)
  | 0, _, h, _ => h
  | m + 1, b, h, hf => hf _ _ (by omega) (by omega) (itr_inv Q m b h (fun j b h1 h2 => hf j b h1 (by omega)))
/-- Once it holds it stays. -/
theorem itr_from {β : Type} {f : Nat → β → β} (Q : β → Prop) {a i : Nat} : ∀ (m : Nat) (b : β), a ≤ i → i < a + m → (∀ b, Q (f i b)) → (∀ j b, Q b → Q (f j b)) → Q (itr f a m b)
  | 0, _, h1, h2, _, _ => by omega
  | m + 1, b, h1, h2, hi, hs => by
    by_cases e : i = a + m
    · subst e; exact hi _
    · exact hs _ _ (itr_from Q m b h1 (by omega) hi hs)

def LeB (u : Nat) (b : Option (List Int × Nat)) : Prop := ∃ c, b = some c ∧ c.2 ≤ u
theorem bestL_le {u v : Nat} {rs : List Int} {b : Option (List Int × Nat)} (h : LeB v b) : LeB v (bestL u rs b) := by
  obtain ⟨c, rfl, hc⟩ := h
  show LeB v (if u < c.2 then some (rs, u) else some c)
  by_cases hu : u < c.2
  · rw [if_pos hu]; exact ⟨_, rfl, Nat.le_trans (Nat.le_of_lt hu) hc⟩
  · rw [if_neg hu]; exact ⟨_, rfl, hc⟩
theorem bestL_at {u : Nat} {rs : List Int} {b : Option (List Int × Nat)} : LeB u (bestL u rs b) := by
  unfold bestL
  cases b with
  | none => exact ⟨_, rfl, Nat.le_refl _⟩
  | some c =>
    simp only
    split
    · exact ⟨_, rfl, Nat.le_refl _⟩
    · exact ⟨_, rfl, by omega⟩
theorem goZ_le {r : RmZ} {u : Nat} : ∀ (rest ons : List RmZ) (rs : List Int) (b : Option (List Int × Nat)), LeB u b → LeB u (goZ r rest ons rs b)
  | [], _, _, _, h => bestL_le h
  | x :: rest, ons, rs, b, h => by
    rw [goZ]
    refine goZ_le rest _ _ _ (itr_inv (LeB u) _ _ h fun j b _ _ hb => ?_)
    split
    · exact goZ_le rest _ _ _ hb
    · exact hb
/-- The rest can be put on so that there are u rides. -/
def PathZ (r : RmZ) : List RmZ → List RmZ → Nat → Prop
  | [], ons, u => ons.length = u
  | x :: rest, ons, u => (∃ j, j < ons.length ∧ fitsZ (plusZ (ons.getD j zeroR) x) r = true ∧ PathZ r rest (ons.set j (plusZ (ons.getD j zeroR) x)) u) ∨ PathZ r rest (ons ++ [x]) u
theorem goZ_path {r : RmZ} {u : Nat} : ∀ (rest ons : List RmZ) (rs : List Int) (b : Option (List Int × Nat)), PathZ r rest ons u → LeB u (goZ r rest ons rs b)
  | [], ons, rs, b, h => by
    have h : ons.length = u := h
    subst h
    exact bestL_at
  | x :: rest, ons, rs, b, h => by
    rw [goZ]
    rcases h with ⟨j, hj, hf, hp⟩ | hp
    · refine goZ_le rest _ _ _ (itr_from (LeB u) (i := j) _ _ (Nat.zero_le _) (by omega) (fun b => ?_) (fun i b hb => ?_))
      · rw [if_pos hf]
        exact goZ_path rest _ _ _ hp
      · split
        · exact goZ_le rest _ _ _ hb
        · exact hb
    · exact goZ_path rest _ _ _ hp

/-- What is put on so far. -/
structure OnZ (nd : List RmZ) (r : RmZ) (ons : List RmZ) (rs : List Int) : Prop where
  few : ons.length ≤ rs.length
  bd : ∀ v ∈ rs, 0 ≤ v ∧ v < (ons.length : Int)
  at_ : ∀ (j : Nat) (x : RmZ), ons[j]? = some x → x = sumQ nd (fun i => rs.getD i (-1) == (j : Int)) rs.length ∧ fitsZ x r = true ∧ (j : Int) ∈ rs
/-- All groups on rides. -/
structure AllZ (nd : List RmZ) (r : RmZ) (b : List Int × Nat) : Prop where
  len : b.1.length = nd.length
  few : b.2 ≤ nd.length
  bd : ∀ v ∈ b.1, 0 ≤ v ∧ v < (b.2 : Int)
  at_ : ∀ j : Nat, j < b.2 → fitsZ (sumQ nd (fun i => b.1.getD i (-1) == (j : Int)) nd.length) r = true ∧ (j : Int) ∈ b.1
theorem getD_snoc_lt {rs : List Int} {v : Int} {i : Nat} (h : i < rs.length) : (rs ++ [v]).getD i (-1) = rs.getD i (-1) := by
  rw [List.getD_eq_getElem?_getD, List.getD_eq_getElem?_getD, List.getElem?_append_left h]
theorem getD_snoc_eq (rs : List Int) (v : Int) : (rs ++ [v]).getD rs.length (-1) = v := by
  rw [List.getD_eq_getElem?_getD, List.getElem?_append_right (Nat.le_refl _)]; simp
theorem sum_snoc {nd : List RmZ} {rs : List Int} {v j : Int} : sumQ nd (fun i => (rs ++ [v]).getD i (-1) == j) (rs.length + 1) = if v = j then plusZ (sumQ nd (fun i => rs.getD i (-1) == j) rs.length) (nd.getD rs.length zeroR) else sumQ nd (fun i => rs.getD i (-1) == j) rs.length := by
  have e : sumQ nd (fun i => (rs ++ [v]).getD i (-1) == j) rs.length = sumQ nd (fun i => rs.getD i (-1) == j) rs.length := sumQ_congr _ fun i hi => by simp only [getD_snoc_lt hi]
  rw [sumQ, e, getD_snoc_eq]
  by_cases hv : v = j
  · rw [if_pos hv, if_pos (by simpa using hv)]
  · rw [if_neg hv, if_neg (by simpa using hv)]
theorem sum_none {nd : List RmZ} {rs : List Int} {j : Int} (hj : j ∉ rs) (h0 : 0 ≤ j) : ∀ n, sumQ nd (fun i => rs.getD i (-1) == j) n = zeroR := fun n => sumQ_none n fun i hi => by
  simp only [beq_eq_false_iff_ne, ne_eq]
  intro e
  rw [List.getD_eq_getElem?_getD] at e
  cases hx : rs[i]? with
  | none => rw [hx] at e; simp at e; omega
  | some x => rw [hx] at e; simp at e; subst e; exact hj (List.mem_of_getElem? hx)
theorem OnZ.put {nd : List RmZ} {r x : RmZ} {ons : List RmZ} {rs : List Int} (h : OnZ nd r ons rs) (hx : nd[rs.length]? = some x) {j : Nat} (hj : j < ons.length) (hf : fitsZ (plusZ (ons.getD j zeroR) x) r = true) : OnZ nd r (ons.set j (plusZ (ons.getD j zeroR) x)) (rs ++ [(j : Int)]) := by
  have hxd : nd.getD rs.length zeroR = x := by rw [List.getD_eq_getElem?_getD, hx]; rfl
  refine ⟨by rw [List.length_set, List.length_append]; have := h.few; omega, fun v hv => ?_, fun i y hy => ?_⟩
  · rw [List.length_set]
    rcases List.mem_append.1 hv with hv | hv
    · exact h.bd v hv
    · have : v = (j : Int) := by simpa using hv
      omega
  · rw [List.length_append, List.length_singleton, sum_snoc, hxd]
    by_cases e : j = i
    · subst e
      rw [List.getElem?_set_self hj, Option.some.injEq] at hy
      subst hy
      have ho := List.getElem?_eq_getElem hj
      have he : ons.getD j zeroR = ons[j] := by rw [List.getD_eq_getElem?_getD, ho]; rfl
      rw [if_pos rfl, he, ← (h.at_ j _ ho).1]
      exact ⟨rfl, he ▸ hf, by simp⟩
    · rw [List.getElem?_set_ne e] at hy
      obtain ⟨h1, h2, h3⟩ := h.at_ i y hy
      rw [if_neg (by omega)]
      exact ⟨h1, h2, List.mem_append_left _ h3⟩
theorem OnZ.new {nd : List RmZ} {r x : RmZ} {ons : List RmZ} {rs : List Int} (h : OnZ nd r ons rs) (hx : nd[rs.length]? = some x) (hf : fitsZ x r = true) : OnZ nd r (ons ++ [x]) (rs ++ [(ons.length : Int)]) := by
  have hxd : nd.getD rs.length zeroR = x := by rw [List.getD_eq_getElem?_getD, hx]; rfl
  refine ⟨by rw [List.length_append, List.length_append]; have := h.few; simp only [List.length_cons, List.length_nil]; omega, fun v hv => ?_, fun i y hy => ?_⟩
  · rw [List.length_append, List.length_singleton]
    rcases List.mem_append.1 hv with hv | hv
    · have := h.bd v hv; omega
    · have : v = (ons.length : Int) := by simpa using hv
      omega
  · rw [List.length_append, List.length_singleton, sum_snoc, hxd]
    by_cases e : i < ons.length
    · rw [List.getElem?_append_left e] at hy
      obtain ⟨h1, h2, h3⟩ := h.at_ i y hy
      rw [if_neg (by omega)]
      exact ⟨h1, h2, List.mem_append_left _ h3⟩
    · have hi : i = ons.length := by
        have := (List.getElem?_eq_some_iff.1 hy).1
        rw [List.length_append, List.length_singleton] at this
        omega
      subst hi
      rw [List.getElem?_append_right (Nat.le_refl _), Nat.sub_self] at hy
      simp only [List.getElem?_cons_zero, Option.some.injEq] at hy
      subst hy
      have hn : (ons.length : Int) ∉ rs := fun hm => by have := h.bd _ hm; omega
      rw [if_pos rfl, sum_none hn (by omega), zero_plus]
      exact ⟨rfl, hf, by simp⟩
theorem goZ_all {nd : List RmZ} {r : RmZ} (hal : ∀ x ∈ nd, fitsZ x r = true) : ∀ (rest ons : List RmZ) (rs : List Int) (b : Option (List Int × Nat)), rest = nd.drop rs.length → rs.length ≤ nd.length → OnZ nd r ons rs → (∀ c, b = some c → AllZ nd r c) → ∀ c, goZ r rest ons rs b = some c → AllZ nd r c
  | [], ons, rs, b, hr, hl, h, hb, c, hc => by
    have hn : rs.length = nd.length := by
      have := congrArg List.length hr
      rw [List.length_drop, List.length_nil] at this
      omega
    have hA : AllZ nd r (rs, ons.length) := ⟨hn, by have := h.few; simp only; omega, h.bd, fun j hj => by
      obtain ⟨h1, h2, h3⟩ := h.at_ j _ (List.getElem?_eq_getElem hj)
      rw [← hn]
      exact ⟨h1 ▸ h2, h3⟩⟩
    rw [goZ] at hc
    cases b with
    | none =>
      have hc : some (rs, ons.length) = some c := hc
      simp only [Option.some.injEq] at hc; subst hc; exact hA
    | some d =>
      have hc : (if ons.length < d.2 then some (rs, ons.length) else some d) = some c := hc
      split at hc
      · simp only [Option.some.injEq] at hc; subst hc; exact hA
      · exact hb c hc
  | x :: rest, ons, rs, b, hr, hl, h, hb, c, hc => by
    have hlt : rs.length < nd.length := by
      have := congrArg List.length hr
      rw [List.length_drop, List.length_cons] at this
      omega
    have hr' := hr
    rw [List.drop_eq_getElem_cons hlt] at hr
    simp only [List.cons.injEq] at hr
    have hx : nd[rs.length]? = some x := by rw [List.getElem?_eq_getElem hlt, hr.1]
    rw [goZ] at hc
    refine goZ_all hal rest _ _ _ (by rw [List.length_append, List.length_singleton]; exact hr.2) (by rw [List.length_append, List.length_singleton]; omega) (h.new hx (hal x (List.mem_of_getElem? hx))) ?_ c hc
    refine itr_inv (fun b => ∀ c, b = some c → AllZ nd r c) _ _ hb fun j b _ hj hb' => ?_
    split
    · next hf => exact goZ_all hal rest _ _ _ (by rw [List.length_append, List.length_singleton]; exact hr.2) (by rw [List.length_append, List.length_singleton]; omega) (h.put hx (by omega) hf) hb'
    · exact hb'
theorem on_none (nd : List RmZ) (r : RmZ) : OnZ nd r [] [] := ⟨Nat.le_refl _, by simp, by simp⟩

/-! ### the rides one after the other -/
def frS (nd : List RmZ) (r : RmZ) : Nat → List Int × Nat × RmZ
  | 0 => ([], 0, zeroR)
  | k + 1 => if fitsZ (plusZ (frS nd r k).2.2 (nd.getD k zeroR)) r = true then ((frS nd r k).1 ++ [((frS nd r k).2.1 : Int)], (frS nd r k).2.1, plusZ (frS nd r k).2.2 (nd.getD k zeroR)) else ((frS nd r k).1 ++ [(((frS nd r k).2.1 + 1 : Nat) : Int)], (frS nd r k).2.1 + 1, nd.getD k zeroR)
theorem frS_len (nd : List RmZ) (r : RmZ) : ∀ k, (frS nd r k).1.length = k
  | 0 => rfl
  | k + 1 => by
    rw [frS]
    split
    · simp [frS_len nd r k]
    · simp [frS_len nd r k]
/-- The rides of the first come, from what is put on. -/
structure FrZ (nd : List RmZ) (r : RmZ) (k : Nat) (ons : List RmZ) : Prop where
  on : OnZ nd r ons (frS nd r k).1
  zero : k = 0 → ons = []
  last : 0 < k → ons.length = (frS nd r k).2.1 + 1 ∧ ons.getD (frS nd r k).2.1 zeroR = (frS nd r k).2.2
  path : ∀ u, PathZ r (nd.drop k) ons u → PathZ r nd [] u
theorem frZ_all {nd : List RmZ} {r : RmZ} (hal : ∀ x ∈ nd, fitsZ x r = true) : ∀ k, k ≤ nd.length → ∃ ons, FrZ nd r k ons
  | 0, _ => ⟨[], on_none nd r, fun _ => rfl, fun h => absurd h (Nat.lt_irrefl _), fun u h => h⟩
  | k + 1, hk => by
    obtain ⟨ons, h⟩ := frZ_all hal k (by omega)
    have hx := List.getElem?_eq_getElem (show k < nd.length by omega)
    have hxd : nd.getD k zeroR = nd[k] := by rw [List.getD_eq_getElem?_getD, hx]; rfl
    have hl := frS_len nd r k
    have hxl : nd[(frS nd r k).1.length]? = some nd[k] := by rw [hl]; exact hx
    have hdr : nd.drop k = nd[k] :: nd.drop (k + 1) := List.drop_eq_getElem_cons (by omega)
    have hfx := hal _ (List.mem_of_getElem? hx)
    rcases Nat.eq_zero_or_pos k with h0 | h0
    · subst h0
      have ho := h.zero rfl
      subst ho
      refine ⟨[] ++ [nd[0]], ?_, fun e => absurd e (by omega), fun _ => ?_, fun u hu => h.path u ?_⟩
      · have := h.on.new hxl hfx
        rw [frS, if_pos (by simp only [frS]; rw [zero_plus, hxd]; exact hfx)]
        exact this
      · rw [frS, if_pos (by simp only [frS]; rw [zero_plus, hxd]; exact hfx)]
        refine ⟨rfl, ?_⟩
        simp only [frS]
        rw [zero_plus, hxd]
        rfl
      · rw [hdr]; exact .inr hu
    · obtain ⟨h1, h2⟩ := h.last h0
      by_cases hf : fitsZ (plusZ (frS nd r k).2.2 (nd.getD k zeroR)) r = true
      · refine ⟨ons.set (frS nd r k).2.1 (plusZ (ons.getD (frS nd r k).2.1 zeroR) nd[k]), ?_, fun e => absurd e (by omega), fun _ => ?_, fun u hu => h.path u ?_⟩
        · rw [frS, if_pos hf]
          exact h.on.put hxl (by omega) (by rw [h2, ← hxd]; exact hf)
        · rw [frS, if_pos hf]
          refine ⟨by rw [List.length_set]; exact h1, ?_⟩
          simp only
          rw [List.getD_eq_getElem?_getD, List.getElem?_set_self (by omega), h2, hxd]
          rfl
        · rw [hdr]
          exact .inl ⟨_, by omega, by rw [h2, ← hxd]; exact hf, hu⟩
      · refine ⟨ons ++ [nd[k]], ?_, fun e => absurd e (by omega), fun _ => ?_, fun u hu => h.path u ?_⟩
        · have := h.on.new hxl hfx
          rw [h1] at this
          rw [frS, if_neg hf]
          exact this
        · rw [frS, if_neg hf]
          refine ⟨by rw [List.length_append, h1]; rfl, ?_⟩
          simp only
          rw [List.getD_eq_getElem?_getD, List.getElem?_append_right (by omega), h1, hxd]
          simp
        · rw [hdr]; exact .inr hu
/-- The first come's rides rise one by one. -/
theorem frS_step {nd : List RmZ} {r : RmZ} (hal : ∀ x ∈ nd, fitsZ x r = true) {k : Nat} (hk : k < nd.length) : (frS nd r (k + 1)).1 = (frS nd r k).1 ++ [((frS nd r (k + 1)).2.1 : Int)] ∧ (k = 0 → (frS nd r (k + 1)).2.1 = 0) ∧ (frS nd r k).2.1 ≤ (frS nd r (k + 1)).2.1 ∧ (frS nd r (k + 1)).2.1 ≤ (frS nd r k).2.1 + 1 := by
  have hx := List.getElem?_eq_getElem hk
  have hxd : nd.getD k zeroR = nd[k] := by rw [List.getD_eq_getElem?_getD, hx]; rfl
  have hfx := hal _ (List.mem_of_getElem? hx)
  by_cases hf : fitsZ (plusZ (frS nd r k).2.2 (nd.getD k zeroR)) r = true
  · rw [frS, if_pos hf]
    exact ⟨rfl, fun h => by subst h; rfl, Nat.le_refl _, by simp only; omega⟩
  · rw [frS, if_neg hf]
    refine ⟨rfl, fun h => ?_, by simp only; omega, Nat.le_refl _⟩
    subst h
    exact absurd (by simp only [frS]; rw [zero_plus, hxd]; exact hfx) hf

/-! ### the most people -/
def filZ (nd : List RmZ) (r : RmZ) : Nat → List Int → RmZ → Nat → List Int × Int → List Int × Int
  | 0, set, sum, _, b => if b.2 < sum.p then (set, sum.p) else b
  | j + 1, set, sum, frm, b => itr (fun k b => if fitsZ (plusZ sum (nd.getD k zeroR)) r = true then filZ nd r j (set ++ [(k : Int)]) (plusZ sum (nd.getD k zeroR)) (k + 1) b else b) frm (nd.length - frm) (if b.2 < sum.p then (set, sum.p) else b)
/-- The nodes: j groups are left. -/
def nodF : Nat → Nat
  | 0 => 1
  | j + 1 => 1 + (j + 1) * nodF j
theorem nodF_few {n : Nat} (h : n ≤ 6) : nodF n ≤ 2000 := by
  rcases (by omega : n = 0 ∨ n = 1 ∨ n = 2 ∨ n = 3 ∨ n = 4 ∨ n = 5 ∨ n = 6) with rfl | rfl | rfl | rfl | rfl | rfl | rfl <;> decide
theorem nodF_mono (j : Nat) : nodF j ≤ nodF (j + 1) := by
  rw [nodF, Nat.succ_mul]; omega

theorem best_ge {m : Int} {set : List Int} {sum : RmZ} {b : List Int × Int} : (m ≤ b.2 → m ≤ (if b.2 < sum.p then (set, sum.p) else b).2) ∧ sum.p ≤ (if b.2 < sum.p then (set, sum.p) else b).2 := by
  split
  · exact ⟨fun h => by simp only; omega, Int.le_refl _⟩
  · exact ⟨id, by omega⟩
theorem filZ_ge {nd : List RmZ} {r : RmZ} {m : Int} : ∀ (j : Nat) (set : List Int) (sum : RmZ) (frm : Nat) (b : List Int × Int), m ≤ b.2 → m ≤ (filZ nd r j set sum frm b).2
  | 0, _, _, _, _, h => best_ge.1 h
  | j + 1, set, sum, frm, b, h => by
    rw [filZ]
    refine itr_inv (fun b : List Int × Int => m ≤ b.2) _ _ (best_ge.1 h) fun k b _ _ hb => ?_
    split
    · exact filZ_ge j _ _ _ _ hb
    · exact hb
/-- The sum from a on. -/
def sumT (nd : List RmZ) (p : Nat → Bool) : Nat → Nat → RmZ
  | _, 0 => zeroR
  | a, j + 1 => if p a = true then plusZ (nd.getD a zeroR) (sumT nd p (a + 1) j) else sumT nd p (a + 1) j
theorem sumT_sum (nd : List RmZ) (p : Nat → Bool) : ∀ (j a : Nat), plusZ (sumQ nd p a) (sumT nd p a j) = sumQ nd p (a + j)
  | 0, a => by rw [sumT, plus_zero]; rfl
  | j + 1, a => by
    have ih := sumT_sum nd p j (a + 1)
    rw [show a + (j + 1) = a + 1 + j from by omega, ← ih, sumT, sumQ]
    split
    · rw [plus_assoc]
    · rfl
theorem sumT_pos {nd : List RmZ} (h : ∀ x ∈ nd, PosR x) (p : Nat → Bool) : ∀ (j a : Nat), PosR (sumT nd p a j)
  | 0, _ => pos_zero
  | j + 1, a => by
    rw [sumT]
    split
    · exact (posd h a).plus (sumT_pos h p j (a + 1))
    · exact sumT_pos h p j (a + 1)
/-- Either none from a on, or a first one. -/
theorem sumT_first (nd : List RmZ) (p : Nat → Bool) : ∀ (j a : Nat), sumT nd p a j = zeroR ∨ ∃ i, i < j ∧ sumT nd p a j = plusZ (nd.getD (a + i) zeroR) (sumT nd p (a + i + 1) (j - (i + 1)))
  | 0, _ => .inl rfl
  | j + 1, a => by
    rw [sumT]
    split
    · exact .inr ⟨0, by omega, by simp⟩
    · rcases sumT_first nd p j (a + 1) with h | ⟨i, hi, h⟩
      · exact .inl h
      · refine .inr ⟨i + 1, by omega, ?_⟩
        rw [h, show a + 1 + i = a + (i + 1) from by omega, show j + 1 - (i + 1 + 1) = j - (i + 1) from by omega]
theorem filZ_most {nd : List RmZ} {r : RmZ} (hp : ∀ x ∈ nd, PosR x) (p : Nat → Bool) : ∀ (j : Nat) (set : List Int) (sum : RmZ) (frm : Nat) (b : List Int × Int), frm ≤ nd.length → nd.length - frm ≤ j → fitsZ (plusZ sum (sumT nd p frm (nd.length - frm))) r = true → (plusZ sum (sumT nd p frm (nd.length - frm))).p ≤ (filZ nd r j set sum frm b).2
  | 0, set, sum, frm, b, h0, h1, hf => by
    rw [show nd.length - frm = 0 from by omega, sumT, plus_zero, filZ]
    exact (best_ge (m := 0)).2
  | j + 1, set, sum, frm, b, h0, h1, hf => by
    rw [filZ]
    rcases sumT_first nd p (nd.length - frm) frm with hz | ⟨i, hi, he⟩
    · rw [hz, plus_zero]
      refine itr_inv (fun b : List Int × Int => sum.p ≤ b.2) _ _ (best_ge (m := 0)).2 fun k b _ _ hb => ?_
      split
      · exact filZ_ge j _ _ _ _ hb
      · exact hb
    · rw [he, ← plus_assoc, show nd.length - frm - (i + 1) = nd.length - (frm + i + 1) from by omega] at hf ⊢
      refine itr_from (fun b : List Int × Int => (plusZ (plusZ sum (nd.getD (frm + i) zeroR)) (sumT nd p (frm + i + 1) (nd.length - (frm + i + 1)))).p ≤ b.2) (i := frm + i) _ _ (by omega) (by omega) (fun b => ?_) (fun k b hb => ?_)
      · rw [if_pos (fits_less hf (sumT_pos hp p _ _))]
        exact filZ_most hp p j _ _ _ _ (by omega) (by omega) hf
      · split
        · exact filZ_ge j _ _ _ _ hb
        · exact hb
/-- A set that fits. -/
structure SetZ (nd : List RmZ) (r : RmZ) (set : List Int) (sm : RmZ) : Prop where
  sum : sumL nd set = sm
  rise : set.Pairwise (· < ·)
  bd : ∀ x ∈ set, 0 ≤ x ∧ x < (nd.length : Int)
  fits : fitsZ sm r = true
def GoodB (nd : List RmZ) (r : RmZ) (b : List Int × Int) : Prop := ∃ s, SetZ nd r b.1 s ∧ s.p = b.2
theorem filZ_good {nd : List RmZ} {r : RmZ} : ∀ (j : Nat) (set : List Int) (sum : RmZ) (frm : Nat) (b : List Int × Int), SetZ nd r set sum → (∀ x ∈ set, x < (frm : Int)) → GoodB nd r b → GoodB nd r (filZ nd r j set sum frm b)
  | 0, set, sum, frm, b, hs, hf, hb => by
    rw [filZ]
    split
    · exact ⟨sum, hs, rfl⟩
    · exact hb
  | j + 1, set, sum, frm, b, hs, hf, hb => by
    rw [filZ]
    refine itr_inv (GoodB nd r) _ _ ?_ fun k b hk1 hk2 hb' => ?_
    · split
      · exact ⟨sum, hs, rfl⟩
      · exact hb
    · split
      · next hfit =>
        refine filZ_good j _ _ _ _ ⟨?_, ?_, ?_, hfit⟩ ?_ hb'
        · rw [sumL_snoc, hs.sum]; rfl
        · rw [List.pairwise_append]
          refine ⟨hs.rise, by simp, fun a ha c hc => ?_⟩
          have := hf a ha
          have hc : c = (k : Int) := by simpa using hc
          omega
        · intro x hx
          rcases List.mem_append.1 hx with hx | hx
          · exact hs.bd x hx
          · have hx : x = (k : Int) := by simpa using hx
            omega
        · intro x hx
          rcases List.mem_append.1 hx with hx | hx
          · have := hf x hx; omega
          · have hx : x = (k : Int) := by simpa using hx
            omega
      · exact hb'

end Go.Proofs.YtcclfmapbgdpdaaGreatDoor

namespace Go.Proofs.YtcclfmapbgdpdaaGreatDoor
open Go.RowKit
set_option linter.unusedVariables false

/-- Where a row of numbers is k. -/
def isAt (rs : List Int) (k : Int) (i : Nat) : Bool := rs.getD i (-1) == k
theorem fits_zero {r : RmZ} (h : PosR r) : fitsZ zeroR r = true := fits_iff.2 h
theorem sumAt_none {nd : List RmZ} {rs : List Int} {k : Int} (hk : k ∉ rs) (h0 : 0 ≤ k) (n : Nat) : sumQ nd (isAt rs k) n = zeroR := sum_none hk h0 n
theorem idxAt_len {rs : List Int} {k : Int} {n : Nat} (hn : rs.length = n) (hk : k ∈ rs) : 0 < (idxQ (isAt rs k) n).length := by
  obtain ⟨i, hi, he⟩ := List.mem_iff_getElem.1 hk
  have : (i : Int) ∈ idxQ (isAt rs k) n := idxQ_mem n (by omega) (by
    unfold isAt
    rw [List.getD_eq_getElem?_getD, List.getElem?_eq_getElem hi, he]
    simp)
  exact List.length_pos_of_mem this

/-- The rides of the first come: each fits. -/
theorem fr_fits {nd : List RmZ} {r : RmZ} (hal : ∀ x ∈ nd, fitsZ x r = true) (hr : PosR r) (k : Nat) : fitsZ (sumL nd (idxQ (isAt (frS nd r nd.length).1 k) nd.length)) r = true := by
  obtain ⟨ons, h⟩ := frZ_all hal nd.length (Nat.le_refl _)
  rw [sumL_idx]
  by_cases hk : k < ons.length
  · have h3 := h.on.at_ k _ (List.getElem?_eq_getElem hk)
    rw [frS_len] at h3
    exact h3.1 ▸ h3.2.1
  · rw [sumAt_none (fun hm => by have := h.on.bd _ hm; omega) (by omega)]
    exact fits_zero hr
/-- The fewest rides are at most those of the first come. -/
theorem few_le {nd : List RmZ} {r : RmZ} (hal : ∀ x ∈ nd, fitsZ x r = true) {bs : List Int} {u : Nat} (hg : goZ r nd [] [] none = some (bs, u)) (h0 : 0 < nd.length) : u ≤ (frS nd r nd.length).2.1 + 1 := by
  obtain ⟨ons, h⟩ := frZ_all hal nd.length (Nat.le_refl _)
  have hp := h.path ons.length (by rw [List.drop_length]; exact rfl)
  obtain ⟨c, hc, hle⟩ := goZ_path (r := r) nd [] [] none hp
  rw [hg, Option.some.injEq] at hc
  subst hc
  have := (h.last h0).1
  simp only at hle
  omega
theorem few_zero {nd : List RmZ} {r : RmZ} {bs : List Int} {u : Nat} (h : AllZ nd r (bs, u)) : u = 0 ↔ nd.length = 0 := by
  have h1 := h.len
  have h2 := h.few
  have h3 := h.bd
  simp only at h1 h2 h3
  constructor
  · intro hu
    cases bs with
    | nil => simpa using h1.symm
    | cons v bs => have := h3 v (by simp); omega
  · intro hm; omega
theorem few_fits {nd : List RmZ} {r : RmZ} {bs : List Int} {u : Nat} (h : AllZ nd r (bs, u)) (hr : PosR r) (k : Nat) : fitsZ (sumL nd (idxQ (isAt bs k) nd.length)) r = true := by
  rw [sumL_idx]
  by_cases hk : k < u
  · exact (h.at_ k hk).1
  · rw [sumAt_none (fun hm => by have := h.bd _ hm; simp only at this; omega) (by omega)]
    exact fits_zero hr
theorem few_some {nd : List RmZ} {r : RmZ} {bs : List Int} {u : Nat} (h : AllZ nd r (bs, u)) {k : Nat} (hk : k < u) : 0 < (idxQ (isAt bs k) nd.length).length := idxAt_len h.len (h.at_ k hk).2
theorem few_bd {nd : List RmZ} {r : RmZ} {bs : List Int} {u : Nat} (h : AllZ nd r (bs, u)) {i : Nat} (hi : i < nd.length) : ∃ v : Int, bs[i]? = some v ∧ bs.getD i (-1) = v ∧ 0 ≤ v ∧ v < (u : Int) := by
  have hl := h.len
  simp only at hl
  have hx := List.getElem?_eq_getElem (show i < bs.length by omega)
  have hb := h.bd _ (List.mem_of_getElem? hx)
  simp only at hb
  exact ⟨_, hx, by rw [List.getD_eq_getElem?_getD, hx]; rfl, hb.1, hb.2⟩
/-- The rides of the first come rise: what stands at i, behind what stood last. -/
theorem frS_pre (nd : List RmZ) (r : RmZ) : ∀ (n i : Nat), i < n → ((frS nd r n).1)[i]? = some ((frS nd r (i + 1)).2.1 : Int)
  | 0, i, h => absurd h (Nat.not_lt_zero _)
  | n + 1, i, h => by
    have hs : (frS nd r (n + 1)).1 = (frS nd r n).1 ++ [((frS nd r (n + 1)).2.1 : Int)] := by
      rw [frS]; split <;> rfl
    rw [hs]
    by_cases e : i = n
    · subst e
      rw [List.getElem?_append_right (by rw [frS_len]; exact Nat.le_refl _), frS_len]
      simp
    · rw [List.getElem?_append_left (by rw [frS_len]; omega)]
      exact frS_pre nd r n i (by omega)
/-- The last ride before i; -1 at the start. -/
def lastZ (nd : List RmZ) (r : RmZ) : Nat → Int
  | 0 => -1
  | i + 1 => ((frS nd r (i + 1)).2.1 : Int)
theorem lastZ_step {nd : List RmZ} {r : RmZ} (hal : ∀ x ∈ nd, fitsZ x r = true) {i : Nat} (hi : i < nd.length) : ((frS nd r nd.length).1)[i]? = some (lastZ nd r (i + 1)) ∧ lastZ nd r i ≤ lastZ nd r (i + 1) ∧ lastZ nd r (i + 1) ≤ lastZ nd r i + 1 := by
  refine ⟨frS_pre nd r _ _ hi, ?_⟩
  obtain ⟨h1, h2, h3, h4⟩ := frS_step hal hi
  cases i with
  | zero => have := h2 rfl; simp only [lastZ]; omega
  | succ i => simp only [lastZ]; omega
theorem lastZ_bd {nd : List RmZ} {r : RmZ} (hal : ∀ x ∈ nd, fitsZ x r = true) : ∀ i, i ≤ nd.length → -1 ≤ lastZ nd r i ∧ lastZ nd r i < (i : Int)
  | 0, _ => by simp [lastZ]
  | i + 1, h => by
    have h1 := lastZ_bd hal i (by omega)
    have h2 := lastZ_step hal (show i < nd.length by omega)
    omega
theorem few_last {nd : List RmZ} {r : RmZ} (hal : ∀ x ∈ nd, fitsZ x r = true) {bs : List Int} {u : Nat} (hA : AllZ nd r (bs, u)) (hg : goZ r nd [] [] none = some (bs, u)) : (u : Int) ≤ lastZ nd r nd.length + 1 := by
  rcases Nat.eq_zero_or_pos nd.length with h0 | h0
  · have := (few_zero hA).2 h0
    rw [h0]
    simp only [lastZ]; omega
  · have := few_le hal hg h0
    obtain ⟨n, hn⟩ : ∃ n, nd.length = n + 1 := ⟨nd.length - 1, by omega⟩
    rw [hn] at this ⊢
    simp only [lastZ]; omega

/-! ### the most people -/
theorem most_good {nd : List RmZ} {r : RmZ} (hr : PosR r) : ∃ s, SetZ nd r (filZ nd r nd.length [] zeroR 0 ([], 0)).1 s ∧ s.p = (filZ nd r nd.length [] zeroR 0 ([], 0)).2 := by
  have h0 : SetZ nd r [] zeroR := ⟨rfl, by simp, by simp, fits_zero hr⟩
  exact filZ_good nd.length [] zeroR 0 ([], 0) h0 (by simp) ⟨zeroR, h0, rfl⟩
theorem most_most {nd : List RmZ} {r : RmZ} (hp : ∀ x ∈ nd, PosR x) (p : Nat → Bool) (hf : fitsZ (sumL nd (idxQ p nd.length)) r = true) : (sumQ nd p nd.length).p ≤ (filZ nd r nd.length [] zeroR 0 ([], 0)).2 := by
  have h := sumT_sum nd p nd.length 0
  rw [Nat.zero_add] at h
  rw [sumL_idx, ← h] at hf
  have := filZ_most hp p nd.length [] zeroR 0 ([], 0) (Nat.zero_le _) (by omega) hf
  rw [← h]
  exact this
theorem sumQ_p (nd : List RmZ) (p : Nat → Bool) (n : Nat) : (sumQ nd p (n + 1)).p = if p n = true then (sumQ nd p n).p + (nd.getD n zeroR).p else (sumQ nd p n).p := by
  rw [sumQ]; split <;> rfl

end Go.Proofs.YtcclfmapbgdpdaaGreatDoor
