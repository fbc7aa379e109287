/- slices.Index and slices.IndexFunc over strings; ContainsFunc. The function handed over may have captured. -/
import Derived.Test.YtcclfmapbgdpdaaGreatDoorRows
import Derived.Test.YtcclfmapbgdpdaaGreatDoorMg
namespace Go.Proofs.YtcclfmapbgdpdaaGreatDoor
open Go.RowKit
set_option linter.unusedVariables false

/-- The index of the first for which p holds, or -1. -/
def idxI {α : Type} (p : α → Bool) (xs : List α) : Int := if xs.findIdx p < xs.length then (xs.findIdx p : Int) else -1
theorem any_snoc {α : Type} {p : α → Bool} {xs : List α} {k : Nat} {x : α} (hx : xs[k]? = some x) (h : (xs.take k).any p = false) (hp : p x = false) : (xs.take (k + 1)).any p = false := by
  rw [take_snoc hx, List.any_append, h]; simp [hp]
theorem idx_here {α : Type} {p : α → Bool} {xs : List α} {k : Nat} {x : α} (hx : xs[k]? = some x) (h : (xs.take k).any p = false) (hp : p x = true) : idxI p xs = (k : Int) := by
  obtain ⟨hk, he⟩ := List.getElem?_eq_some_iff.1 hx
  have hf : xs.findIdx p = k := by
    rw [List.findIdx_eq hk]
    refine ⟨by rw [he]; exact hp, fun j hj => ?_⟩
    have hm : xs[j] ∈ xs.take k := by
      rw [List.mem_take_iff_getElem]
      exact ⟨j, by omega, rfl⟩
    rw [List.any_eq_false] at h
    simpa using h _ hm
  unfold idxI
  rw [hf, if_pos hk]
theorem idx_none {α : Type} {p : α → Bool} {xs : List α} {n : Nat} (hl : xs.length = n) (h : (xs.take n).any p = false) : idxI p xs = -1 := by
  rw [List.take_of_length_le (by omega), List.any_eq_false] at h
  have hf : xs.findIdx p = xs.length := by
    rw [List.findIdx_eq_length]
    intro x hx
    simpa using h x hx
  unfold idxI
  rw [hf, if_neg (by omega)]
theorem idx_any {α : Type} (p : α → Bool) (xs : List α) : decide (0 ≤ idxI p xs) = xs.any p := by
  unfold idxI
  by_cases h : xs.findIdx p < xs.length
  · rw [if_pos h]
    have h1 := List.findIdx_getElem (xs := xs) (p := p) (w := h)
    rw [List.any_eq_true.2 ⟨_, List.getElem_mem h, h1⟩]
    simp
  · rw [if_neg h]
    rw [Bool.eq_iff_iff, List.any_eq_true]
    constructor
    · intro h; simp at h
    · rintro ⟨x, hx, hp⟩
      exact absurd (List.findIdx_lt_length_of_exists ⟨x, hx, hp⟩) h
theorem idx_range {α : Type} (p : α → Bool) (xs : List α) : -1 ≤ idxI p xs ∧ idxI p xs ≤ xs.length := by
  unfold idxI
  split <;> omega

set_option maxHeartbeats 1000000 in
theorem indexB_calls (A : Option Addr) (n c : Nat) (xs : List ByteArray) (x : ByteArray) (w : World) (h : RdK kB w A n xs) (hn : n ≤ 1048576) :
    Calls Tryz.prog 178 #[.slice A n c, .string x] w fun e w' => e = .returned (.int .i64 (idxI (fun y => decide (y = x)) xs)) ∧ w = w' := by
  have HL := hide h.2.1
  go_enter Tryz.func178, Tryz.ntmps178
  go_wp2
  go_loop [8] (fun i => ∃ (k : Nat), k ≤ n ∧ i = .int .i64 k ∧ Hid ((xs.take k).any (fun y => decide (y = x)) = false)) (fun i => n - (intOf i).toNat)
  case atStart => exact ⟨0, Nat.zero_le _, rfl, by simp [Hid]⟩
  case round =>
    obtain ⟨k, hk, rfl, HC⟩ := hrel
    by_cases hlt : k < n
    · obtain ⟨b, off, s, rfl, hbl, hx, hc, hs1⟩ := RdK.atB h hlt
      by_cases he : x = s
      · have HI := hide (idx_here (p := fun y => decide (y = x)) hx.out HC.out (by simp [he]))
        obtain ⟨e1, e2⟩ := str_eq he
        clear he
        go_wp2
        go_ret
        exact ⟨ret_int HI.out.symm, rfl⟩
      · have HI := hide (any_snoc (p := fun y => decide (y = x)) hx.out HC.out (by simpa using fun e => he e.symm))
        obtain ⟨e1, e2⟩ := str_ne he
        clear he
        go_wp2
        go_round
        case rel => exact ⟨k + 1, by omega, by go_num, HI⟩
        case measure => simp [intOf]; omega
    · have hkn : k = n := by omega
      subst hkn
      have HI := hide (idx_none (p := fun y => decide (y = x)) HL.out HC.out)
      go_wp2
      go_ret
      exact ⟨ret_int HI.out.symm, rfl⟩

theorem containsB_calls (A : Option Addr) (n c : Nat) (xs : List ByteArray) (x : ByteArray) (w : World) (h : RdK kB w A n xs) (hn : n ≤ 1048576) :
    Calls Tryz.prog 108 #[.slice A n c, .string x] w fun e w' => e = .returned (.bool (inB xs x)) ∧ w = w' := by
  have HC := hide (indexB_calls A n c xs x w h hn)
  have HI : Hid (decide (0 ≤ idxI (fun y => decide (y = x)) xs) = inB xs x) := idx_any _ _
  clear h
  go_enter Tryz.func108, Tryz.ntmps108
  go_wp2_with fail
  refine HC.out.mono ?_
  rintro e w' ⟨rfl, rfl⟩
  generalize idxI (fun y => decide (y = x)) xs = i at *
  go_wp2
  go_ret
  exact ⟨ret_bool HI.out, rfl⟩

set_option maxHeartbeats 1000000 in
theorem indexFB_calls (A : Option Addr) (n c : Nat) (xs : List ByteArray) (f : Nat) (caps : Array Value) (p : ByteArray → Bool) (w : World) (h : RdK kB w A n xs) (hn : n ≤ 1048576)
    (hcf : ∀ args w, Sem.run Tryz.prog (callFunc f args) w = .ok (.enter f args) w)
    (hf : ∀ W s, Below w.heap.size w W → s ∈ xs → s.size ≤ 9223372036854775807 → Calls Tryz.prog f (#[.string s] ++ caps) W fun e w' => e = .returned (.bool (p s)) ∧ Below W.heap.size W w') :
    Calls Tryz.prog 212 #[.slice A n c, .func (.func f) #[] caps] w fun e w' => e = .returned (.int .i64 (idxI p xs)) ∧ Below w.heap.size w w' := by
  have HL := hide h.2.1
  have HF := hide hf
  clear hf
  go_enter Tryz.func212, Tryz.ntmps212
  go_wp2
  go_loopw [8] (fun i wr => ∃ (k : Nat), k ≤ n ∧ i = .int .i64 k ∧ Hid ((xs.take k).any p = false) ∧ Below w.heap.size w wr) (fun i _ => n - (intOf i).toNat)
  case atStart => exact ⟨0, Nat.zero_le _, rfl, by simp [Hid], Below.refl _ _⟩
  case round =>
    obtain ⟨k, hk, rfl, HC, hb⟩ := hrel
    by_cases hlt : k < n
    · obtain ⟨b, off, s, rfl, hbl, hx, hc, hs1⟩ := RdK.atB (h.below hb (Nat.le_refl _)) hlt
      have HM := hide (HF.out wr s hb (List.mem_of_getElem? hx.out) hs1)
      cases hp : p s
      · have HI := hide (any_snoc hx.out HC.out hp)
        rw [hp] at HM
        clear hp
        go_wp2_with fail
        refine HM.out.mono ?_
        rintro e w2 ⟨rfl, hb2⟩
        go_wp2
        go_roundw
        case rel => exact ⟨k + 1, by omega, by go_num, HI, hb.trans (hb2.mono hb.size)⟩
        case measure => simp [intOf]; omega
      · have HI := hide (idx_here hx.out HC.out hp)
        rw [hp] at HM
        clear hp
        go_wp2_with fail
        refine HM.out.mono ?_
        rintro e w2 ⟨rfl, hb2⟩
        go_wp2
        go_ret
        exact ⟨ret_int HI.out.symm, hb.trans (hb2.mono hb.size)⟩
    · have hkn : k = n := by omega
      subst hkn
      have HI := hide (idx_none (p := p) HL.out HC.out)
      go_wp2
      go_ret
      exact ⟨ret_int HI.out.symm, hb⟩

theorem containsFB_calls (A : Option Addr) (n c : Nat) (xs : List ByteArray) (f : Nat) (caps : Array Value) (p : ByteArray → Bool) (w : World) (h : RdK kB w A n xs) (hn : n ≤ 1048576)
    (hcf : ∀ args w, Sem.run Tryz.prog (callFunc f args) w = .ok (.enter f args) w)
    (hf : ∀ W s, Below w.heap.size w W → s ∈ xs → s.size ≤ 9223372036854775807 → Calls Tryz.prog f (#[.string s] ++ caps) W fun e w' => e = .returned (.bool (p s)) ∧ Below W.heap.size W w') :
    Calls Tryz.prog 168 #[.slice A n c, .func (.func f) #[] caps] w fun e w' => e = .returned (.bool (xs.any p)) ∧ Below w.heap.size w w' := by
  have HC := hide (indexFB_calls A n c xs f caps p w h hn hcf hf)
  have HI := hide (idx_any p xs)
  clear h hf hcf
  go_enter Tryz.func168, Tryz.ntmps168
  go_wp2_with fail
  refine HC.out.mono ?_
  rintro e w' ⟨rfl, hb⟩
  generalize idxI p xs = i at *
  go_wp2
  go_ret
  exact ⟨ret_bool HI.out, hb⟩

end Go.Proofs.YtcclfmapbgdpdaaGreatDoor
