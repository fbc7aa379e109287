/- Contracts on memos, and ContainsFunc over bytes, of the program and of the reference. -/
import Derived.Test.YtcclfmapbgdpdaaGreatDoorRows
import Derived.Test.YtcclfmapbgdpdaaGreatDoorBase
namespace Go.Proofs.YtcclfmapbgdpdaaGreatDoor
open Go.RowKit
set_option linter.unusedVariables false

def printB (c : UInt8) : Bool := decide (32 ≤ c.toNat) && decide (c.toNat ≤ 126)
/-- Is a text a memo? -/
def memoB (s : ByteArray) : Bool := decide (s.size ≤ 20) && (bs s).all printB
theorem print_eq (c : UInt8) : printB c = (decide ((32 : Int) ≤ c.toNat) && decide ((c.toNat : Int) ≤ 126)) := by
  unfold printB
  congr 1 <;> (rw [decide_eq_decide]; omega)

theorem allP_snoc {p : UInt8 → Bool} {s : ByteArray} {k : Nat} {c : UInt8} (hx : (bs s)[k]? = some c) (h : ((bs s).take k).all p = true) (hc : p c = true) :
    ((bs s).take (k + 1)).all p = true := by
  rw [take_snoc hx, List.all_append, h]; simpa using hc
theorem allP_bad {p : UInt8 → Bool} {s : ByteArray} {k : Nat} {c : UInt8} (hx : (bs s)[k]? = some c) (hc : p c = false) : (bs s).all p = false := by
  rw [List.all_eq_false]
  exact ⟨c, List.mem_of_getElem? hx, by simp [hc]⟩
theorem allP_end {p : UInt8 → Bool} {s : ByteArray} {k : Nat} (hk : k = s.size) (h : ((bs s).take k).all p = true) : (bs s).all p = true := by
  rwa [List.take_of_length_le (by rw [bs_len]; omega)] at h
theorem memo_bad {s : ByteArray} (h : (bs s).all printB = false) : memoB s = false := by unfold memoB; rw [h]; simp
theorem memo_end {s : ByteArray} (h : (bs s).all printB = true) : memoB s = decide ((s.size : Int) ≤ 20) := by
  unfold memoB
  rw [h, Bool.and_true, decide_eq_decide]
  omega

/-- A row of bytes reads as a string's. -/
def RdU (w : World) (b : Nat) (s : ByteArray) : Prop := ∀ k c, (bs s)[k]? = some c → w.cell? ⟨b, k, none⟩ = some (.int .u8 (c.toNat : Int))
theorem rdU_bytesWorld (w : World) (e : TypeId) (s : ByteArray) : RdU (Lib.bytesWorld w e s) w.heap.size s := by
  intro k c hx
  have hk : k < s.size := by have := (List.getElem?_eq_some_iff.1 hx).1; rwa [bs_len] at this
  rw [Lib.bytesWorld_cell w e s k hk]
  simp only [bs] at hx
  simp [List.getD, hx]

theorem anyU_snoc {p : UInt8 → Bool} {s : ByteArray} {k : Nat} {c : UInt8} (hx : (bs s)[k]? = some c) (h : ((bs s).take k).any p = false) (hc : p c = false) :
    ((bs s).take (k + 1)).any p = false := by
  rw [take_snoc hx, List.any_append, h]; simpa using hc
theorem anyU_at {p : UInt8 → Bool} {s : ByteArray} {k : Nat} {c : UInt8} (hx : (bs s)[k]? = some c) (hc : p c = true) : (bs s).any p = true := by
  rw [List.any_eq_true]
  exact ⟨c, List.mem_of_getElem? hx, hc⟩
theorem anyU_end {p : UInt8 → Bool} {s : ByteArray} {k : Nat} (hk : k = s.size) (h : ((bs s).take k).any p = false) : (bs s).any p = false := by
  rwa [List.take_of_length_le (by rw [bs_len]; omega)] at h

set_option maxHeartbeats 1000000 in
theorem indexFuncU_calls (b cap : Nat) (s : ByteArray) (f : Nat) (p : UInt8 → Bool) (w : World) (h : RdU w b s) (hs : s.size ≤ 1048576)
    (hcf : ∀ args w, Sem.run Tryz.prog (callFunc f args) w = .ok (.enter f args) w)
    (hf : ∀ (x : UInt8) w, Calls Tryz.prog f #[.int .u8 (x.toNat : Int)] w fun e w' => e = .returned (.bool (p x)) ∧ w = w') :
    Calls Tryz.prog 226 #[.slice (some ⟨b, 0, none⟩) s.size cap, .func (.func f) #[] #[]] w fun e w' => (∃ i : Int, e = .returned (.int .i64 i) ∧ decide (0 ≤ i) = (bs s).any p) ∧ w = w' := by
  have HF := hide hf
  clear hf
  go_enter Tryz.func226, Tryz.ntmps226
  go_wp2
  go_loop [8] (fun i => ∃ (k : Nat), k ≤ s.size ∧ i = .int .i64 k ∧ Hid (((bs s).take k).any p = false)) (fun i => s.size - (intOf i).toNat)
  case atStart => exact ⟨0, Nat.zero_le _, rfl, by simp [Hid]⟩
  case round =>
    obtain ⟨k, hk, rfl, HC⟩ := hrel
    by_cases hlt : k < s.size
    · obtain ⟨c, _, hx⟩ := bs_at s hlt
      have hc := h k c hx.out
      cases hp : p c
      · go_wp2_with fail
        refine (HF.out _ _).mono ?_
        rintro e w' ⟨rfl, rfl⟩
        go_wp2
        go_round
        case rel => exact ⟨k + 1, by omega, by go_num, anyU_snoc hx.out HC.out hp⟩
        case measure => simp [intOf]; omega
      · go_wp2_with fail
        refine (HF.out _ _).mono ?_
        rintro e w' ⟨rfl, rfl⟩
        go_wp2
        go_ret
        exact ⟨⟨_, rfl, by rw [anyU_at hx.out hp]; simp⟩, rfl⟩
    · have hkn : k = s.size := by omega
      have HN := hide (anyU_end hkn HC.out)
      go_wp2
      go_ret
      exact ⟨⟨_, rfl, by rw [HN.out]; rfl⟩, rfl⟩

theorem containsFuncU_calls (b cap : Nat) (s : ByteArray) (f : Nat) (p : UInt8 → Bool) (w : World) (h : RdU w b s) (hs : s.size ≤ 1048576)
    (hcf : ∀ args w, Sem.run Tryz.prog (callFunc f args) w = .ok (.enter f args) w)
    (hf : ∀ (x : UInt8) w, Calls Tryz.prog f #[.int .u8 (x.toNat : Int)] w fun e w' => e = .returned (.bool (p x)) ∧ w = w') :
    Calls Tryz.prog 176 #[.slice (some ⟨b, 0, none⟩) s.size cap, .func (.func f) #[] #[]] w fun e w' => e = .returned (.bool ((bs s).any p)) ∧ w = w' := by
  have HF := hide hf
  have HCF := hide hcf
  clear hf hcf
  go_enter Tryz.func176, Tryz.ntmps176
  go_wp2_with fail
  refine (indexFuncU_calls _ _ _ _ p _ h hs HCF.out HF.out).mono ?_
  rintro e w' ⟨⟨i, rfl, hi⟩, rfl⟩
  have HI := hide hi
  clear hi
  go_wp2
  go_ret
  exact ⟨ret_bool HI.out, rfl⟩

theorem memo_any (s : ByteArray) (h : s.size ≤ 20) : memoB s = !(bs s).any (fun c => !printB c) := by
  unfold memoB
  rw [List.not_any_eq_all_not]
  simp [h]


end Go.Proofs.YtcclfmapbgdpdaaGreatDoor
