/- Contract of markText. -/
import Derived.Test.YtcclfmapbgdpdaaGreatDoorRows
import Derived.Test.YtcclfmapbgdpdaaGreatDoorFresh
import Derived.Laws.BytesString
namespace Go.Proofs.YtcclfmapbgdpdaaGreatDoor
open Go.RowKit
set_option linter.unusedVariables false

theorem conv_one (w : World) (d : Int) :
    (convert 22 9 (.slice (some ⟨w.heap.size, 0, none⟩) 1 1)).run Tryz.prog (w.alloc (.cells #[.int .u8 d] 5)) = .ok (.string (ByteArray.empty.push (UInt8.ofNat d.toNat))) (w.alloc (.cells #[.int .u8 d] 5)) := by
  rw [run_convert_bytes_string _ _ _ 5 _ _ _ Tryz.underlying22 Tryz.underlying5 Tryz.underlying9]
  exact run_bytesToString _ _ _ _ [d] (run_loadCells_list _ _ [Value.int .u8 d] (cell_one_new _ _ _))

def mtF : Nat → Nat → ByteArray → ByteArray
  | 0, _, out => out
  | f + 1, k, out => if k = 0 then out else mtF f (k / 10) (ByteArray.empty.push (UInt8.ofNat (48 + k % 10)) ++ out)
/-- The mark of a number. -/
def mT (k : Nat) : ByteArray := ⟨#[109]⟩ ++ mtF k k ⟨#[]⟩
theorem mtF_eq : ∀ (k f : Nat) (out : ByteArray), k ≤ f → mtF f k out = mtF k k out := by
  intro k
  induction k using Nat.strongRecOn with
  | _ k ih =>
    intro f out hf
    rcases Nat.eq_zero_or_pos k with h0 | h0
    · subst h0
      cases f <;> simp [mtF]
    · obtain ⟨k', rfl⟩ : ∃ k', k = k' + 1 := ⟨k - 1, by omega⟩
      obtain ⟨f', rfl⟩ : ∃ f', f = f' + 1 := ⟨f - 1, by omega⟩
      have hd : (k' + 1) / 10 ≤ k' := by omega
      simp only [mtF]
      rw [if_neg (by omega), if_neg (by omega), ih _ (by omega) f' _ (by omega), ih _ (by omega) k' _ (by omega)]
theorem mtF_step {k : Nat} (h : 0 < k) (out : ByteArray) : mtF k k out = mtF (k / 10) (k / 10) (ByteArray.empty.push (UInt8.ofNat (48 + k % 10)) ++ out) := by
  obtain ⟨k', rfl⟩ : ∃ k', k = k' + 1 := ⟨k - 1, by omega⟩
  conv => lhs; simp only [mtF]
  rw [if_neg (by omega), mtF_eq _ _ _ (by omega)]

theorem mtF_size : ∀ (f k : Nat) (out : ByteArray), (mtF f k out).size ≤ out.size + k := by
  intro f
  induction f with
  | zero => intro k out; simp [mtF]
  | succ f ih =>
    intro k out
    simp only [mtF]
    split
    · omega
    · refine Nat.le_trans (ih _ _) ?_
      rw [ByteArray.size_append]
      have : (ByteArray.empty.push (UInt8.ofNat (48 + k % 10))).size = 1 := rfl
      omega
theorem mT_size (k : Nat) : (mT k).size ≤ k + 1 := by
  unfold mT
  rw [ByteArray.size_append]
  have := mtF_size k k ⟨#[]⟩
  have e1 : (⟨#[109]⟩ : ByteArray).size = 1 := rfl
  have e2 : (⟨#[]⟩ : ByteArray).size = 0 := rfl
  omega

end Go.Proofs.YtcclfmapbgdpdaaGreatDoor
