/- Contracts of markText, markSettingS and heldSettingS. -/
import Derived.Test.YtmcdafaadodekaaRows
import Derived.Test.YtmcdafaadodekaaSet
import Derived.Test.YtmcdafaadodekaaFresh
import Derived.Laws.BytesString
namespace Go.Proofs.Ytmcdafaadodekaa
open Go.RowKit
set_option linter.unusedVariables false

theorem conv_one (w : World) (d : Int) :
    (convert 121 9 (.slice (some ⟨w.heap.size, 0, none⟩) 1 1)).run Try.prog (w.alloc (.cells #[.int .u8 d] 5)) = .ok (.string (ByteArray.empty.push (UInt8.ofNat d.toNat))) (w.alloc (.cells #[.int .u8 d] 5)) := by
  rw [run_convert_bytes_string _ _ _ 5 _ _ _ Try.underlying121 Try.underlying5 Try.underlying9]
  exact run_bytesToString _ _ _ _ [d] (run_loadCells_list _ _ [Value.int .u8 d] (cell_one_new _ _ _))

def mtF : Nat → Nat → ByteArray → ByteArray
  | 0, _, out => out
  | f + 1, k, out => if k = 0 then out else mtF f (k / 10) (ByteArray.empty.push (UInt8.ofNat (48 + k % 10)) ++ out)
/-- The mark of a number. -/
def mT (k : Nat) : ByteArray := ⟨#[109]⟩ ++ mtF k k ⟨#[]⟩
theorem mtF_eq : ∀ (k f : Nat) (out : ByteArray), k ≤ f → mtF f k out = mtF k k out := by
  intro k
  induction k using Nat.strongRecOn with
  | _ k ih =>
    intro f out hf
    rcases Nat.eq_zero_or_pos k with h0 | h0
    · subst h0
      cases f <;> simp [mtF]
    · obtain ⟨k', rfl⟩ : ∃ k', k = k' + 1 := ⟨k - 1, by omega⟩
      obtain ⟨f', rfl⟩ : ∃ f', f = f' + 1 := ⟨f - 1, by omega⟩
      have hd : (k' + 1) / 10 ≤ k' := by omega
      simp only [mtF]
      rw [if_neg (by omega), if_neg (by omega), ih _ (by omega) f' _ (by omega), ih _ (by omega) k' _ (by omega)]
theorem mtF_step {k : Nat} (h : 0 < k) (out : ByteArray) : mtF k k out = mtF (k / 10) (k / 10) (ByteArray.empty.push (UInt8.ofNat (48 + k % 10)) ++ out) := by
  obtain ⟨k', rfl⟩ : ∃ k', k = k' + 1 := ⟨k - 1, by omega⟩
  conv => lhs; simp only [mtF]
  rw [if_neg (by omega), mtF_eq _ _ _ (by omega)]

set_option maxHeartbeats 1000000 in
theorem markText_calls (k0 : Nat) (w : World) (h1 : 1 ≤ k0) (h2 : k0 ≤ 4611686018427387904) :
    Calls Try.prog 79 #[.int .i64 k0] w fun e w' => e = .returned (.string (mT k0)) ∧ Below w.heap.size w w' := by
  have HD : Hid (mT k0 = ⟨#[109]⟩ ++ mtF k0 k0 ⟨#[]⟩) := rfl
  go_enter Try.func79, Try.ntmps79
  go_wp2
  go_loopw [0, 3] (fun i s wr => ∃ (k : Nat) (out : ByteArray), i = .int .i64 k ∧ s = .string out ∧ out.size + k ≤ k0 ∧ Hid (mtF k k out = mtF k0 k0 ⟨#[]⟩) ∧ Below w.heap.size w wr) (fun i _ _ => (intOf i).toNat)
  case atStart => exact ⟨k0, _, rfl, rfl, (show 0 + k0 ≤ k0 by omega), rfl, Below.refl _ _⟩
  case round =>
    obtain ⟨k, out, rfl, rfl, hk, HC, hb⟩ := hrel
    by_cases hlt : 0 < k
    · have hcv := conv_one wr (48 + (k : Int) % 10)
      have HS := hide (mtF_step hlt out)
      have hm1 : 0 ≤ (k : Int) % 10 := by omega
      have hm2 : (k : Int) % 10 < 10 := by omega
      go_wp2
      go_roundw
      case rel =>
        refine ⟨k / 10, _, by simp, rfl, ?_, ?_, hb.alloc hb.size _⟩
        · simp [ByteArray.size_append]
          omega
        · unfold Hid
          rw [← HC.out, HS.out]
          simp
      case measure => simp [intOf]; omega
    · have hk0 : k = 0 := by omega
      subst hk0
      have h3 := HC.out
      simp only [mtF] at h3
      have HX : Hid (mT k0 = ⟨#[109]⟩ ++ out) := by unfold Hid; rw [HD.out, ← h3]
      clear h3
      go_wp2
      go_ret
      exact ⟨congrArg (fun s => Ending.returned (Value.string s)) HX.out.symm, hb⟩

/-- The marks of n settings, from k on. -/
def markL (k : Nat) : Nat → List SetZ
  | 0 => []
  | n + 1 => markL k n ++ [⟨mT (k + 2 * n), ((k + 2 * n + 1 : Nat) : Int)⟩]
theorem markL_len (k n : Nat) : (markL k n).length = n := by
  induction n with
  | zero => rfl
  | succ n ih => simp [markL, ih]

set_option maxHeartbeats 2000000 in
theorem markSettingSN_calls (A : Option Addr) (n c : Nat) (lo hi : Nat) (cs : List Value) (k : Nat) (w : World) (h : Fr w lo hi 76 2 A n cs) (hn : n ≤ 1048576) (hk : 1 ≤ k) (hk2 : k ≤ 1152921504606846976) (hhi : hi ≤ w.heap.size) :
    Calls Try.prog 30 #[.slice A n c, .int .i64 k] w fun e w' => e = .returned (.int .i64 ((k + 2 * n : Nat) : Int)) ∧ Fr w' lo hi 76 2 A n ((markL k n).map cS).flatten ∧ Wr lo hi w w' := by
  go_enter Try.func30, Try.ntmps30
  go_wp2
  go_loopw [1, 5] (fun q i wr => ∃ (j : Nat), j ≤ n ∧ i = .int .i64 j ∧ q = .int .i64 ((k : Int) + 2 * (j : Int)) ∧ Hid (∃ cur : List Value, Fr wr lo hi 76 2 A n cur ∧ cur.take (j * 2) = ((markL k j).map cS).flatten ∧ hi ≤ wr.heap.size) ∧ Wr lo hi w wr) (fun _ i _ => n - (intOf i).toNat)
  case atStart => exact ⟨0, Nat.zero_le _, rfl, by simp, ⟨cs, h, by simp [markL], hhi⟩, Wr.refl _ _ _⟩
  case round =>
    obtain ⟨j, hj, rfl, rfl, HF, hw⟩ := hrel
    by_cases hlt : j < n
    · go_wp2_with fail
      have e1 : (k : Int) + 2 * (j : Int) = ((k + 2 * j : Nat) : Int) := by omega
      rw [e1]
      clear e1
      refine (markText_calls (k + 2 * j) _ (by omega) (by omega)).mono ?_
      rintro e w2 ⟨rfl, hb2⟩
      obtain ⟨cur, hF, hcur, hhi2⟩ := HF.out
      have hF2 := hF.below hb2 hhi2
      obtain ⟨b, off, v, rfl, hl, hh, hc, hf, hst⟩ := hF2.store (j := j * 2) (by omega)
      obtain ⟨b', off', v', hA, hl', hh', hc', hf', hst'⟩ := (hst.out (.string (mT (k + 2 * j)))).store (j := j * 2 + 1) (by omega)
      obtain ⟨rfl, rfl⟩ : b = b' ∧ off = off' := by injection hA with hA; injection hA; exact ⟨‹_›, ‹_›⟩
      clear hA
      have e2 : off + (j * 2 + 1) = off + j * 2 + 1 := by omega
      rw [e2] at hc' hf' hst'
      clear e2
      have HW := hide (And.intro hF.1 (And.intro hcur (And.intro hhi2 (And.intro hb2 (And.intro hl hh)))))
      clear hF hcur hhi2 hF2 hl' hh'
      go_wp2
      go_roundw
      case rel =>
        obtain ⟨hF1, hcur, hhi2, hb2', hl, hh⟩ := HW.out
        refine ⟨j + 1, by omega, by go_num, by go_num, ⟨_, hst'.out _, ?_, ?_⟩, ?_⟩
        · rw [take_set_snoc2 (by rw [hF1]; omega), hcur, markL]
          simp [cS]
        · have := hb2'.size
          simp only [World.setCell]
          simp
          omega
        · exact ((hw.trans (Wr.of_below hb2')).trans (Wr.setCell _ _ hl hh)).trans (Wr.setCell _ _ hl hh)
      case measure => simp [intOf]; omega
    · have hjn : j = n := by omega
      subst hjn
      go_wp2
      go_ret
      obtain ⟨cur, hF, hcur, hhi2⟩ := HF.out
      rw [List.take_of_length_le (by rw [hF.1]; omega)] at hcur
      exact ⟨by simp, hcur ▸ hF, hw⟩

end Go.Proofs.Ytmcdafaadodekaa
