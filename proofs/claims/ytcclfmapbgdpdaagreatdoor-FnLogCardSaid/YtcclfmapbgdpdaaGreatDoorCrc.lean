/- Crc16 of the program, l01Crc of the reference. -/
import Derived.Test.YtcclfmapbgdpdaaGreatDoorMg
import Derived.Laws.BitsAllLaws
namespace Go.Proofs.YtcclfmapbgdpdaaGreatDoor
open Go.RowKit
set_option linter.unusedVariables false

theorem ofInt_i64n (a : Nat) (ha : a < 9223372036854775808) : (BitVec.ofInt 64 (a : Int)).toNat = a := by
  rw [BitVec.ofInt_natCast, BitVec.toNat_ofNat]; exact Nat.mod_eq_of_lt (by omega)
theorem i64_and_n (a b : Nat) (ha : a < 9223372036854775808) (hb : b < 9223372036854775808) : bits .and .i64 (a : Int) (b : Int) = ((a &&& b : Nat) : Int) := by
  have hx : a &&& b < 2 ^ 63 := Nat.and_lt_two_pow _ (by omega)
  show IntKind.i64.wrap ((BitVec.ofInt 64 (a : Int) &&& BitVec.ofInt 64 (b : Int)).toNat : Int) = _
  rw [BitVec.toNat_and, ofInt_i64n a ha, ofInt_i64n b hb, IntKind.wrap_i64]
  omega
theorem i64_xor_n (a b : Nat) (ha : a < 9223372036854775808) (hb : b < 9223372036854775808) : bits .xor .i64 (a : Int) (b : Int) = ((a ^^^ b : Nat) : Int) := by
  have hx : a ^^^ b < 2 ^ 63 := Nat.xor_lt_two_pow (by omega) (by omega)
  show IntKind.i64.wrap ((BitVec.ofInt 64 (a : Int) ^^^ BitVec.ofInt 64 (b : Int)).toNat : Int) = _
  rw [BitVec.toNat_xor, ofInt_i64n a ha, ofInt_i64n b hb, IntKind.wrap_i64]
  omega

/-- One bit of a check value. -/
def crcBit (n : Nat) : Nat := if 65535 < n * 2 then ((n * 2) &&& 65535) ^^^ 4129 else n * 2
def crcBits : Nat → Nat → Nat
  | 0, n => n
  | k + 1, n => crcBit (crcBits k n)
def crcByte (n : Nat) (c : UInt8) : Nat := crcBits 8 (n ^^^ (c.toNat * 256))
/-- The check value of bytes. -/
def crcN (l : List UInt8) (n : Nat) : Nat := l.foldl crcByte n
theorem crcBit_lt {n : Nat} (h : n < 65536) : crcBit n < 65536 := by
  unfold crcBit
  split
  · exact Nat.xor_lt_two_pow (n := 16) (Nat.and_lt_two_pow _ (by decide)) (by decide)
  · omega
theorem crcBits_lt {n : Nat} (k : Nat) (h : n < 65536) : crcBits k n < 65536 := by
  induction k with
  | zero => exact h
  | succ k ih => exact crcBit_lt ih
theorem crcStart_lt {n : Nat} (c : UInt8) (h : n < 65536) : n ^^^ (c.toNat * 256) < 65536 :=
  Nat.xor_lt_two_pow (n := 16) h (by have := c.toNat_lt; omega)
theorem crcByte_lt {n : Nat} (c : UInt8) (h : n < 65536) : crcByte n c < 65536 := by unfold crcByte; exact crcBits_lt 8 (crcStart_lt c h)
theorem crcBit_hi {y : Nat} (h : 65535 < y * 2) : crcBit y = ((y * 2) &&& 65535) ^^^ 4129 := if_pos h
theorem crcBit_lo {y : Nat} (h : ¬ 65535 < y * 2) : crcBit y = y * 2 := if_neg h
theorem crcN_lt (l : List UInt8) {n : Nat} (h : n < 65536) : crcN l n < 65536 := by
  unfold crcN
  induction l generalizing n with
  | nil => simpa only [List.foldl_nil] using h
  | cons c l ih => rw [List.foldl_cons]; exact ih (crcByte_lt c h)
theorem crc_snoc {s : ByteArray} {k n : Nat} {c : UInt8} (hx : (bs s)[k]? = some c) : crcN ((bs s).take (k + 1)) n = crcByte (crcN ((bs s).take k) n) c := by
  rw [take_snoc hx]; unfold crcN; rw [List.foldl_append, List.foldl_cons, List.foldl_nil]

set_option maxHeartbeats 4000000 in
theorem l01Crc_calls (s : ByteArray) (n : Nat) (w : World) (hs : s.size ≤ 9223372036854775807) (hn : n < 65536) :
    Calls Tryz.prog 253 #[.string s, .int .i64 (n : Int)] w fun e w' => e = .returned (.int .i64 (crcN (bs s) n : Nat)) ∧ w = w' := by
  go_enter Tryz.func253, Tryz.ntmps253
  go_wp2
  go_loop [1, 5] (fun q i => ∃ (k x : Nat), k ≤ s.size ∧ i = .int .i64 k ∧ q = .int .i64 x ∧ x < 65536 ∧ Hid (crcN ((bs s).take k) n = x)) (fun _ i => s.size - (intOf i).toNat)
  case atStart => exact ⟨0, n, Nat.zero_le _, rfl, rfl, hn, rfl⟩
  case round =>
    obtain ⟨k, x, hk, rfl, rfl, hx6, HC⟩ := hrel
    by_cases hlt : k < s.size
    · obtain ⟨c, hsc, hx⟩ := bs_at s hlt
      have hc := c.toNat_lt
      have HN := hide (crc_snoc (n := n) hx.out)
      have h256 : bits .xor .i64 (x : Int) ((c.toNat : Int) * 256) = ((x ^^^ (c.toNat * 256) : Nat) : Int) := i64_xor_n x (c.toNat * 256) (by omega) (by omega)
      have hz6 := crcStart_lt c hx6
      generalize hzz : x ^^^ (c.toNat * 256) = z at *
      have HZ := hide hzz
      clear hzz
      go_wp2
      go_loop [1, 6] (fun q i => ∃ (j y : Nat), j ≤ 8 ∧ i = .int .i64 j ∧ q = .int .i64 y ∧ y < 65536 ∧ Hid (crcBits j z = y)) (fun _ i => 8 - (intOf i).toNat)
      case atStart => exact ⟨0, z, Nat.zero_le _, rfl, rfl, hz6, rfl⟩
      case round =>
        clear h256
        obtain ⟨j, y, hj, rfl, rfl, hy6, HB⟩ := hrel
        by_cases hj8 : j < 8
        · by_cases hhi : 65535 < y * 2
          · have HS := hide (show crcBits (j + 1) z = ((y * 2) &&& 65535) ^^^ 4129 by rw [crcBits, HB.out, crcBit_hi hhi])
            have d1 : decide ((65535 : Int) < (y : Int) * 2) = true := by simp; omega
            have a1 : bits .and .i64 ((y : Int) * 2) 65535 = (((y * 2) &&& 65535 : Nat) : Int) := i64_and_n (y * 2) 65535 (by omega) (by omega)
            have a2 := i64_xor_n ((y * 2) &&& 65535) 4129 (by have : (y * 2) &&& 65535 < 2 ^ 16 := Nat.and_lt_two_pow _ (by decide); omega) (by omega)
            have a3 : ((y * 2) &&& 65535) ^^^ 4129 < 65536 := by have := crcBit_lt hy6; rwa [crcBit_hi hhi] at this
            have HA := hide (And.intro a1 (And.intro a2 a3))
            clear a1 a2 a3 hhi
            go_wp2
            go_round
            case rel => exact ⟨j + 1, _, by omega, by go_num, by rw [HA.out.1]; exact congrArg (Value.int .i64) HA.out.2.1, HA.out.2.2, HS.out⟩
            case measure => simp [intOf]; omega
          · have HS := hide (show crcBits (j + 1) z = y * 2 by rw [crcBits, HB.out, crcBit_lo hhi])
            have d1 : decide ((65535 : Int) < (y : Int) * 2) = false := by simp; omega
            go_wp2
            go_round
            case rel => exact ⟨j + 1, y * 2, by omega, by go_num, by go_num, by omega, HS.out⟩
            case measure => simp [intOf]; omega
        · have hj8 : j = 8 := by omega
          subst hj8
          have HK : Hid (crcN ((bs s).take (k + 1)) n = y) := by unfold Hid; rw [HN.out, HC.out, ← HB.out, ← HZ.out]; rfl
          go_wp2
          go_round
          case rel => exact ⟨k + 1, y, by omega, by go_num, rfl, hy6, HK⟩
          case measure => simp [intOf]; omega
    · have hkn : k = s.size := by omega
      have HN : Hid (crcN (bs s) n = x) := by
        have := HC.out
        rwa [List.take_of_length_le (by rw [bs_len]; omega)] at this
      go_wp2
      go_ret
      exact ⟨ret_int (by rw [HN.out]), rfl⟩

set_option maxHeartbeats 4000000 in
theorem crc16_calls (s : ByteArray) (n : Nat) (w : World) (hs : s.size ≤ 1048576) (hn : n < 65536) :
    Calls Tryz.prog 172 #[.string s, .int .i64 (n : Int)] w fun e w' => e = .returned (.int .i64 (crcN (bs s) n : Nat)) ∧ Below w.heap.size w w' := by
  have hcv := fun wx : World => Lib.run_convert_string_bytes (P := Tryz.prog) wx 9 22 5 s Tryz.underlying9 Tryz.underlying22 Tryz.underlying5
  have hB := hide (below_bytesWorld w 5 s)
  have hU := hide (rdU_bytesWorld w 5 s)
  have HW : Hid (withinB (n : Int) 0 65535 = true) := withinB_iff.2 (by omega)
  go_enter Tryz.func172, Tryz.ntmps172
  go_wp2_with fail
  refine (within_calls _ _ _ _).mono ?_
  rw [HW.out]
  rintro e w1 ⟨rfl, rfl⟩
  go_wp2
  generalize Lib.bytesWorld w 5 s = wb at *
  go_loop [5, 15] (fun q i => ∃ (k x : Nat), k ≤ s.size ∧ i = .int .i64 k ∧ q = .int .i64 x ∧ x < 65536 ∧ Hid (crcN ((bs s).take k) n = x)) (fun _ i => s.size - (intOf i).toNat)
  case atStart => exact ⟨0, n, Nat.zero_le _, rfl, rfl, hn, rfl⟩
  case round =>
    obtain ⟨k, x, hk, rfl, rfl, hx6, HC⟩ := hrel
    by_cases hlt : k < s.size
    · obtain ⟨c, _, hx⟩ := bs_at s hlt
      have hcell := hU.out k c hx.out
      have hc := c.toNat_lt
      have HN := hide (crc_snoc (n := n) hx.out)
      have h256 : bits .xor .i64 (x : Int) ((c.toNat : Int) * 256) = ((x ^^^ (c.toNat * 256) : Nat) : Int) := i64_xor_n x (c.toNat * 256) (by omega) (by omega)
      have hz6 := crcStart_lt c hx6
      generalize hzz : x ^^^ (c.toNat * 256) = z at *
      have HZ := hide hzz
      clear hzz
      go_wp2
      go_loop [5, 24] (fun q i => ∃ (j y : Nat), j ≤ 8 ∧ i = .int .i64 j ∧ q = .int .i64 y ∧ y < 65536 ∧ Hid (crcBits j z = y)) (fun _ i => 8 - (intOf i).toNat)
      case atStart => exact ⟨0, z, Nat.zero_le _, rfl, rfl, hz6, rfl⟩
      case round =>
        clear h256
        obtain ⟨j, y, hj, rfl, rfl, hy6, HB⟩ := hrel
        by_cases hj8 : j < 8
        · by_cases hhi : 65535 < y * 2
          · have HS := hide (show crcBits (j + 1) z = ((y * 2) &&& 65535) ^^^ 4129 by rw [crcBits, HB.out, crcBit_hi hhi])
            have d1 : decide ((65535 : Int) < (y : Int) * 2) = true := by simp; omega
            have a1 : bits .and .i64 ((y : Int) * 2) 65535 = (((y * 2) &&& 65535 : Nat) : Int) := i64_and_n (y * 2) 65535 (by omega) (by omega)
            have a2 := i64_xor_n ((y * 2) &&& 65535) 4129 (by have : (y * 2) &&& 65535 < 2 ^ 16 := Nat.and_lt_two_pow _ (by decide); omega) (by omega)
            have a3 : ((y * 2) &&& 65535) ^^^ 4129 < 65536 := by have := crcBit_lt hy6; rwa [crcBit_hi hhi] at this
            have HA := hide (And.intro a1 (And.intro a2 a3))
            clear a1 a2 a3 hhi
            go_wp2
            go_round
            case rel => exact ⟨j + 1, _, by omega, by go_num, by rw [HA.out.1]; exact congrArg (Value.int .i64) HA.out.2.1, HA.out.2.2, HS.out⟩
            case measure => simp [intOf]; omega
          · have HS := hide (show crcBits (j + 1) z = y * 2 by rw [crcBits, HB.out, crcBit_lo hhi])
            have d1 : decide ((65535 : Int) < (y : Int) * 2) = false := by simp; omega
            go_wp2
            go_round
            case rel => exact ⟨j + 1, y * 2, by omega, by go_num, by go_num, by omega, HS.out⟩
            case measure => simp [intOf]; omega
        · have hj8 : j = 8 := by omega
          subst hj8
          have HK : Hid (crcN ((bs s).take (k + 1)) n = y) := by unfold Hid; rw [HN.out, HC.out, ← HB.out, ← HZ.out]; rfl
          go_wp2
          go_round
          case rel => exact ⟨k + 1, y, by omega, by go_num, rfl, hy6, HK⟩
          case measure => simp [intOf]; omega
    · have hkn : k = s.size := by omega
      have HN : Hid (crcN (bs s) n = x) := by
        have := HC.out
        rwa [List.take_of_length_le (by rw [bs_len]; omega)] at this
      go_wp2
      go_ret
      exact ⟨ret_int (by rw [HN.out]), hB.out⟩

end Go.Proofs.YtcclfmapbgdpdaaGreatDoor
