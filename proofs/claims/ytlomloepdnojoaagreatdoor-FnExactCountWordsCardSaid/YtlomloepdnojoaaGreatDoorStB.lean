/- Slices of strings: appending, and the laws' helpers on them. -/
import Derived.Test.YtlomloepdnojoaaGreatDoorRows
import Derived.Test.YtlomloepdnojoaaGreatDoorKind
import Derived.Test.YtlomloepdnojoaaGreatDoorBase
import Derived.Test.YtlomloepdnojoaaGreatDoorMarkT
import Derived.Deep.RegionHeld3
namespace Go.Proofs.YtlomloepdnojoaaGreatDoor
open Go.RowKit
set_option linter.unusedVariables false

theorem Tryz.infoB : (Tryz.prog.info? 9).map (fun i => (i.zero, i.size, i.bytes)) = some (some (.string ⟨#[]⟩), 1, 16) := by kernel_rfl
theorem appB {w : World} {ops : Array Oper} {rest : List Oper} {o : Oper} {a : Act} {Q : Exit → Act → World → Prop} (hgd : o.guard = none) (s x : Operand)
    (ho : o.op = .call { callee := .builtin .append, args := #[s, x], argTypes := #[24, 24] })
    (base : Nat) (v : Value) (n : Nat) (xs : List ByteArray) (u : ByteArray) (hs : a.eval s = v) (hown : w.ownsRow base 9 1 v n (cK kB xs)) (hx : a.eval x = .slice (some ⟨w.heap.size, 0, none⟩) 1 1)
    (hn : n ≤ 1099511627776) (hbase : base ≤ w.heap.size)
    (h : ∀ v' w', w'.ownsRow base 9 1 v' (n + 1) (cK kB (xs ++ [u])) → Below base w w' → w.heap.size ≤ w'.heap.size → wpList Tryz.prog ops Q rest (a.put o.dst v') w') : wpList Tryz.prog ops Q (o :: rest) a (w.alloc (.cells #[.string u] 9)) :=
  appK_gen kB hgd s x 24 ho base 9 (.string ⟨#[]⟩) 16 Tryz.underlying24 Tryz.infoB rfl (by decide) (by omega) v n xs u hs hown hx hn hbase h
theorem appsB {w : World} {ops : Array Oper} {rest : List Oper} {o : Oper} {a : Act} {Q : Exit → Act → World → Prop} (hgd : o.guard = none) (s x : Operand)
    (ho : o.op = .call { callee := .builtin .append, args := #[s, x], argTypes := #[24, 24] })
    (base : Nat) (v : Value) (n : Nat) (xs : List ByteArray) (hs : a.eval s = v) (hown : w.ownsRow base 9 1 v n (cK kB xs))
    (Ax : Option Addr) (m cx : Nat) (ys : List ByteArray) (hx : a.eval x = .slice Ax m cx) (hy : Rd w Ax m 1 (cK kB ys)) (hn : n + m ≤ 1099511627776) (hbase : base ≤ w.heap.size)
    (h : ∀ v' w', w'.ownsRow base 9 1 v' (n + m) (cK kB (xs ++ ys)) → Below base w w' → w.heap.size ≤ w'.heap.size → wpList Tryz.prog ops Q rest (a.put o.dst v') w') : wpList Tryz.prog ops Q (o :: rest) a w :=
  appKs_gen kB hgd s x 24 ho base 9 (.string ⟨#[]⟩) 16 Tryz.underlying24 Tryz.infoB rfl (by decide) (by omega) v n xs hs hown Ax m cx ys hx hy hn hbase h



set_option maxHeartbeats 1000000 in
theorem eqStringS_calls (A A' : Option Addr) (n n' c c' : Nat) (xs ys : List ByteArray) (w : World) (h : RdK kB w A n xs) (h' : RdK kB w A' n' ys) (hn : n ≤ 1048576) (hn' : n' ≤ 1048576) :
    Calls Tryz.prog 9 #[.slice A n c, .slice A' n' c'] w fun e w' => e = .returned (.bool (decide (xs = ys))) ∧ Below w.heap.size w w' := by
  have HL := hide h.2.1
  have HL' := hide h'.2.1
  by_cases hnn : n = n'
  · subst hnn
    go_enter Tryz.func9, Tryz.ntmps9
    go_wp2
    go_loopw [5] (fun i wr => ∃ (k : Nat), k ≤ n ∧ i = .int .i64 k ∧ Hid (xs.take k = ys.take k) ∧ ∃ m, wr = w.drewN m) (fun i _ => n - (intOf i).toNat)
    case atStart => exact ⟨0, Nat.zero_le _, rfl, by simp [Hid], 0, rfl⟩
    case round =>
      obtain ⟨k, hk, rfl, HC, m, rfl⟩ := hrel
      by_cases hlt : k < n
      · obtain ⟨b, off, s, rfl, hbl, hx, hc, hs1⟩ := RdK.atB h hlt
        obtain ⟨b', off', t, rfl, hbl', hy, hd, hs1'⟩ := RdK.atB h' hlt
        by_cases c1 : s = t
        · subst c1
          have HN : Hid (xs.take (k + 1) = ys.take (k + 1)) := by unfold Hid; rw [take_snoc hx.out, take_snoc hy.out, HC.out]
          go_wp2
          go_quiet (fail)
          go_wp2
          go_roundw
          case rel => exact ⟨k + 1, by omega, by go_num, HN, (by first | exact ⟨_, rfl⟩ | exact drewN2 _ _ _)⟩
          case measure => simp [intOf]; omega
        · obtain ⟨e1, e1'⟩ := str_ne c1
          have HN := hide (decide_eq_false (ne_of_at hx.out hy.out c1))
          clear c1
          go_wp2
          go_quiet (fail)
          go_wp2
          go_ret
          exact ⟨ret_bool HN.out.symm, below_of_draws (by first | exact ⟨_, rfl⟩ | exact drewN2 _ _ _)⟩
      · have hkn : k = n := by omega
        subst hkn
        go_wp2
        go_ret
        exact ⟨ret_bool (decide_eq_true (eq_of_takes HL.out HL'.out HC.out)).symm, below_drewN (Below.refl _ _) _⟩
  · have hne : ((n : Int) != n') = true := by simp; omega
    go_enter Tryz.func9, Tryz.ntmps9
    go_wp2
    go_ret
    exact ⟨ret_bool (decide_eq_false (ne_of_len HL.out HL'.out hnn)).symm, Below.refl _ _⟩

def markBL (k : Nat) : Nat → List ByteArray
  | 0 => []
  | n + 1 => markBL k n ++ [mT (k + n)]
theorem markBL_len (k n : Nat) : (markBL k n).length = n := by
  induction n with
  | zero => rfl
  | succ n ih => simp [markBL, ih]
theorem markBL_at (k : Nat) {n i : Nat} (h : i < n) : (markBL k n)[i]? = some (mT (k + i)) := by
  induction n with
  | zero => omega
  | succ n ih =>
    rw [markBL, List.getElem?_append, markBL_len]
    split
    · exact ih (by omega)
    · have : i = n := by omega
      subst this
      simp
theorem markBL_fine {k n : Nat} (hk : k + n ≤ 4611686018427387904) : ∀ x ∈ markBL k n, kB.fine x := by
  intro x hx
  obtain ⟨i, hi⟩ := List.mem_iff_getElem?.1 hx
  have hl := (List.getElem?_eq_some_iff.1 hi).1
  rw [markBL_len] at hl
  rw [markBL_at k hl] at hi
  obtain rfl := Option.some.inj hi
  exact Nat.le_trans (mT_size _) (by omega)

set_option maxHeartbeats 2000000 in
theorem markStringS_calls (A : Option Addr) (n c : Nat) (lo hi : Nat) (xs : List ByteArray) (k : Int) (w : World) (h : FrK kB w lo hi 9 A n xs) (hn : n ≤ 1048576) (hk : 1 ≤ k) (hk2 : k ≤ 1152921504606846976) (hhi : hi ≤ w.heap.size) :
    Calls Tryz.prog 13 #[.slice A n c, .int .i64 k] w fun e w' => e = .returned (.int .i64 (k + n)) ∧ FrK kB w' lo hi 9 A n (markBL k.toNat n) ∧ Wr lo hi w w' ∧ w.heap.size ≤ w'.heap.size := by
  obtain ⟨k, rfl⟩ : ∃ k0 : Nat, k = (k0 : Int) := ⟨k.toNat, by omega⟩
  have ek : (k : Int).toNat = k := Int.toNat_natCast k
  rw [ek]
  clear ek
  have h1 := hide h.1
  clear h
  go_enter Tryz.func13, Tryz.ntmps13
  go_wp2
  go_loopw [1, 5] (fun q i wr => ∃ (j : Nat), j ≤ n ∧ i = .int .i64 j ∧ q = .int .i64 ((k : Int) + (j : Int)) ∧ Hid (∃ cur : List Value, Fr wr lo hi 9 1 A n cur ∧ cur.take j = cK kB (markBL k j) ∧ hi ≤ wr.heap.size) ∧ Wr lo hi w wr) (fun _ i _ => n - (intOf i).toNat)
  case atStart => exact ⟨0, Nat.zero_le _, rfl, by simp, ⟨_, h1.out, by simp [markBL, cK], hhi⟩, Wr.refl _ _ _⟩
  case round =>
    obtain ⟨j, hj, rfl, rfl, HF, hw⟩ := hrel
    by_cases hlt : j < n
    · obtain ⟨cur, F, hcur, hh0⟩ := HF.out
      obtain ⟨b, off, rfl⟩ := F.addr (by omega)
      have HCU := hide (And.intro hcur F.1)
      clear hcur
      go_wp2_with fail
      refine (markText_z (k + j) _ _ (by omega) (by omega) (by omega)).mono ?_
      rintro e w1 ⟨rfl, hb1⟩
      have F := F.below hb1 hh0
      have hz1 := Nat.le_trans hh0 hb1.size
      have W1 := hw.trans (Wr.of_below hb1)
      obtain ⟨v0, p0, q0, hl0, hh1, hst0⟩ := F.put (j := j) (by omega)
      have F := hst0.out (.string (mT (k + j)))
      have hz2 : hi ≤ (w1.setCell ⟨b, off + j, none⟩ (.string (mT (k + j)))).heap.size := by simpa using hz1
      have W2 := W1.trans (Wr.setCell (off := off + j) w1 (.string (mT (k + j))) hl0 hh1)
      have HX := hide (And.intro F (And.intro hz2 W2))
      clear F hz2 W2 W1 hz1 hh0 hl0 hh1
      go_wp2
      go_roundw
      case rel =>
        refine ⟨j + 1, by omega, by go_num, by go_num, ⟨_, HX.out.1, ?_, HX.out.2.1⟩, HX.out.2.2⟩
        rw [take_set_snoc (by rw [HCU.out.2]; omega), HCU.out.1, markBL, cK_snoc]
        rfl
      case measure => simp [intOf]; omega
    · have hjn : j = n := by omega
      subst hjn
      go_wp2
      go_ret
      obtain ⟨cur, hF, hcur, hhi2⟩ := HF.out
      rw [List.take_of_length_le (by rw [hF.1]; omega)] at hcur
      refine ⟨by simp, ⟨hcur ▸ hF, markBL_len _ _, markBL_fine (by omega)⟩, hw, hw.size⟩

set_option maxHeartbeats 2000000 in
theorem heldStringS_calls (A : Option Addr) (n c : Nat) (k : Int) (w : World) (h : RdK kB w A n (markBL k.toNat n)) (hn : n ≤ 1048576) (hk : 1 ≤ k) (hk2 : k ≤ 1152921504606846976) :
    Calls Tryz.prog 15 #[.slice A n c, .int .i64 k] w fun e w' => e = .returned (.int .i64 (k + n)) ∧ Below w.heap.size w w' := by
  obtain ⟨k, rfl⟩ : ∃ k0 : Nat, k = (k0 : Int) := ⟨k.toNat, by omega⟩
  rw [Int.toNat_natCast] at h
  go_enter Tryz.func15, Tryz.ntmps15
  go_wp2
  go_loopw [1, 5] (fun q i wr => ∃ (j : Nat), j ≤ n ∧ i = .int .i64 j ∧ q = .int .i64 ((k : Int) + (j : Int)) ∧ Below w.heap.size w wr) (fun _ i _ => n - (intOf i).toNat)
  case atStart => exact ⟨0, Nat.zero_le _, rfl, by simp, Below.refl _ _⟩
  case round =>
    obtain ⟨j, hj, rfl, rfl, hb⟩ := hrel
    by_cases hlt : j < n
    · obtain ⟨b, off, s, rfl, hbl, hx, hc, hs1⟩ := RdK.atB (RdK.below h hb (Nat.le_refl _)) hlt
      have he := hx.out
      rw [markBL_at k hlt] at he
      obtain rfl := Option.some.inj he
      clear hx he hs1
      go_wp2
      go_region_held3 (fun w' => w'.cell? ⟨b, off + j, none⟩ = some (.string (mT (k + j))))
        (first | exact hc | exact (hx1.cell (p := ⟨b, off + j, none⟩) hbl).trans hc)
        (first | (go_at_call 37; refine (markText_z (k + j) _ _ (by omega) (by omega) (by omega)).mono ?_; rintro e w1 ⟨rfl, hx1⟩))
      have hb := hb.drew.trans (hx1.mono hb.size)
      go_wp2
      go_roundw
      case rel => exact ⟨j + 1, by omega, by go_num, by go_num, hb⟩
      case measure => simp [intOf]; omega
    · have hjn : j = n := by omega
      subst hjn
      go_wp2
      go_ret
      exact ⟨by simp, hb⟩

end Go.Proofs.YtlomloepdnojoaaGreatDoor
