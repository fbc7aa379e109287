/- Slices of strings: appending, and the laws' helpers on them. -/
import Derived.Test.YtidhbpnibgegdaaRows
import Derived.Test.YtidhbpnibgegdaaKind
import Derived.Test.YtidhbpnibgegdaaBase
import Derived.Test.YtidhbpnibgegdaaMarkT
import Derived.Deep.RegionHeld3
namespace Go.Proofs.Ytidhbpnibgegdaa
open Go.RowKit
set_option linter.unusedVariables false

theorem Try.infoB : (Try.prog.info? 9).map (fun i => (i.zero, i.size, i.bytes)) = some (some (.string ⟨#[]⟩), 1, 16) := by kernel_rfl
theorem appB {w : World} {ops : Array Oper} {rest : List Oper} {o : Oper} {a : Act} {Q : Exit → Act → World → Prop} (hgd : o.guard = none) (s x : Operand)
    (ho : o.op = .call { callee := .builtin .append, args := #[s, x], argTypes := #[29, 29] })
    (base : Nat) (v : Value) (n : Nat) (xs : List ByteArray) (u : ByteArray) (hs : a.eval s = v) (hown : w.ownsRow base 9 1 v n (cK kB xs)) (hx : a.eval x = .slice (some ⟨w.heap.size, 0, none⟩) 1 1)
    (hn : n ≤ 1099511627776) (hbase : base ≤ w.heap.size)
    (h : ∀ v' w', w'.ownsRow base 9 1 v' (n + 1) (cK kB (xs ++ [u])) → Below base w w' → w.heap.size ≤ w'.heap.size → wpList Try.prog ops Q rest (a.put o.dst v') w') : wpList Try.prog ops Q (o :: rest) a (w.alloc (.cells #[.string u] 9)) :=
  appK_gen kB hgd s x 29 ho base 9 (.string ⟨#[]⟩) 16 Try.underlying29 Try.infoB rfl (by decide) (by omega) v n xs u hs hown hx hn hbase h
theorem appsB {w : World} {ops : Array Oper} {rest : List Oper} {o : Oper} {a : Act} {Q : Exit → Act → World → Prop} (hgd : o.guard = none) (s x : Operand)
    (ho : o.op = .call { callee := .builtin .append, args := #[s, x], argTypes := #[29, 29] })
    (base : Nat) (v : Value) (n : Nat) (xs : List ByteArray) (hs : a.eval s = v) (hown : w.ownsRow base 9 1 v n (cK kB xs))
    (Ax : Option Addr) (m cx : Nat) (ys : List ByteArray) (hx : a.eval x = .slice Ax m cx) (hy : Rd w Ax m 1 (cK kB ys)) (hn : n + m ≤ 1099511627776) (hbase : base ≤ w.heap.size)
    (h : ∀ v' w', w'.ownsRow base 9 1 v' (n + m) (cK kB (xs ++ ys)) → Below base w w' → w.heap.size ≤ w'.heap.size → wpList Try.prog ops Q rest (a.put o.dst v') w') : wpList Try.prog ops Q (o :: rest) a w :=
  appKs_gen kB hgd s x 29 ho base 9 (.string ⟨#[]⟩) 16 Try.underlying29 Try.infoB rfl (by decide) (by omega) v n xs hs hown Ax m cx ys hx hy hn hbase h

set_option maxHeartbeats 1000000 in
theorem szStringS_calls (A : Option Addr) (n c : Nat) (xs : List ByteArray) (l : Int) (w : World) (h : RdK kB w A n xs) (h0 : 0 ≤ l) (h1 : l ≤ 1048576) (hn : n ≤ 9223372036854775807) :
    Calls Try.prog 92 #[.slice A n c, .int .i64 l] w fun e w' => (∃ r : Int, e = .returned (.int .i64 r) ∧ -1 ≤ r ∧ r ≤ l ∧ (0 ≤ r → (n : Int) ≤ l ∧ ∀ x ∈ xs, (x.size : Int) ≤ l)) ∧ w = w' := by
  have HL := hide h.2.1
  by_cases c1 : l - n < 0
  · go_enter Try.func92, Try.ntmps92
    go_wp2
    go_ret
    exact ⟨⟨-1, rfl, by omega, by omega, by omega⟩, rfl⟩
  · go_enter Try.func92, Try.ntmps92
    go_wp2
    go_loop [1, 5] (fun l' i => ∃ (k : Nat) (q : Int), k ≤ n ∧ i = .int .i64 k ∧ l' = .int .i64 q ∧ 0 ≤ q ∧ q ≤ l ∧ Hid (∀ x ∈ xs.take k, (x.size : Int) ≤ l)) (fun _ i => n - (intOf i).toNat)
    case atStart => exact ⟨0, l - n, by omega, rfl, rfl, by omega, by omega, by simp [Hid]⟩
    case round =>
      obtain ⟨k, q, hk, rfl, rfl, hq1, hq2, hall⟩ := hrel
      by_cases hlt : k < n
      · obtain ⟨b, off, s, rfl, hbl, hx, hc, hs1⟩ := RdK.atB h hlt
        by_cases hneg : q - s.size < 0
        · go_wp2
          go_ret
          exact ⟨⟨-1, rfl, by omega, by omega, by omega⟩, rfl⟩
        · have HA : Hid (∀ x ∈ xs.take (k + 1), (x.size : Int) ≤ l) := by
            unfold Hid
            rw [take_snoc hx.out]
            intro y hy
            rcases List.mem_append.1 hy with hy | hy
            · exact hall.out y hy
            · simp only [List.mem_singleton] at hy
              subst hy
              omega
          go_wp2
          go_round
          case rel => exact ⟨k + 1, q - s.size, by omega, by go_num, rfl, by omega, by omega, HA⟩
          case measure => simp [intOf]; omega
      · have hkn : k = n := by omega
        have HK := hide hkn
        clear hkn
        go_wp2
        go_ret
        refine ⟨⟨q, rfl, by omega, by omega, fun _ => ⟨by omega, ?_⟩⟩, rfl⟩
        have := hall.out
        rwa [List.take_of_length_le (by rw [HL.out, HK.out]; omega)] at this

set_option maxHeartbeats 1000000 in
theorem toStringS_calls (A : Option Addr) (n c : Nat) (xs : List ByteArray) (w : World) (h : RdK kB w A n xs) (hn : n ≤ 1048576) :
    Calls Try.prog 94 #[.slice A n c] w fun e w' => ∃ A' c', e = .returned (.slice A' n c') ∧ w'.ownsRow w.heap.size 9 1 (.slice A' n c') n (cK kB xs) ∧ Below w.heap.size w w' := by
  obtain ⟨i0, hi, hz0, hz1, hz2⟩ := info_parts Try.infoB
  have HL := hide h.2.1
  go_enter Try.func94, Try.ntmps94
  go_wp2_with (refine wpList_make_full _ rfl _ _ 29 rfl w.heap.size 9 i0 (.string ⟨#[]⟩) 1 Try.underlying29 hi hz0 hz1 .i64 .i64 _ _ n rfl rfl rfl rfl (by rw [hz2]; omega) (by unfold maxLen; omega) (Nat.le_refl _) ?_; intro w1 hown1 hgr1)
  have hb1 : Below w.heap.size w w1 := (Below.refl _ _).grown hgr1 (Nat.le_refl _) (fun k hk => by cases hk)
  go_loopw [4] (fun i wr => ∃ (k : Nat) (cur : List Value), k ≤ n ∧ i = .int .i64 k ∧ wr.ownsRow w.heap.size 9 1 (.slice (some ⟨w.heap.size, 0, none⟩) n n) n cur ∧ Hid (cur.take k = cK kB (xs.take k)) ∧ Below w.heap.size w wr) (fun i _ => n - (intOf i).toNat)
  case atStart => exact ⟨0, _, Nat.zero_le _, rfl, hown1, by simp [Hid, cK], hb1⟩
  case round =>
    obtain ⟨k, cur, hk, rfl, hown, HC, hb⟩ := hrel
    have HO := hide hown
    clear hown1
    by_cases hlt : k < n
    · obtain ⟨b, off, s, rfl, hbl, hx, hc, hs1⟩ := RdK.atB (RdK.below h hb (Nat.le_refl _)) hlt
      obtain ⟨v0, q0, r0, hst0⟩ := own_store (k := k) hown (by omega)
      clear hown
      go_wp2
      go_roundw
      case rel =>
        refine ⟨k + 1, _, by omega, by go_num, hst0.out (.string s), ?_, (hb.setCell (by simp) _)⟩
        unfold Hid
        rw [take_set_snoc (by rw [HO.out.1]; omega), HC.out, cK_take_snoc hx.out]
        rfl
      case measure => simp [intOf]; omega
    · have hkn : k = n := by omega
      subst hkn
      clear hown
      go_wp2
      go_ret
      refine ⟨_, _, rfl, ?_, hb⟩
      have h1 := HC.out
      rw [List.take_of_length_le (by rw [HO.out.1]; omega), List.take_of_length_le (by rw [HL.out]; omega)] at h1
      rw [← h1]
      exact HO.out

set_option maxHeartbeats 1000000 in
theorem eqStringS_calls (A A' : Option Addr) (n n' c c' : Nat) (xs ys : List ByteArray) (w : World) (h : RdK kB w A n xs) (h' : RdK kB w A' n' ys) (hn : n ≤ 1048576) (hn' : n' ≤ 1048576) :
    Calls Try.prog 21 #[.slice A n c, .slice A' n' c'] w fun e w' => e = .returned (.bool (decide (xs = ys))) ∧ Below w.heap.size w w' := by
  have HL := hide h.2.1
  have HL' := hide h'.2.1
  by_cases hnn : n = n'
  · subst hnn
    go_enter Try.func21, Try.ntmps21
    go_wp2
    go_loopw [5] (fun i wr => ∃ (k : Nat), k ≤ n ∧ i = .int .i64 k ∧ Hid (xs.take k = ys.take k) ∧ ∃ m, wr = w.drewN m) (fun i _ => n - (intOf i).toNat)
    case atStart => exact ⟨0, Nat.zero_le _, rfl, by simp [Hid], 0, rfl⟩
    case round =>
      obtain ⟨k, hk, rfl, HC, m, rfl⟩ := hrel
      by_cases hlt : k < n
      · obtain ⟨b, off, s, rfl, hbl, hx, hc, hs1⟩ := RdK.atB h hlt
        obtain ⟨b', off', t, rfl, hbl', hy, hd, hs1'⟩ := RdK.atB h' hlt
        by_cases c1 : s = t
        · subst c1
          have HN : Hid (xs.take (k + 1) = ys.take (k + 1)) := by unfold Hid; rw [take_snoc hx.out, take_snoc hy.out, HC.out]
          go_wp2
          go_quiet (fail)
          go_wp2
          go_roundw
          case rel => exact ⟨k + 1, by omega, by go_num, HN, (by first | exact ⟨_, rfl⟩ | exact drewN2 _ _ _)⟩
          case measure => simp [intOf]; omega
        · obtain ⟨e1, e1'⟩ := str_ne c1
          have HN := hide (decide_eq_false (ne_of_at hx.out hy.out c1))
          clear c1
          go_wp2
          go_quiet (fail)
          go_wp2
          go_ret
          exact ⟨ret_bool HN.out.symm, below_of_draws (by first | exact ⟨_, rfl⟩ | exact drewN2 _ _ _)⟩
      · have hkn : k = n := by omega
        subst hkn
        go_wp2
        go_ret
        exact ⟨ret_bool (decide_eq_true (eq_of_takes HL.out HL'.out HC.out)).symm, below_drewN (Below.refl _ _) _⟩
  · have hne : ((n : Int) != n') = true := by simp; omega
    go_enter Try.func21, Try.ntmps21
    go_wp2
    go_ret
    exact ⟨ret_bool (decide_eq_false (ne_of_len HL.out HL'.out hnn)).symm, Below.refl _ _⟩

def markBL (k : Nat) : Nat → List ByteArray
  | 0 => []
  | n + 1 => markBL k n ++ [mT (k + n)]
theorem markBL_len (k n : Nat) : (markBL k n).length = n := by
  induction n with
  | zero => rfl
  | succ n ih => simp [markBL, ih]
theorem markBL_at (k : Nat) {n i : Nat} (h : i < n) : (markBL k n)[i]? = some (mT (k + i)) := by
  induction n with
  | zero => omega
  | succ n ih =>
    rw [markBL, List.getElem?_append, markBL_len]
    split
    · exact ih (by omega)
    · have : i = n := by omega
      subst this
      simp
theorem markBL_fine {k n : Nat} (hk : k + n ≤ 4611686018427387904) : ∀ x ∈ markBL k n, kB.fine x := by
  intro x hx
  obtain ⟨i, hi⟩ := List.mem_iff_getElem?.1 hx
  have hl := (List.getElem?_eq_some_iff.1 hi).1
  rw [markBL_len] at hl
  rw [markBL_at k hl] at hi
  obtain rfl := Option.some.inj hi
  exact Nat.le_trans (mT_size _) (by omega)

set_option maxHeartbeats 2000000 in
theorem markStringS_calls (A : Option Addr) (n c : Nat) (lo hi : Nat) (xs : List ByteArray) (k : Int) (w : World) (h : FrK kB w lo hi 9 A n xs) (hn : n ≤ 1048576) (hk : 1 ≤ k) (hk2 : k ≤ 1152921504606846976) (hhi : hi ≤ w.heap.size) :
    Calls Try.prog 23 #[.slice A n c, .int .i64 k] w fun e w' => e = .returned (.int .i64 (k + n)) ∧ FrK kB w' lo hi 9 A n (markBL k.toNat n) ∧ Wr lo hi w w' ∧ w.heap.size ≤ w'.heap.size := by
  obtain ⟨k, rfl⟩ : ∃ k0 : Nat, k = (k0 : Int) := ⟨k.toNat, by omega⟩
  have ek : (k : Int).toNat = k := Int.toNat_natCast k
  rw [ek]
  clear ek
  have h1 := hide h.1
  clear h
  go_enter Try.func23, Try.ntmps23
  go_wp2
  go_loopw [1, 5] (fun q i wr => ∃ (j : Nat), j ≤ n ∧ i = .int .i64 j ∧ q = .int .i64 ((k : Int) + (j : Int)) ∧ Hid (∃ cur : List Value, Fr wr lo hi 9 1 A n cur ∧ cur.take j = cK kB (markBL k j) ∧ hi ≤ wr.heap.size) ∧ Wr lo hi w wr) (fun _ i _ => n - (intOf i).toNat)
  case atStart => exact ⟨0, Nat.zero_le _, rfl, by simp, ⟨_, h1.out, by simp [markBL, cK], hhi⟩, Wr.refl _ _ _⟩
  case round =>
    obtain ⟨j, hj, rfl, rfl, HF, hw⟩ := hrel
    by_cases hlt : j < n
    · obtain ⟨cur, F, hcur, hh0⟩ := HF.out
      obtain ⟨b, off, rfl⟩ := F.addr (by omega)
      have HCU := hide (And.intro hcur F.1)
      clear hcur
      go_wp2_with fail
      refine (markText_z (k + j) _ _ (by omega) (by omega) (by omega)).mono ?_
      rintro e w1 ⟨rfl, hb1⟩
      have F := F.below hb1 hh0
      have hz1 := Nat.le_trans hh0 hb1.size
      have W1 := hw.trans (Wr.of_below hb1)
      obtain ⟨v0, p0, q0, hl0, hh1, hst0⟩ := F.put (j := j) (by omega)
      have F := hst0.out (.string (mT (k + j)))
      have hz2 : hi ≤ (w1.setCell ⟨b, off + j, none⟩ (.string (mT (k + j)))).heap.size := by simpa using hz1
      have W2 := W1.trans (Wr.setCell (off := off + j) w1 (.string (mT (k + j))) hl0 hh1)
      have HX := hide (And.intro F (And.intro hz2 W2))
      clear F hz2 W2 W1 hz1 hh0 hl0 hh1
      go_wp2
      go_roundw
      case rel =>
        refine ⟨j + 1, by omega, by go_num, by go_num, ⟨_, HX.out.1, ?_, HX.out.2.1⟩, HX.out.2.2⟩
        rw [take_set_snoc (by rw [HCU.out.2]; omega), HCU.out.1, markBL, cK_snoc]
        rfl
      case measure => simp [intOf]; omega
    · have hjn : j = n := by omega
      subst hjn
      go_wp2
      go_ret
      obtain ⟨cur, hF, hcur, hhi2⟩ := HF.out
      rw [List.take_of_length_le (by rw [hF.1]; omega)] at hcur
      refine ⟨by simp, ⟨hcur ▸ hF, markBL_len _ _, markBL_fine (by omega)⟩, hw, hw.size⟩

set_option maxHeartbeats 2000000 in
theorem heldStringS_calls (A : Option Addr) (n c : Nat) (k : Int) (w : World) (h : RdK kB w A n (markBL k.toNat n)) (hn : n ≤ 1048576) (hk : 1 ≤ k) (hk2 : k ≤ 1152921504606846976) :
    Calls Try.prog 24 #[.slice A n c, .int .i64 k] w fun e w' => e = .returned (.int .i64 (k + n)) ∧ Below w.heap.size w w' := by
  obtain ⟨k, rfl⟩ : ∃ k0 : Nat, k = (k0 : Int) := ⟨k.toNat, by omega⟩
  rw [Int.toNat_natCast] at h
  go_enter Try.func24, Try.ntmps24
  go_wp2
  go_loopw [1, 5] (fun q i wr => ∃ (j : Nat), j ≤ n ∧ i = .int .i64 j ∧ q = .int .i64 ((k : Int) + (j : Int)) ∧ Below w.heap.size w wr) (fun _ i _ => n - (intOf i).toNat)
  case atStart => exact ⟨0, Nat.zero_le _, rfl, by simp, Below.refl _ _⟩
  case round =>
    obtain ⟨j, hj, rfl, rfl, hb⟩ := hrel
    by_cases hlt : j < n
    · obtain ⟨b, off, s, rfl, hbl, hx, hc, hs1⟩ := RdK.atB (RdK.below h hb (Nat.le_refl _)) hlt
      have he := hx.out
      rw [markBL_at k hlt] at he
      obtain rfl := Option.some.inj he
      clear hx he hs1
      go_wp2
      go_region_held3 (fun w' => w'.cell? ⟨b, off + j, none⟩ = some (.string (mT (k + j))))
        (first | exact hc | exact (hx1.cell (p := ⟨b, off + j, none⟩) hbl).trans hc)
        (first | (go_at_call 67; refine (markText_z (k + j) _ _ (by omega) (by omega) (by omega)).mono ?_; rintro e w1 ⟨rfl, hx1⟩))
      have hb := hb.drew.trans (hx1.mono hb.size)
      go_wp2
      go_roundw
      case rel => exact ⟨j + 1, by omega, by go_num, by go_num, hb⟩
      case measure => simp [intOf]; omega
    · have hjn : j = n := by omega
      subst hjn
      go_wp2
      go_ret
      exact ⟨by simp, hb⟩

end Go.Proofs.Ytidhbpnibgegdaa
