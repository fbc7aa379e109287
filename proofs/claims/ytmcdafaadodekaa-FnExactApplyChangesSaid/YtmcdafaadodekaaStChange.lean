/- The struct Change: what its slices read as, and the laws' helpers on it. Printed by structgen.py. -/
import Derived.Test.YtmcdafaadodekaaRows
import Derived.Test.YtmcdafaadodekaaKind
import Derived.Test.YtmcdafaadodekaaMarkT
import Derived.Test.YtmcdafaadodekaaSet
import Derived.Test.YtmcdafaadodekaaVerTo
import Derived.Deep.RegionHeld3
namespace Go.Proofs.Ytmcdafaadodekaa
open Go.RowKit
set_option linter.unusedVariables false

structure ChangeZ where
  kind : Int
  name : ByteArray
  value : Int
theorem ChangeZ_iff {a b : ChangeZ} : a = b ↔ a.kind = b.kind ∧ a.name = b.name ∧ a.value = b.value := by cases a; cases b; simp
instance : DecidableEq ChangeZ := fun a b => decidable_of_iff _ ChangeZ_iff.symm
def kChange : Kind ChangeZ := ⟨fun x => [.int .i64 x.kind, .string x.name, .int .i64 x.value], 3, fun x => I64 x.kind ∧ x.name.size ≤ 9223372036854775807 ∧ I64 x.value, fun _ => rfl, by
  intro x u hu
  simp only [List.mem_cons, List.not_mem_nil, or_false] at hu
  rcases hu with rfl | rfl | rfl <;> rfl⟩
abbrev RdChange := RdK kChange
abbrev FrChange := FrK kChange

theorem RdK.atChange {w : World} {A : Option Addr} {n : Nat} {xs : List ChangeZ} {k : Nat} (h : RdK kChange w A n xs) (hk : k < n) :
    ∃ b off f0 f1 f2, A = some ⟨b, off, none⟩ ∧ b < w.heap.size ∧ Hid (xs[k]? = some ⟨f0, f1, f2⟩) ∧ w.cell? ⟨b, off + k * 3, none⟩ = some (.int .i64 f0) ∧ w.cell? ⟨b, off + k * 3 + 1, none⟩ = some (.string f1) ∧ w.cell? ⟨b, off + k * 3 + 2, none⟩ = some (.int .i64 f2) ∧ -9223372036854775808 ≤ f0 ∧ f0 ≤ 9223372036854775807 ∧ f1.size ≤ 9223372036854775807 ∧ -9223372036854775808 ≤ f2 ∧ f2 ≤ 9223372036854775807 := by
  obtain ⟨b, off, x, hA, hb, hx, hf, hc⟩ := h.atK hk
  exact ⟨b, off, _, _, _, hA, hb, hx, hc 0 _ rfl, hc 1 _ rfl, hc 2 _ rfl, hf.1.1, hf.1.2, hf.2.1, hf.2.2.1, hf.2.2.2⟩

theorem Try.infoChange : (Try.prog.info? 92).map (fun i => (i.zero, i.size, i.bytes)) = some (some (.agg #[.int .i64 0, .string ⟨#[]⟩, .int .i64 0]), 3, 32) := by kernel_rfl

theorem appChange {w : World} {ops : Array Oper} {rest : List Oper} {o : Oper} {a : Act} {Q : Exit → Act → World → Prop} (hgd : o.guard = none) (s x : Operand)
    (ho : o.op = .call { callee := .builtin .append, args := #[s, x], argTypes := #[37, 37] })
    (base : Nat) (v : Value) (n : Nat) (xs : List ChangeZ) (u : ChangeZ) (hs : a.eval s = v) (hown : w.ownsRow base 92 3 v n (cK kChange xs)) (hx : a.eval x = .slice (some ⟨w.heap.size, 0, none⟩) 1 1)
    (hn : n ≤ 1099511627776) (hbase : base ≤ w.heap.size)
    (h : ∀ v' w', w'.ownsRow base 92 3 v' (n + 1) (cK kChange (xs ++ [u])) → Below base w w' → w.heap.size ≤ w'.heap.size → wpList Try.prog ops Q rest (a.put o.dst v') w') : wpList Try.prog ops Q (o :: rest) a (w.alloc (.cells #[.int .i64 u.kind, .string u.name, .int .i64 u.value] 92)) :=
  appK_gen kChange hgd s x 37 ho base 92 (.agg #[.int .i64 0, .string ⟨#[]⟩, .int .i64 0]) 32 Try.underlying37 Try.infoChange rfl (by decide) (by omega) v n xs u hs hown hx hn hbase h

theorem appsChange {w : World} {ops : Array Oper} {rest : List Oper} {o : Oper} {a : Act} {Q : Exit → Act → World → Prop} (hgd : o.guard = none) (s x : Operand)
    (ho : o.op = .call { callee := .builtin .append, args := #[s, x], argTypes := #[37, 37] })
    (base : Nat) (v : Value) (n : Nat) (xs : List ChangeZ) (hs : a.eval s = v) (hown : w.ownsRow base 92 3 v n (cK kChange xs))
    (Ax : Option Addr) (m cx : Nat) (ys : List ChangeZ) (hx : a.eval x = .slice Ax m cx) (hy : Rd w Ax m 3 (cK kChange ys)) (hn : n + m ≤ 1099511627776) (hbase : base ≤ w.heap.size)
    (h : ∀ v' w', w'.ownsRow base 92 3 v' (n + m) (cK kChange (xs ++ ys)) → Below base w w' → w.heap.size ≤ w'.heap.size → wpList Try.prog ops Q rest (a.put o.dst v') w') : wpList Try.prog ops Q (o :: rest) a w :=
  appKs_gen kChange hgd s x 37 ho base 92 (.agg #[.int .i64 0, .string ⟨#[]⟩, .int .i64 0]) 32 Try.underlying37 Try.infoChange rfl (by decide) (by omega) v n xs hs hown Ax m cx ys hx hy hn hbase h

/-- Are two alike? -/
def eqChangeB (x y : ChangeZ) : Bool := decide (x = y)
theorem eqChangeB_iff {x y : ChangeZ} : eqChangeB x y = true ↔ x = y := by simp [eqChangeB]
theorem eqChangeB_not {x y : ChangeZ} : eqChangeB x y = false ↔ x ≠ y := by simp [eqChangeB]

set_option maxHeartbeats 400000 in
theorem szChange_calls (a1 : ByteArray) (a0 a2 : Int) (l : Int) (w : World) (h0 : 0 ≤ l) (h1 : l ≤ 1048576) (hs1 : a1.size ≤ 9223372036854775807) :
    Calls Try.prog 92 #[.agg #[.int .i64 a0, .string a1, .int .i64 a2], .int .i64 l] w (SzPost l ((a1.size : Int) ≤ l) w) := by
  have B := hide ((Below.refl w.heap.size w).alloc (Nat.le_refl _) (.cells #[.int .i64 a0, .string a1, .int .i64 a2] 106))
  go_enter Try.func92, Try.ntmps92
  go_wp2_with fail
  refine (szSetting_calls _ _ _ _ h0 h1 hs1).mono ?_
  rintro e w1 ⟨r, rfl, hr1, hr2, hr3, hb1⟩
  have HR := hide hr3
  clear hr3
  by_cases hneg : r < 0
  · go_wp2
    go_ret
    exact ⟨-1, rfl, by omega, by omega, by omega, B.out.trans (hb1.mono B.out.size)⟩
  · go_wp2
    go_ret
    exact ⟨_, rfl, by omega, by omega, HR.out, B.out.trans (hb1.mono B.out.size)⟩

set_option maxHeartbeats 1000000 in
theorem toChange_calls (a0 : Int) (a1 : ByteArray) (a2 : Int) (w : World) :
    Calls Try.prog 95 #[.agg #[.int .i64 a0, .string a1, .int .i64 a2]] w fun e w' => e = .returned (.agg #[.int .i64 a0, .string a1, .int .i64 a2]) ∧ Below w.heap.size w w' := by
  go_enter Try.func95, Try.ntmps95
  go_wp2_with fail
  obtain ⟨w3, hw3⟩ : ∃ w3, w3 = (((w.alloc (.cells #[.int .i64 a0, .string a1, .int .i64 a2] 106)).alloc (.cells #[.int .i64 0, .string ⟨#[]⟩, .int .i64 0] 92)).alloc (.cells #[.int .i64 a0, .string ⟨#[]⟩, .int .i64 0] 92)) := ⟨_, rfl⟩
  rw [← hw3]
  have hz : w3.heap.size = w.heap.size + 1 + 1 + 1 := by rw [hw3]; simp
  have hB : Below w.heap.size w w3 := by
    rw [hw3]
    exact (((Below.refl _ _).alloc (Nat.le_refl _) _).alloc (by simp) _).alloc (by simp; omega) _
  have hr1 : w3.heap[w.heap.size + 1]? = some (.cells #[.int .i64 0, .string ⟨#[]⟩, .int .i64 0] 92 (0, 0)) := by rw [hw3]; exact (heap3 _ _ _ _).1
  have hr2 : w3.heap[w.heap.size + 1 + 1]? = some (.cells #[.int .i64 a0, .string ⟨#[]⟩, .int .i64 0] 92 (0, 0)) := by rw [hw3]; exact (heap3 _ _ _ _).2
  clear hw3
  refine (toSetting_calls _ _ _).mono ?_
  rintro e w4 ⟨rfl, hb4⟩
  have hk1 := (hb4.block (w.heap.size + 1) (by omega)).trans hr1
  have hk2 := (hb4.block (w.heap.size + 1 + 1) (by omega)).trans hr2
  have c10 := cell_of_row w4 (w.heap.size + 1) 0 _ _ _ hk1
  have c11 := cell_of_row w4 (w.heap.size + 1) 1 _ _ _ hk1
  have c12 := cell_of_row w4 (w.heap.size + 1) 2 _ _ _ hk1
  have c20 := cell_of_row w4 (w.heap.size + 1 + 1) 0 _ _ _ hk2
  have c21 := cell_of_row w4 (w.heap.size + 1 + 1) 1 _ _ _ hk2
  have c22 := cell_of_row w4 (w.heap.size + 1 + 1) 2 _ _ _ hk2
  have f10 := frozen_of_row w4 (w.heap.size + 1) 0 _ _ hk1
  have f11 := frozen_of_row w4 (w.heap.size + 1) 1 _ _ hk1
  have f12 := frozen_of_row w4 (w.heap.size + 1) 2 _ _ hk1
  have f21 := frozen_of_row w4 (w.heap.size + 1 + 1) 1 _ _ hk2
  have f22 := frozen_of_row w4 (w.heap.size + 1 + 1) 2 _ _ hk2
  simp at c10 c11 c12 c20 c21 c22
  have hbx := hB.trans (hb4.mono hB.size)
  have hz4 := hb4.size
  clear hr1 hr2 hk1 hk2
  go_wp2
  refine bodyPost_ret (v := .agg #[.int .i64 a0, .string a1, .int .i64 a2]) (by simp [results, Try.results95, go_sem, *]) rfl ⟨rfl, ?_⟩
  exact ((((hbx.setCell (by simp; omega) _).setCell (by simp; omega) _).setCell (by simp) _).setCell (by simp) _).setCell (by simp) _

set_option maxHeartbeats 2000000 in
theorem eqChange_calls (a0 : Int) (a1 : ByteArray) (a2 : Int) (b0 : Int) (b1 : ByteArray) (b2 : Int) (w : World) :
    Calls Try.prog 78 #[.agg #[.int .i64 a0, .string a1, .int .i64 a2], .agg #[.int .i64 b0, .string b1, .int .i64 b2]] w fun e w' => e = .returned (.bool (eqChangeB ⟨a0, a1, a2⟩ ⟨b0, b1, b2⟩)) ∧ Below w.heap.size w w' := by
  by_cases c0 : a0 = b0
  case neg =>
    have B := hide (((Below.refl w.heap.size w).alloc (Nat.le_refl _) (.cells #[.int .i64 a0, .string a1, .int .i64 a2] 92)).alloc (by simp) (.cells #[.int .i64 b0, .string b1, .int .i64 b2] 92))
    have e1 : (a0 == b0) = false := by simpa using c0
    have e2 : (a0 != b0) = true := by simpa using c0
    have HF := hide ((eqChangeB_not (x := ⟨a0, a1, a2⟩) (y := ⟨b0, b1, b2⟩)).2 (fun h => c0 (congrArg ChangeZ.kind h)))
    clear c0
    go_enter Try.func78, Try.ntmps78
    go_wp2
    go_ret
    exact ⟨ret_bool HF.out.symm, B.out⟩
  subst c0
  have HQ : Hid (eqSB a1 a2 b1 b2 = eqChangeB ⟨a0, a1, a2⟩ ⟨a0, b1, b2⟩) := by
    unfold Hid
    rw [Bool.eq_iff_iff, eqSB_iff, eqChangeB_iff]
    simp
  rcases b_cases (eqSB a1 a2 b1 b2) with he | he
  all_goals
    go_enter Try.func78, Try.ntmps78
    go_wp2_with fail
    obtain ⟨w2, hw2⟩ : ∃ w2, w2 = ((w.alloc (.cells #[.int .i64 a0, .string a1, .int .i64 a2] 92)).alloc (.cells #[.int .i64 a0, .string b1, .int .i64 b2] 92)) := ⟨_, rfl⟩
    have B := ((Below.refl w.heap.size w).alloc (Nat.le_refl _) (.cells #[.int .i64 a0, .string a1, .int .i64 a2] 92)).alloc (by simp) (.cells #[.int .i64 a0, .string b1, .int .i64 b2] 92)
    have d1 : w2.cell? ⟨w.heap.size, 1, none⟩ = some (.string a1) := by rw [hw2]; simp [go_sem]
    have d2 : w2.cell? ⟨w.heap.size, 2, none⟩ = some (.int .i64 a2) := by rw [hw2]; simp [go_sem]
    have d3 : w2.cell? ⟨w.heap.size + 1, 1, none⟩ = some (.string b1) := by rw [hw2]; simp [go_sem]
    have d4 : w2.cell? ⟨w.heap.size + 1, 2, none⟩ = some (.int .i64 b2) := by rw [hw2]; simp [go_sem]
    have hz : w2.heap.size = w.heap.size + 1 + 1 := by rw [hw2]; simp
    rw [← hw2] at B ⊢
    clear hw2
    refine (eqSetting_calls _ _ _ _ _).mono ?_
    rw [he]
    rintro e w3 ⟨rfl, hb3⟩
    have HE := hide he
    clear he
    go_wp2
    go_ret
    exact ⟨ret_bool (HE.out.symm.trans HQ.out), B.trans (hb3.mono B.size)⟩


theorem take_setChange {l : List Value} {k : Nat} {u0 u1 u2 : Value} (h : k * 3 + 2 < l.length) : ((((l).set (k * 3) u0).set (k * 3 + 1) u1).set (k * 3 + 2) u2).take ((k + 1) * 3) = l.take (k * 3) ++ [u0, u1, u2] := by
  have e : (k + 1) * 3 = k * 3 + 1 + 1 + 1 := by omega
  rw [e, take_set_snoc (by first | omega | (simp; omega)), take_set_snoc (by first | omega | (simp; omega)), take_set_snoc (by first | omega | (simp; omega))]
  simp

set_option maxHeartbeats 1000000 in
theorem szChangeS_calls (A : Option Addr) (n c : Nat) (xs : List ChangeZ) (l : Int) (w : World) (h : RdK kChange w A n xs) (h0 : 0 ≤ l) (h1 : l ≤ 1048576) (hn : n ≤ 9223372036854775807) :
    Calls Try.prog 46 #[.slice A n c, .int .i64 l] w (SzPost l ((n : Int) ≤ l ∧ ∀ x ∈ xs, (x.name.size : Int) ≤ l) w) := by
  have HL := hide h.2.1
  by_cases c1 : l - n < 0
  · go_enter Try.func46, Try.ntmps46
    go_wp2
    go_ret
    exact ⟨-1, rfl, by omega, by omega, by omega, Below.refl _ _⟩
  · go_enter Try.func46, Try.ntmps46
    go_wp2
    go_loopw [1, 5] (fun l' i wr => ∃ (k : Nat) (q : Int), k ≤ n ∧ i = .int .i64 k ∧ l' = .int .i64 q ∧ 0 ≤ q ∧ q ≤ l ∧ Below w.heap.size w wr ∧ Hid (∀ x ∈ xs.take k, (x.name.size : Int) ≤ l)) (fun _ i _ => n - (intOf i).toNat)
    case atStart => exact ⟨0, l - n, by omega, rfl, rfl, by omega, by omega, Below.refl _ _, by simp [Hid]⟩
    case round =>
      obtain ⟨k, q, hk, rfl, rfl, hq1, hq2, hb, hall⟩ := hrel
      by_cases hlt : k < n
      · obtain ⟨b, off, f0, f1, f2, rfl, hblp, hx, hc0, hc1, hc2, pl0, ph0, pz1, pl2, ph2⟩ := RdK.atChange (RdK.below h hb (Nat.le_refl _)) hlt
        go_wp2_with fail
        refine (szChange_calls _ _ _ _ _ hq1 (by omega) pz1).mono ?_
        rintro e w1 ⟨r, rfl, hr1, hr2, hr3, hb1⟩
        by_cases hneg : r < 0
        · clear hr3
          go_wp2
          go_ret
          exact ⟨-1, rfl, by omega, by omega, by omega, hb.trans (hb1.mono hb.size)⟩
        · have HA : Hid (∀ x ∈ xs.take (k + 1), (x.name.size : Int) ≤ l) := by
            unfold Hid
            rw [take_snoc hx.out]
            intro y hy
            rcases List.mem_append.1 hy with hy | hy
            · exact hall.out y hy
            · simp only [List.mem_singleton] at hy
              subst hy
              have := hr3 (by omega)
              simp only
              omega
          clear hr3
          go_wp2
          go_roundw
          case rel => exact ⟨k + 1, r, by omega, by go_num, rfl, by omega, by omega, hb.trans (hb1.mono hb.size), HA⟩
          case measure => simp [intOf]; omega
      · have hkn : k = n := by omega
        have HK := hide hkn
        clear hkn
        go_wp2
        go_ret
        refine ⟨q, rfl, by omega, by omega, fun _ => ⟨by omega, ?_⟩, hb⟩
        have := hall.out
        rwa [List.take_of_length_le (by rw [HL.out, HK.out]; omega)] at this

set_option maxHeartbeats 1000000 in
theorem toChangeS_calls (A : Option Addr) (n c : Nat) (xs : List ChangeZ) (w : World) (h : RdK kChange w A n xs) (hn : n ≤ 1048576) :
    Calls Try.prog 48 #[.slice A n c] w fun e w' => ∃ A' c', e = .returned (.slice A' n c') ∧ w'.ownsRow w.heap.size 92 3 (.slice A' n c') n (cK kChange xs) ∧ Below w.heap.size w w' := by
  obtain ⟨i0, hi, hz0, hz1, hz2⟩ := info_parts Try.infoChange
  have HL := hide h.2.1
  go_enter Try.func48, Try.ntmps48
  go_wp2_with (refine wpList_make_full _ rfl _ _ 37 rfl w.heap.size 92 i0 (.agg #[.int .i64 0, .string ⟨#[]⟩, .int .i64 0]) 3 Try.underlying37 hi hz0 hz1 .i64 .i64 _ _ n rfl rfl rfl rfl (by rw [hz2]; omega) (by unfold maxLen; omega) (Nat.le_refl _) ?_; intro w1 hown1 hgr1)
  have hb1 : Below w.heap.size w w1 := (Below.refl _ _).grown hgr1 (Nat.le_refl _) (fun k hk => by cases hk)
  go_loopw [4] (fun i wr => ∃ (k : Nat) (cur : List Value), k ≤ n ∧ i = .int .i64 k ∧ wr.ownsRow w.heap.size 92 3 (.slice (some ⟨w.heap.size, 0, none⟩) n n) n cur ∧ Hid (cur.take (k * 3) = cK kChange (xs.take k)) ∧ Below w.heap.size w wr) (fun i _ => n - (intOf i).toNat)
  case atStart => exact ⟨0, _, Nat.zero_le _, rfl, hown1, by simp [Hid, cK], hb1⟩
  case round =>
    obtain ⟨k, cur, hk, rfl, hown, HC, hb⟩ := hrel
    have HO := hide hown
    clear hown1
    by_cases hlt : k < n
    · obtain ⟨b, off, f0, f1, f2, rfl, hblp, hx, hc0, hc1, hc2, pl0, ph0, pz1, pl2, ph2⟩ := RdK.atChange (RdK.below h hb (Nat.le_refl _)) hlt
      clear hown
      go_wp2_with fail
      refine (toChange_calls _ _ _ _).mono ?_
      rintro e w2 ⟨rfl, hb2⟩
      have ho2 := own_below HO.out hb2 (Nat.le_refl _)
      obtain ⟨v0, q0, r0, hst0⟩ := own_store (k := k * 3) ho2 (by omega)
      obtain ⟨v1, q1, r1, _⟩ := own_store (k := k * 3 + 1) ho2 (by omega)
      obtain ⟨v2, q2, r2, _⟩ := own_store (k := k * 3 + 2) ho2 (by omega)
      obtain ⟨_, _, _, hst1⟩ := own_store (k := k * 3 + 1) (hst0.out (.int .i64 f0)) (by omega)
      obtain ⟨_, _, _, hst2⟩ := own_store (k := k * 3 + 2) (hst1.out (.string f1)) (by omega)
      clear ho2
      go_wp2
      go_roundw
      case rel =>
        refine ⟨k + 1, _, by omega, by go_num, hst2.out (.int .i64 f2), ?_, (((hb.trans (hb2.mono hb.size)).setCell (by simp) _).setCell (by simp) _).setCell (by simp) _⟩
        unfold Hid
        rw [take_setChange (by rw [HO.out.1]; omega), HC.out, cK_take_snoc hx.out]
        rfl
      case measure => simp [intOf]; omega
    · have hkn : k = n := by omega
      subst hkn
      clear hown
      go_wp2
      go_ret
      refine ⟨_, _, rfl, ?_, hb⟩
      have h1 := HC.out
      rw [List.take_of_length_le (by rw [HO.out.1]; omega), List.take_of_length_le (by rw [HL.out]; omega)] at h1
      rw [← h1]
      exact HO.out

set_option maxHeartbeats 1000000 in
theorem eqChangeS_calls (A A' : Option Addr) (n n' c c' : Nat) (xs ys : List ChangeZ) (w : World) (h : RdK kChange w A n xs) (h' : RdK kChange w A' n' ys) (hn : n ≤ 1048576) (hn' : n' ≤ 1048576) :
    Calls Try.prog 29 #[.slice A n c, .slice A' n' c'] w fun e w' => e = .returned (.bool (decide (xs = ys))) ∧ Below w.heap.size w w' := by
  have HL := hide h.2.1
  have HL' := hide h'.2.1
  by_cases hnn : n = n'
  · subst hnn
    go_enter Try.func29, Try.ntmps29
    go_wp2
    go_loopw [5] (fun i wr => ∃ (k : Nat), k ≤ n ∧ i = .int .i64 k ∧ Hid (xs.take k = ys.take k) ∧ Below w.heap.size w wr) (fun i _ => n - (intOf i).toNat)
    case atStart => exact ⟨0, Nat.zero_le _, rfl, by simp [Hid], Below.refl _ _⟩
    case round =>
      obtain ⟨k, hk, rfl, HC, hb⟩ := hrel
      by_cases hlt : k < n
      · obtain ⟨b, off, f0, f1, f2, rfl, hblp, hx, hc0, hc1, hc2, pl0, ph0, pz1, pl2, ph2⟩ := RdK.atChange (RdK.below h hb (Nat.le_refl _)) hlt
        obtain ⟨b', off', g0, g1, g2, rfl, hblq, hy, hd0, hd1, hd2, ql0, qh0, qz1, ql2, qh2⟩ := RdK.atChange (RdK.below h' hb (Nat.le_refl _)) hlt
        rcases b_cases (eqChangeB ⟨f0, f1, f2⟩ ⟨g0, g1, g2⟩) with he | he
        · have HN := hide (decide_eq_false (ne_of_at hx.out hy.out (eqChangeB_not.1 he)))
          go_wp2
          go_region_held3 (fun w' => w'.cell? ⟨b, off + k * 3, none⟩ = some (.int .i64 f0) ∧ w'.cell? ⟨b, off + k * 3 + 1, none⟩ = some (.string f1) ∧ w'.cell? ⟨b, off + k * 3 + 2, none⟩ = some (.int .i64 f2) ∧ w'.cell? ⟨b', off' + k * 3, none⟩ = some (.int .i64 g0) ∧ w'.cell? ⟨b', off' + k * 3 + 1, none⟩ = some (.string g1) ∧ w'.cell? ⟨b', off' + k * 3 + 2, none⟩ = some (.int .i64 g2))
            (first | exact ⟨hc0, hc1, hc2, hd0, hd1, hd2⟩ | exact ⟨(hb3.cell (p := ⟨b, off + k * 3, none⟩) hblp).trans hc0, (hb3.cell (p := ⟨b, off + k * 3 + 1, none⟩) hblp).trans hc1, (hb3.cell (p := ⟨b, off + k * 3 + 2, none⟩) hblp).trans hc2, (hb3.cell (p := ⟨b', off' + k * 3, none⟩) hblq).trans hd0, (hb3.cell (p := ⟨b', off' + k * 3 + 1, none⟩) hblq).trans hd1, (hb3.cell (p := ⟨b', off' + k * 3 + 2, none⟩) hblq).trans hd2⟩)
            (first | (go_at_call 78; refine (eqChange_calls _ _ _ _ _ _ _).mono ?_; rw [he]; rintro e w3 ⟨rfl, hb3⟩))
          go_wp2
          go_ret
          exact ⟨ret_bool HN.out.symm, hb.drew.trans (hb3.mono hb.size)⟩
        · have HN : Hid (xs.take (k + 1) = ys.take (k + 1)) := by unfold Hid; rw [take_snoc hx.out, take_snoc hy.out, HC.out, eqChangeB_iff.1 he]
          go_wp2
          go_region_held3 (fun w' => w'.cell? ⟨b, off + k * 3, none⟩ = some (.int .i64 f0) ∧ w'.cell? ⟨b, off + k * 3 + 1, none⟩ = some (.string f1) ∧ w'.cell? ⟨b, off + k * 3 + 2, none⟩ = some (.int .i64 f2) ∧ w'.cell? ⟨b', off' + k * 3, none⟩ = some (.int .i64 g0) ∧ w'.cell? ⟨b', off' + k * 3 + 1, none⟩ = some (.string g1) ∧ w'.cell? ⟨b', off' + k * 3 + 2, none⟩ = some (.int .i64 g2))
            (first | exact ⟨hc0, hc1, hc2, hd0, hd1, hd2⟩ | exact ⟨(hb3.cell (p := ⟨b, off + k * 3, none⟩) hblp).trans hc0, (hb3.cell (p := ⟨b, off + k * 3 + 1, none⟩) hblp).trans hc1, (hb3.cell (p := ⟨b, off + k * 3 + 2, none⟩) hblp).trans hc2, (hb3.cell (p := ⟨b', off' + k * 3, none⟩) hblq).trans hd0, (hb3.cell (p := ⟨b', off' + k * 3 + 1, none⟩) hblq).trans hd1, (hb3.cell (p := ⟨b', off' + k * 3 + 2, none⟩) hblq).trans hd2⟩)
            (first | (go_at_call 78; refine (eqChange_calls _ _ _ _ _ _ _).mono ?_; rw [he]; rintro e w3 ⟨rfl, hb3⟩))
          go_wp2
          go_roundw
          case rel => exact ⟨k + 1, by omega, by go_num, HN, hb.drew.trans (hb3.mono hb.size)⟩
          case measure => simp [intOf]; omega
      · have hkn : k = n := by omega
        subst hkn
        go_wp2
        go_ret
        exact ⟨ret_bool (decide_eq_true (eq_of_takes HL.out HL'.out HC.out)).symm, hb⟩
  · have hne : ((n : Int) != n') = true := by simp; omega
    go_enter Try.func29, Try.ntmps29
    go_wp2
    go_ret
    exact ⟨ret_bool (decide_eq_false (ne_of_len HL.out HL'.out hnn)).symm, Below.refl _ _⟩

def markChangeL (k : Nat) : Nat → List ChangeZ
  | 0 => []
  | n + 1 => markChangeL k n ++ [⟨(k : Int) + 3 * (n : Int), mT (k + 3 * n + 1), (k : Int) + 3 * (n : Int) + 2⟩]
theorem markChangeL_len (k n : Nat) : (markChangeL k n).length = n := by
  induction n with
  | zero => rfl
  | succ n ih => simp [markChangeL, ih]
theorem markChangeL_at (k : Nat) {n i : Nat} (h : i < n) : (markChangeL k n)[i]? = some (⟨(k : Int) + 3 * (i : Int), mT (k + 3 * i + 1), (k : Int) + 3 * (i : Int) + 2⟩) := by
  induction n with
  | zero => omega
  | succ n ih =>
    rw [markChangeL, List.getElem?_append, markChangeL_len]
    split
    · exact ih (by omega)
    · have : i = n := by omega
      subst this
      simp
theorem markChangeL_fine {k n : Nat} (hk : k + 3 * n ≤ 4611686018427387904) : ∀ x ∈ markChangeL k n, kChange.fine x := by
  intro x hx
  obtain ⟨i, hi⟩ := List.mem_iff_getElem?.1 hx
  have hl := (List.getElem?_eq_some_iff.1 hi).1
  rw [markChangeL_len] at hl
  rw [markChangeL_at k hl] at hi
  obtain rfl := Option.some.inj hi
  refine ⟨⟨by simp only; omega, by simp only; omega⟩, Nat.le_trans (mT_size _) (by omega), ⟨by simp only; omega, by simp only; omega⟩⟩

set_option maxHeartbeats 2000000 in
theorem markChangeS_calls (A : Option Addr) (n c : Nat) (lo hi : Nat) (xs : List ChangeZ) (k : Int) (w : World) (h : FrK kChange w lo hi 92 A n xs) (hn : n ≤ 1048576) (hk : 1 ≤ k) (hk2 : k ≤ 1152921504606846976) (hhi : hi ≤ w.heap.size) :
    Calls Try.prog 31 #[.slice A n c, .int .i64 k] w fun e w' => e = .returned (.int .i64 (k + 3 * n)) ∧ FrK kChange w' lo hi 92 A n (markChangeL k.toNat n) ∧ Wr lo hi w w' ∧ w.heap.size ≤ w'.heap.size := by
  obtain ⟨k, rfl⟩ : ∃ k0 : Nat, k = (k0 : Int) := ⟨k.toNat, by omega⟩
  have ek : (k : Int).toNat = k := Int.toNat_natCast k
  rw [ek]
  clear ek
  have h1 := hide h.1
  clear h
  go_enter Try.func31, Try.ntmps31
  go_wp2
  go_loopw [1, 5] (fun q i wr => ∃ (j : Nat), j ≤ n ∧ i = .int .i64 j ∧ q = .int .i64 ((k : Int) + 3 * (j : Int)) ∧ Hid (∃ cur : List Value, Fr wr lo hi 92 3 A n cur ∧ cur.take (j * 3) = cK kChange (markChangeL k j) ∧ hi ≤ wr.heap.size) ∧ Wr lo hi w wr) (fun _ i _ => n - (intOf i).toNat)
  case atStart => exact ⟨0, Nat.zero_le _, rfl, by simp, ⟨_, h1.out, by simp [markChangeL, cK], hhi⟩, Wr.refl _ _ _⟩
  case round =>
    obtain ⟨j, hj, rfl, rfl, HF, hw⟩ := hrel
    by_cases hlt : j < n
    · obtain ⟨cur, F, hcur, hh0⟩ := HF.out
      obtain ⟨b, off, rfl⟩ := F.addr (by omega)
      have HCU := hide (And.intro hcur F.1)
      clear hcur
      have hz0 := hh0
      have W0 := hw
      clear hh0
      obtain ⟨v0, p0, q0, hl0, hh0, hst0⟩ := F.put (j := j * 3) (by omega)
      have F := hst0.out (.int .i64 ((k : Int) + 3 * (j : Int)))
      have hz1 : hi ≤ (wr.setCell ⟨b, off + j * 3, none⟩ (.int .i64 ((k : Int) + 3 * (j : Int)))).heap.size := by simpa using hz0
      have W1 := W0.trans (Wr.setCell (off := off + j * 3) wr (.int .i64 ((k : Int) + 3 * (j : Int))) hl0 hh0)
      clear hz0 W0 hl0 hh0
      go_wp2_with fail
      refine (markText_z (k + 3 * j + 1) _ _ (by omega) (by omega) (by omega)).mono ?_
      rintro e w1 ⟨rfl, hb1⟩
      have F := F.below hb1 hz1
      have hz2 := Nat.le_trans hz1 hb1.size
      have W2 := W1.trans (Wr.of_below hb1)
      clear hz1 W1
      obtain ⟨v1, p1, q1, hl1, hh1, hst1⟩ := F.put (j := j * 3 + 1) (by omega)
      have ea1 : off + (j * 3 + 1) = off + j * 3 + 1 := by omega
      rw [ea1] at p1 q1 hst1
      clear ea1
      have F := hst1.out (.string (mT (k + 3 * j + 1)))
      have hz3 : hi ≤ (w1.setCell ⟨b, off + j * 3 + 1, none⟩ (.string (mT (k + 3 * j + 1)))).heap.size := by simpa using hz2
      have W3 := W2.trans (Wr.setCell (off := off + j * 3 + 1) w1 (.string (mT (k + 3 * j + 1))) hl1 hh1)
      clear hz2 W2 hl1 hh1
      obtain ⟨v2, p2, q2, hl2, hh2, hst2⟩ := F.put (j := j * 3 + 2) (by omega)
      have ea2 : off + (j * 3 + 2) = off + j * 3 + 2 := by omega
      rw [ea2] at p2 q2 hst2
      clear ea2
      have F := hst2.out (.int .i64 ((k : Int) + 3 * (j : Int) + 2))
      have hz4 : hi ≤ ((w1.setCell ⟨b, off + j * 3 + 1, none⟩ (.string (mT (k + 3 * j + 1)))).setCell ⟨b, off + j * 3 + 2, none⟩ (.int .i64 ((k : Int) + 3 * (j : Int) + 2))).heap.size := by simpa using hz3
      have W4 := W3.trans (Wr.setCell (off := off + j * 3 + 2) (w1.setCell ⟨b, off + j * 3 + 1, none⟩ (.string (mT (k + 3 * j + 1)))) (.int .i64 ((k : Int) + 3 * (j : Int) + 2)) hl2 hh2)
      clear hz3 W3 hl2 hh2
      have HX := hide (And.intro F (And.intro hz4 W4))
      clear F hz4 W4
      go_wp2
      go_roundw
      case rel =>
        refine ⟨j + 1, by omega, by go_num, by go_num, ⟨_, HX.out.1, ?_, HX.out.2.1⟩, HX.out.2.2⟩
        rw [take_setChange (by rw [HCU.out.2]; omega), HCU.out.1, markChangeL, cK_snoc]
        simp [kChange]
        try omega
      case measure => simp [intOf]; omega
    · have hjn : j = n := by omega
      subst hjn
      go_wp2
      go_ret
      obtain ⟨cur, hF, hcur, hhi2⟩ := HF.out
      rw [List.take_of_length_le (by rw [hF.1]; omega)] at hcur
      refine ⟨by simp, ⟨hcur ▸ hF, markChangeL_len _ _, markChangeL_fine (by omega)⟩, hw, hw.size⟩

set_option maxHeartbeats 2000000 in
theorem heldChangeS_calls (A : Option Addr) (n c : Nat) (k : Int) (w : World) (h : RdK kChange w A n (markChangeL k.toNat n)) (hn : n ≤ 1048576) (hk : 1 ≤ k) (hk2 : k ≤ 1152921504606846976) :
    Calls Try.prog 32 #[.slice A n c, .int .i64 k] w fun e w' => e = .returned (.int .i64 (k + 3 * n)) ∧ Below w.heap.size w w' := by
  obtain ⟨k, rfl⟩ : ∃ k0 : Nat, k = (k0 : Int) := ⟨k.toNat, by omega⟩
  rw [Int.toNat_natCast] at h
  go_enter Try.func32, Try.ntmps32
  go_wp2
  go_loopw [1, 5] (fun q i wr => ∃ (j : Nat), j ≤ n ∧ i = .int .i64 j ∧ q = .int .i64 ((k : Int) + 3 * (j : Int)) ∧ Below w.heap.size w wr) (fun _ i _ => n - (intOf i).toNat)
  case atStart => exact ⟨0, Nat.zero_le _, rfl, by simp, Below.refl _ _⟩
  case round =>
    obtain ⟨j, hj, rfl, rfl, hb⟩ := hrel
    by_cases hlt : j < n
    · obtain ⟨b, off, f0, f1, f2, rfl, hbl, hx, hc0, hc1, hc2, pl0, ph0, pz1, pl2, ph2⟩ := RdK.atChange (RdK.below h hb (Nat.le_refl _)) hlt
      have he := hx.out
      rw [markChangeL_at k hlt] at he
      simp only [Option.some.injEq, ChangeZ.mk.injEq] at he
      obtain ⟨rfl, rfl, rfl⟩ := he
      clear hx pl0 ph0 pz1 pl2 ph2
      go_wp2
      go_region_held3 (fun w' => w'.cell? ⟨b, off + j * 3 + 1, none⟩ = some (.string (mT (k + 3 * j + 1))) ∧ w'.cell? ⟨b, off + j * 3 + 2, none⟩ = some (.int .i64 ((k : Int) + 3 * (j : Int) + 2)))
        (first | exact ⟨hc1, hc2⟩ | exact ⟨(hx1.cell (p := ⟨b, off + j * 3 + 1, none⟩) hbl).trans hc1, (hx1.cell (p := ⟨b, off + j * 3 + 2, none⟩) hbl).trans hc2⟩)
        (first | (go_at_call 79; refine (markText_z (k + 3 * j + 1) _ _ (by omega) (by omega) (by omega)).mono ?_; rintro e w1 ⟨rfl, hx1⟩))
      have hc1 := (hx1.cell (p := ⟨b, off + j * 3 + 1, none⟩) hbl).trans hc1
      have hc2 := (hx1.cell (p := ⟨b, off + j * 3 + 2, none⟩) hbl).trans hc2
      have hbl := Nat.lt_of_lt_of_le hbl hx1.size
      have hb := hb.drew.trans (hx1.mono hb.size)
      go_wp2
      go_roundw
      case rel => exact ⟨j + 1, by omega, by go_num, by go_num, hb⟩
      case measure => simp [intOf]; omega
    · have hjn : j = n := by omega
      subst hjn
      go_wp2
      go_ret
      exact ⟨by simp, hb⟩

end Go.Proofs.Ytmcdafaadodekaa
