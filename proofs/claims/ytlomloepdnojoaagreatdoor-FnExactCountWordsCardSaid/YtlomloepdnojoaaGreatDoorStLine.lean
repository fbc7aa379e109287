/- The struct Line: what its slices read as, and the laws' helpers on it. Printed by structgen.py. -/
import Derived.Test.YtlomloepdnojoaaGreatDoorRows
import Derived.Test.YtlomloepdnojoaaGreatDoorKind
import Derived.Test.YtlomloepdnojoaaGreatDoorMarkT
import Derived.Deep.RegionHeld3
namespace Go.Proofs.YtlomloepdnojoaaGreatDoor
open Go.RowKit
set_option linter.unusedVariables false

structure LineZ where
  day : Int
  minute : Int
  text : ByteArray
  crc : Int
theorem LineZ_iff {a b : LineZ} : a = b ↔ a.day = b.day ∧ a.minute = b.minute ∧ a.text = b.text ∧ a.crc = b.crc := by cases a; cases b; simp
instance : DecidableEq LineZ := fun a b => decidable_of_iff _ LineZ_iff.symm
def kLine : Kind LineZ := ⟨fun x => [.int .i64 x.day, .int .i64 x.minute, .string x.text, .int .i64 x.crc], 4, fun x => I64 x.day ∧ I64 x.minute ∧ x.text.size ≤ 9223372036854775807 ∧ I64 x.crc, fun _ => rfl, by
  intro x u hu
  simp only [List.mem_cons, List.not_mem_nil, or_false] at hu
  rcases hu with rfl | rfl | rfl | rfl <;> rfl⟩
abbrev RdLine := RdK kLine
abbrev FrLine := FrK kLine

theorem RdK.atLine {w : World} {A : Option Addr} {n : Nat} {xs : List LineZ} {k : Nat} (h : RdK kLine w A n xs) (hk : k < n) :
    ∃ b off f0 f1 f2 f3, A = some ⟨b, off, none⟩ ∧ b < w.heap.size ∧ Hid (xs[k]? = some ⟨f0, f1, f2, f3⟩) ∧ w.cell? ⟨b, off + k * 4, none⟩ = some (.int .i64 f0) ∧ w.cell? ⟨b, off + k * 4 + 1, none⟩ = some (.int .i64 f1) ∧ w.cell? ⟨b, off + k * 4 + 2, none⟩ = some (.string f2) ∧ w.cell? ⟨b, off + k * 4 + 3, none⟩ = some (.int .i64 f3) ∧ -9223372036854775808 ≤ f0 ∧ f0 ≤ 9223372036854775807 ∧ -9223372036854775808 ≤ f1 ∧ f1 ≤ 9223372036854775807 ∧ f2.size ≤ 9223372036854775807 ∧ -9223372036854775808 ≤ f3 ∧ f3 ≤ 9223372036854775807 := by
  obtain ⟨b, off, x, hA, hb, hx, hf, hc⟩ := h.atK hk
  exact ⟨b, off, _, _, _, _, hA, hb, hx, hc 0 _ rfl, hc 1 _ rfl, hc 2 _ rfl, hc 3 _ rfl, hf.1.1, hf.1.2, hf.2.1.1, hf.2.1.2, hf.2.2.1, hf.2.2.2.1, hf.2.2.2.2⟩

theorem Tryz.infoLine : (Tryz.prog.info? 57).map (fun i => (i.zero, i.size, i.bytes)) = some (some (.agg #[.int .i64 0, .int .i64 0, .string ⟨#[]⟩, .int .i64 0]), 4, 40) := by kernel_rfl

theorem appLine {w : World} {ops : Array Oper} {rest : List Oper} {o : Oper} {a : Act} {Q : Exit → Act → World → Prop} (hgd : o.guard = none) (s x : Operand)
    (ho : o.op = .call { callee := .builtin .append, args := #[s, x], argTypes := #[28, 28] })
    (base : Nat) (v : Value) (n : Nat) (xs : List LineZ) (u : LineZ) (hs : a.eval s = v) (hown : w.ownsRow base 57 4 v n (cK kLine xs)) (hx : a.eval x = .slice (some ⟨w.heap.size, 0, none⟩) 1 1)
    (hn : n ≤ 1099511627776) (hbase : base ≤ w.heap.size)
    (h : ∀ v' w', w'.ownsRow base 57 4 v' (n + 1) (cK kLine (xs ++ [u])) → Below base w w' → w.heap.size ≤ w'.heap.size → wpList Tryz.prog ops Q rest (a.put o.dst v') w') : wpList Tryz.prog ops Q (o :: rest) a (w.alloc (.cells #[.int .i64 u.day, .int .i64 u.minute, .string u.text, .int .i64 u.crc] 57)) :=
  appK_gen kLine hgd s x 28 ho base 57 (.agg #[.int .i64 0, .int .i64 0, .string ⟨#[]⟩, .int .i64 0]) 40 Tryz.underlying28 Tryz.infoLine rfl (by decide) (by omega) v n xs u hs hown hx hn hbase h

theorem appsLine {w : World} {ops : Array Oper} {rest : List Oper} {o : Oper} {a : Act} {Q : Exit → Act → World → Prop} (hgd : o.guard = none) (s x : Operand)
    (ho : o.op = .call { callee := .builtin .append, args := #[s, x], argTypes := #[28, 28] })
    (base : Nat) (v : Value) (n : Nat) (xs : List LineZ) (hs : a.eval s = v) (hown : w.ownsRow base 57 4 v n (cK kLine xs))
    (Ax : Option Addr) (m cx : Nat) (ys : List LineZ) (hx : a.eval x = .slice Ax m cx) (hy : Rd w Ax m 4 (cK kLine ys)) (hn : n + m ≤ 1099511627776) (hbase : base ≤ w.heap.size)
    (h : ∀ v' w', w'.ownsRow base 57 4 v' (n + m) (cK kLine (xs ++ ys)) → Below base w w' → w.heap.size ≤ w'.heap.size → wpList Tryz.prog ops Q rest (a.put o.dst v') w') : wpList Tryz.prog ops Q (o :: rest) a w :=
  appKs_gen kLine hgd s x 28 ho base 57 (.agg #[.int .i64 0, .int .i64 0, .string ⟨#[]⟩, .int .i64 0]) 40 Tryz.underlying28 Tryz.infoLine rfl (by decide) (by omega) v n xs hs hown Ax m cx ys hx hy hn hbase h

/-- Are two alike? -/
def eqLineB (x y : LineZ) : Bool := decide (x = y)
theorem eqLineB_iff {x y : LineZ} : eqLineB x y = true ↔ x = y := by simp [eqLineB]
theorem eqLineB_not {x y : LineZ} : eqLineB x y = false ↔ x ≠ y := by simp [eqLineB]

set_option maxHeartbeats 400000 in
theorem szLine_calls (a2 : ByteArray) (a0 a1 a3 : Int) (l : Int) (w : World) (h0 : 0 ≤ l) (h1 : l ≤ 1048576) (hs2 : a2.size ≤ 9223372036854775807) :
    Calls Tryz.prog 29 #[.agg #[.int .i64 a0, .int .i64 a1, .string a2, .int .i64 a3], .int .i64 l] w (SzPost l ((a2.size : Int) ≤ l) w) := by
  by_cases c0 : l - a2.size < 0
  · go_enter Tryz.func29, Tryz.ntmps29
    go_wp2
    go_ret
    exact ⟨-1, rfl, by omega, by omega, by omega, (Below.refl _ _).alloc (Nat.le_refl _) _⟩
  go_enter Tryz.func29, Tryz.ntmps29
  go_wp2
  go_ret
  exact ⟨_, rfl, by omega, by omega, by omega, (Below.refl _ _).alloc (Nat.le_refl _) _⟩

set_option maxHeartbeats 400000 in
theorem toLine_calls (a2 : ByteArray) (a0 a1 a3 : Int) (w : World) :
    Calls Tryz.prog 32 #[.agg #[.int .i64 a0, .int .i64 a1, .string a2, .int .i64 a3]] w fun e w' => e = .returned (.agg #[.int .i64 a0, .int .i64 a1, .string a2, .int .i64 a3]) ∧ Below w.heap.size w w' := by
  go_enter Tryz.func32, Tryz.ntmps32
  go_wp2
  refine bodyPost_ret (v := .agg #[.int .i64 a0, .int .i64 a1, .string a2, .int .i64 a3]) (by simp [results, Tryz.results32, go_sem]) rfl ⟨rfl, ?_⟩
  exact (((Below.refl _ _).alloc (Nat.le_refl _) _).alloc (by simp) _).alloc (by simp; omega) _

set_option maxHeartbeats 1000000 in
theorem eqLine_calls (a2 : ByteArray) (a0 a1 a3 : Int) (b2 : ByteArray) (b0 b1 b3 : Int) (w : World) :
    Calls Tryz.prog 36 #[.agg #[.int .i64 a0, .int .i64 a1, .string a2, .int .i64 a3], .agg #[.int .i64 b0, .int .i64 b1, .string b2, .int .i64 b3]] w fun e w' => e = .returned (.bool (eqLineB ⟨a0, a1, a2, a3⟩ ⟨b0, b1, b2, b3⟩)) ∧ Below w.heap.size w w' := by
  have B := hide (((Below.refl w.heap.size w).alloc (Nat.le_refl _) (.cells #[.int .i64 a0, .int .i64 a1, .string a2, .int .i64 a3] 57)).alloc (by simp) (.cells #[.int .i64 b0, .int .i64 b1, .string b2, .int .i64 b3] 57))
  by_cases c0 : a0 = b0
  case neg =>
    have e1 : (a0 == b0) = false := by simpa using c0
    have e2 : (a0 != b0) = true := by simpa using c0
    have HF := hide ((eqLineB_not (x := ⟨a0, a1, a2, a3⟩) (y := ⟨b0, b1, b2, b3⟩)).2 (fun h => c0 (congrArg LineZ.day h)))
    clear c0
    go_enter Tryz.func36, Tryz.ntmps36
    go_wp2
    go_ret
    exact ⟨ret_bool HF.out.symm, B.out⟩
  subst c0
  by_cases c1 : a1 = b1
  case neg =>
    have e1 : (a1 == b1) = false := by simpa using c1
    have e2 : (a1 != b1) = true := by simpa using c1
    have HF := hide ((eqLineB_not (x := ⟨a0, a1, a2, a3⟩) (y := ⟨a0, b1, b2, b3⟩)).2 (fun h => c1 (congrArg LineZ.minute h)))
    clear c1
    go_enter Tryz.func36, Tryz.ntmps36
    go_wp2
    go_ret
    exact ⟨ret_bool HF.out.symm, B.out⟩
  subst c1
  by_cases c2 : a2 = b2
  case neg =>
    obtain ⟨e1, e2⟩ := str_ne c2
    have HF := hide ((eqLineB_not (x := ⟨a0, a1, a2, a3⟩) (y := ⟨a0, a1, b2, b3⟩)).2 (fun h => c2 (congrArg LineZ.text h)))
    clear c2
    go_enter Tryz.func36, Tryz.ntmps36
    go_wp2
    go_ret
    exact ⟨ret_bool HF.out.symm, B.out⟩
  subst c2
  by_cases c3 : a3 = b3
  case neg =>
    have e1 : (a3 == b3) = false := by simpa using c3
    have e2 : (a3 != b3) = true := by simpa using c3
    have HF := hide ((eqLineB_not (x := ⟨a0, a1, a2, a3⟩) (y := ⟨a0, a1, a2, b3⟩)).2 (fun h => c3 (congrArg LineZ.crc h)))
    clear c3
    go_enter Tryz.func36, Tryz.ntmps36
    go_wp2
    go_ret
    exact ⟨ret_bool HF.out.symm, B.out⟩
  subst c3
  have HF := hide (eqLineB_iff.2 (rfl : (⟨a0, a1, a2, a3⟩ : LineZ) = ⟨a0, a1, a2, a3⟩))
  go_enter Tryz.func36, Tryz.ntmps36
  go_wp2
  go_ret
  exact ⟨ret_bool HF.out.symm, B.out⟩

theorem take_setLine {l : List Value} {k : Nat} {u0 u1 u2 u3 : Value} (h : k * 4 + 3 < l.length) : (((((l).set (k * 4) u0).set (k * 4 + 1) u1).set (k * 4 + 2) u2).set (k * 4 + 3) u3).take ((k + 1) * 4) = l.take (k * 4) ++ [u0, u1, u2, u3] := by
  have e : (k + 1) * 4 = k * 4 + 1 + 1 + 1 + 1 := by omega
  rw [e, take_set_snoc (by first | omega | (simp; omega)), take_set_snoc (by first | omega | (simp; omega)), take_set_snoc (by first | omega | (simp; omega)), take_set_snoc (by first | omega | (simp; omega))]
  simp

set_option maxHeartbeats 1000000 in
theorem szLineS_calls (A : Option Addr) (n c : Nat) (xs : List LineZ) (l : Int) (w : World) (h : RdK kLine w A n xs) (h0 : 0 ≤ l) (h1 : l ≤ 1048576) (hn : n ≤ 9223372036854775807) :
    Calls Tryz.prog 5 #[.slice A n c, .int .i64 l] w (SzPost l ((n : Int) ≤ l ∧ ∀ x ∈ xs, (x.text.size : Int) ≤ l) w) := by
  have HL := hide h.2.1
  by_cases c1 : l - n < 0
  · go_enter Tryz.func5, Tryz.ntmps5
    go_wp2
    go_ret
    exact ⟨-1, rfl, by omega, by omega, by omega, Below.refl _ _⟩
  · go_enter Tryz.func5, Tryz.ntmps5
    go_wp2
    go_loopw [1, 5] (fun l' i wr => ∃ (k : Nat) (q : Int), k ≤ n ∧ i = .int .i64 k ∧ l' = .int .i64 q ∧ 0 ≤ q ∧ q ≤ l ∧ Below w.heap.size w wr ∧ Hid (∀ x ∈ xs.take k, (x.text.size : Int) ≤ l)) (fun _ i _ => n - (intOf i).toNat)
    case atStart => exact ⟨0, l - n, by omega, rfl, rfl, by omega, by omega, Below.refl _ _, by simp [Hid]⟩
    case round =>
      obtain ⟨k, q, hk, rfl, rfl, hq1, hq2, hb, hall⟩ := hrel
      by_cases hlt : k < n
      · obtain ⟨b, off, f0, f1, f2, f3, rfl, hblp, hx, hc0, hc1, hc2, hc3, pl0, ph0, pl1, ph1, pz2, pl3, ph3⟩ := RdK.atLine (RdK.below h hb (Nat.le_refl _)) hlt
        go_wp2_with fail
        refine (szLine_calls _ _ _ _ _ _ hq1 (by omega) pz2).mono ?_
        rintro e w1 ⟨r, rfl, hr1, hr2, hr3, hb1⟩
        by_cases hneg : r < 0
        · clear hr3
          go_wp2
          go_ret
          exact ⟨-1, rfl, by omega, by omega, by omega, hb.trans (hb1.mono hb.size)⟩
        · have HA : Hid (∀ x ∈ xs.take (k + 1), (x.text.size : Int) ≤ l) := by
            unfold Hid
            rw [take_snoc hx.out]
            intro y hy
            rcases List.mem_append.1 hy with hy | hy
            · exact hall.out y hy
            · simp only [List.mem_singleton] at hy
              subst hy
              have := hr3 (by omega)
              simp only
              omega
          clear hr3
          go_wp2
          go_roundw
          case rel => exact ⟨k + 1, r, by omega, by go_num, rfl, by omega, by omega, hb.trans (hb1.mono hb.size), HA⟩
          case measure => simp [intOf]; omega
      · have hkn : k = n := by omega
        have HK := hide hkn
        clear hkn
        go_wp2
        go_ret
        refine ⟨q, rfl, by omega, by omega, fun _ => ⟨by omega, ?_⟩, hb⟩
        have := hall.out
        rwa [List.take_of_length_le (by rw [HL.out, HK.out]; omega)] at this

set_option maxHeartbeats 1000000 in
theorem toLineS_calls (A : Option Addr) (n c : Nat) (xs : List LineZ) (w : World) (h : RdK kLine w A n xs) (hn : n ≤ 1048576) :
    Calls Tryz.prog 7 #[.slice A n c] w fun e w' => ∃ A' c', e = .returned (.slice A' n c') ∧ w'.ownsRow w.heap.size 57 4 (.slice A' n c') n (cK kLine xs) ∧ Below w.heap.size w w' := by
  obtain ⟨i0, hi, hz0, hz1, hz2⟩ := info_parts Tryz.infoLine
  have HL := hide h.2.1
  go_enter Tryz.func7, Tryz.ntmps7
  go_wp2_with (refine wpList_make_full _ rfl _ _ 28 rfl w.heap.size 57 i0 (.agg #[.int .i64 0, .int .i64 0, .string ⟨#[]⟩, .int .i64 0]) 4 Tryz.underlying28 hi hz0 hz1 .i64 .i64 _ _ n rfl rfl rfl rfl (by rw [hz2]; omega) (by unfold maxLen; omega) (Nat.le_refl _) ?_; intro w1 hown1 hgr1)
  have hb1 : Below w.heap.size w w1 := (Below.refl _ _).grown hgr1 (Nat.le_refl _) (fun k hk => by cases hk)
  go_loopw [4] (fun i wr => ∃ (k : Nat) (cur : List Value), k ≤ n ∧ i = .int .i64 k ∧ wr.ownsRow w.heap.size 57 4 (.slice (some ⟨w.heap.size, 0, none⟩) n n) n cur ∧ Hid (cur.take (k * 4) = cK kLine (xs.take k)) ∧ Below w.heap.size w wr) (fun i _ => n - (intOf i).toNat)
  case atStart => exact ⟨0, _, Nat.zero_le _, rfl, hown1, by simp [Hid, cK], hb1⟩
  case round =>
    obtain ⟨k, cur, hk, rfl, hown, HC, hb⟩ := hrel
    have HO := hide hown
    clear hown1
    by_cases hlt : k < n
    · obtain ⟨b, off, f0, f1, f2, f3, rfl, hblp, hx, hc0, hc1, hc2, hc3, pl0, ph0, pl1, ph1, pz2, pl3, ph3⟩ := RdK.atLine (RdK.below h hb (Nat.le_refl _)) hlt
      clear hown
      go_wp2_with fail
      refine (toLine_calls _ _ _ _ _).mono ?_
      rintro e w2 ⟨rfl, hb2⟩
      have ho2 := own_below HO.out hb2 (Nat.le_refl _)
      obtain ⟨v0, q0, r0, hst0⟩ := own_store (k := k * 4) ho2 (by omega)
      obtain ⟨v1, q1, r1, _⟩ := own_store (k := k * 4 + 1) ho2 (by omega)
      obtain ⟨v2, q2, r2, _⟩ := own_store (k := k * 4 + 2) ho2 (by omega)
      obtain ⟨v3, q3, r3, _⟩ := own_store (k := k * 4 + 3) ho2 (by omega)
      obtain ⟨_, _, _, hst1⟩ := own_store (k := k * 4 + 1) (hst0.out (.int .i64 f0)) (by omega)
      obtain ⟨_, _, _, hst2⟩ := own_store (k := k * 4 + 2) (hst1.out (.int .i64 f1)) (by omega)
      obtain ⟨_, _, _, hst3⟩ := own_store (k := k * 4 + 3) (hst2.out (.string f2)) (by omega)
      clear ho2
      go_wp2
      go_roundw
      case rel =>
        refine ⟨k + 1, _, by omega, by go_num, hst3.out (.int .i64 f3), ?_, ((((hb.trans (hb2.mono hb.size)).setCell (by simp) _).setCell (by simp) _).setCell (by simp) _).setCell (by simp) _⟩
        unfold Hid
        rw [take_setLine (by rw [HO.out.1]; omega), HC.out, cK_take_snoc hx.out]
        rfl
      case measure => simp [intOf]; omega
    · have hkn : k = n := by omega
      subst hkn
      clear hown
      go_wp2
      go_ret
      refine ⟨_, _, rfl, ?_, hb⟩
      have h1 := HC.out
      rw [List.take_of_length_le (by rw [HO.out.1]; omega), List.take_of_length_le (by rw [HL.out]; omega)] at h1
      rw [← h1]
      exact HO.out

set_option maxHeartbeats 1000000 in
theorem eqLineS_calls (A A' : Option Addr) (n n' c c' : Nat) (xs ys : List LineZ) (w : World) (h : RdK kLine w A n xs) (h' : RdK kLine w A' n' ys) (hn : n ≤ 1048576) (hn' : n' ≤ 1048576) :
    Calls Tryz.prog 11 #[.slice A n c, .slice A' n' c'] w fun e w' => e = .returned (.bool (decide (xs = ys))) ∧ Below w.heap.size w w' := by
  have HL := hide h.2.1
  have HL' := hide h'.2.1
  by_cases hnn : n = n'
  · subst hnn
    go_enter Tryz.func11, Tryz.ntmps11
    go_wp2
    go_loopw [5] (fun i wr => ∃ (k : Nat), k ≤ n ∧ i = .int .i64 k ∧ Hid (xs.take k = ys.take k) ∧ Below w.heap.size w wr) (fun i _ => n - (intOf i).toNat)
    case atStart => exact ⟨0, Nat.zero_le _, rfl, by simp [Hid], Below.refl _ _⟩
    case round =>
      obtain ⟨k, hk, rfl, HC, hb⟩ := hrel
      by_cases hlt : k < n
      · obtain ⟨b, off, f0, f1, f2, f3, rfl, hblp, hx, hc0, hc1, hc2, hc3, pl0, ph0, pl1, ph1, pz2, pl3, ph3⟩ := RdK.atLine (RdK.below h hb (Nat.le_refl _)) hlt
        obtain ⟨b', off', g0, g1, g2, g3, rfl, hblq, hy, hd0, hd1, hd2, hd3, ql0, qh0, ql1, qh1, qz2, ql3, qh3⟩ := RdK.atLine (RdK.below h' hb (Nat.le_refl _)) hlt
        rcases b_cases (eqLineB ⟨f0, f1, f2, f3⟩ ⟨g0, g1, g2, g3⟩) with he | he
        · have HN := hide (decide_eq_false (ne_of_at hx.out hy.out (eqLineB_not.1 he)))
          go_wp2
          go_region_held3 (fun w' => w'.cell? ⟨b, off + k * 4, none⟩ = some (.int .i64 f0) ∧ w'.cell? ⟨b, off + k * 4 + 1, none⟩ = some (.int .i64 f1) ∧ w'.cell? ⟨b, off + k * 4 + 2, none⟩ = some (.string f2) ∧ w'.cell? ⟨b, off + k * 4 + 3, none⟩ = some (.int .i64 f3) ∧ w'.cell? ⟨b', off' + k * 4, none⟩ = some (.int .i64 g0) ∧ w'.cell? ⟨b', off' + k * 4 + 1, none⟩ = some (.int .i64 g1) ∧ w'.cell? ⟨b', off' + k * 4 + 2, none⟩ = some (.string g2) ∧ w'.cell? ⟨b', off' + k * 4 + 3, none⟩ = some (.int .i64 g3))
            (first | exact ⟨hc0, hc1, hc2, hc3, hd0, hd1, hd2, hd3⟩ | exact ⟨(hb3.cell (p := ⟨b, off + k * 4, none⟩) hblp).trans hc0, (hb3.cell (p := ⟨b, off + k * 4 + 1, none⟩) hblp).trans hc1, (hb3.cell (p := ⟨b, off + k * 4 + 2, none⟩) hblp).trans hc2, (hb3.cell (p := ⟨b, off + k * 4 + 3, none⟩) hblp).trans hc3, (hb3.cell (p := ⟨b', off' + k * 4, none⟩) hblq).trans hd0, (hb3.cell (p := ⟨b', off' + k * 4 + 1, none⟩) hblq).trans hd1, (hb3.cell (p := ⟨b', off' + k * 4 + 2, none⟩) hblq).trans hd2, (hb3.cell (p := ⟨b', off' + k * 4 + 3, none⟩) hblq).trans hd3⟩)
            (first | (go_at_call 36; refine (eqLine_calls _ _ _ _ _ _ _ _ _).mono ?_; rw [he]; rintro e w3 ⟨rfl, hb3⟩))
          go_wp2
          go_ret
          exact ⟨ret_bool HN.out.symm, hb.drew.trans (hb3.mono hb.size)⟩
        · have HN : Hid (xs.take (k + 1) = ys.take (k + 1)) := by unfold Hid; rw [take_snoc hx.out, take_snoc hy.out, HC.out, eqLineB_iff.1 he]
          go_wp2
          go_region_held3 (fun w' => w'.cell? ⟨b, off + k * 4, none⟩ = some (.int .i64 f0) ∧ w'.cell? ⟨b, off + k * 4 + 1, none⟩ = some (.int .i64 f1) ∧ w'.cell? ⟨b, off + k * 4 + 2, none⟩ = some (.string f2) ∧ w'.cell? ⟨b, off + k * 4 + 3, none⟩ = some (.int .i64 f3) ∧ w'.cell? ⟨b', off' + k * 4, none⟩ = some (.int .i64 g0) ∧ w'.cell? ⟨b', off' + k * 4 + 1, none⟩ = some (.int .i64 g1) ∧ w'.cell? ⟨b', off' + k * 4 + 2, none⟩ = some (.string g2) ∧ w'.cell? ⟨b', off' + k * 4 + 3, none⟩ = some (.int .i64 g3))
            (first | exact ⟨hc0, hc1, hc2, hc3, hd0, hd1, hd2, hd3⟩ | exact ⟨(hb3.cell (p := ⟨b, off + k * 4, none⟩) hblp).trans hc0, (hb3.cell (p := ⟨b, off + k * 4 + 1, none⟩) hblp).trans hc1, (hb3.cell (p := ⟨b, off + k * 4 + 2, none⟩) hblp).trans hc2, (hb3.cell (p := ⟨b, off + k * 4 + 3, none⟩) hblp).trans hc3, (hb3.cell (p := ⟨b', off' + k * 4, none⟩) hblq).trans hd0, (hb3.cell (p := ⟨b', off' + k * 4 + 1, none⟩) hblq).trans hd1, (hb3.cell (p := ⟨b', off' + k * 4 + 2, none⟩) hblq).trans hd2, (hb3.cell (p := ⟨b', off' + k * 4 + 3, none⟩) hblq).trans hd3⟩)
            (first | (go_at_call 36; refine (eqLine_calls _ _ _ _ _ _ _ _ _).mono ?_; rw [he]; rintro e w3 ⟨rfl, hb3⟩))
          go_wp2
          go_roundw
          case rel => exact ⟨k + 1, by omega, by go_num, HN, hb.drew.trans (hb3.mono hb.size)⟩
          case measure => simp [intOf]; omega
      · have hkn : k = n := by omega
        subst hkn
        go_wp2
        go_ret
        exact ⟨ret_bool (decide_eq_true (eq_of_takes HL.out HL'.out HC.out)).symm, hb⟩
  · have hne : ((n : Int) != n') = true := by simp; omega
    go_enter Tryz.func11, Tryz.ntmps11
    go_wp2
    go_ret
    exact ⟨ret_bool (decide_eq_false (ne_of_len HL.out HL'.out hnn)).symm, Below.refl _ _⟩

def markLineL (k : Nat) : Nat → List LineZ
  | 0 => []
  | n + 1 => markLineL k n ++ [⟨(k : Int) + 4 * (n : Int), (k : Int) + 4 * (n : Int) + 1, mT (k + 4 * n + 2), (k : Int) + 4 * (n : Int) + 3⟩]
theorem markLineL_len (k n : Nat) : (markLineL k n).length = n := by
  induction n with
  | zero => rfl
  | succ n ih => simp [markLineL, ih]
theorem markLineL_at (k : Nat) {n i : Nat} (h : i < n) : (markLineL k n)[i]? = some (⟨(k : Int) + 4 * (i : Int), (k : Int) + 4 * (i : Int) + 1, mT (k + 4 * i + 2), (k : Int) + 4 * (i : Int) + 3⟩) := by
  induction n with
  | zero => omega
  | succ n ih =>
    rw [markLineL, List.getElem?_append, markLineL_len]
    split
    · exact ih (by omega)
    · have : i = n := by omega
      subst this
      simp
theorem markLineL_fine {k n : Nat} (hk : k + 4 * n ≤ 4611686018427387904) : ∀ x ∈ markLineL k n, kLine.fine x := by
  intro x hx
  obtain ⟨i, hi⟩ := List.mem_iff_getElem?.1 hx
  have hl := (List.getElem?_eq_some_iff.1 hi).1
  rw [markLineL_len] at hl
  rw [markLineL_at k hl] at hi
  obtain rfl := Option.some.inj hi
  refine ⟨⟨by simp only; omega, by simp only; omega⟩, ⟨by simp only; omega, by simp only; omega⟩, Nat.le_trans (mT_size _) (by omega), ⟨by simp only; omega, by simp only; omega⟩⟩

set_option maxHeartbeats 2000000 in
theorem markLineS_calls (A : Option Addr) (n c : Nat) (lo hi : Nat) (xs : List LineZ) (k : Int) (w : World) (h : FrK kLine w lo hi 57 A n xs) (hn : n ≤ 1048576) (hk : 1 ≤ k) (hk2 : k ≤ 1152921504606846976) (hhi : hi ≤ w.heap.size) :
    Calls Tryz.prog 12 #[.slice A n c, .int .i64 k] w fun e w' => e = .returned (.int .i64 (k + 4 * n)) ∧ FrK kLine w' lo hi 57 A n (markLineL k.toNat n) ∧ Wr lo hi w w' ∧ w.heap.size ≤ w'.heap.size := by
  obtain ⟨k, rfl⟩ : ∃ k0 : Nat, k = (k0 : Int) := ⟨k.toNat, by omega⟩
  have ek : (k : Int).toNat = k := Int.toNat_natCast k
  rw [ek]
  clear ek
  have h1 := hide h.1
  clear h
  go_enter Tryz.func12, Tryz.ntmps12
  go_wp2
  go_loopw [1, 5] (fun q i wr => ∃ (j : Nat), j ≤ n ∧ i = .int .i64 j ∧ q = .int .i64 ((k : Int) + 4 * (j : Int)) ∧ Hid (∃ cur : List Value, Fr wr lo hi 57 4 A n cur ∧ cur.take (j * 4) = cK kLine (markLineL k j) ∧ hi ≤ wr.heap.size) ∧ Wr lo hi w wr) (fun _ i _ => n - (intOf i).toNat)
  case atStart => exact ⟨0, Nat.zero_le _, rfl, by simp, ⟨_, h1.out, by simp [markLineL, cK], hhi⟩, Wr.refl _ _ _⟩
  case round =>
    obtain ⟨j, hj, rfl, rfl, HF, hw⟩ := hrel
    by_cases hlt : j < n
    · obtain ⟨cur, F, hcur, hh0⟩ := HF.out
      obtain ⟨b, off, rfl⟩ := F.addr (by omega)
      have HCU := hide (And.intro hcur F.1)
      clear hcur
      have hz0 := hh0
      have W0 := hw
      clear hh0
      obtain ⟨v0, p0, q0, hl0, hh0, hst0⟩ := F.put (j := j * 4) (by omega)
      have F := hst0.out (.int .i64 ((k : Int) + 4 * (j : Int)))
      have hz1 : hi ≤ (wr.setCell ⟨b, off + j * 4, none⟩ (.int .i64 ((k : Int) + 4 * (j : Int)))).heap.size := by simpa using hz0
      have W1 := W0.trans (Wr.setCell (off := off + j * 4) wr (.int .i64 ((k : Int) + 4 * (j : Int))) hl0 hh0)
      clear hz0 W0 hl0 hh0
      obtain ⟨v1, p1, q1, hl1, hh1, hst1⟩ := F.put (j := j * 4 + 1) (by omega)
      have ea1 : off + (j * 4 + 1) = off + j * 4 + 1 := by omega
      rw [ea1] at p1 q1 hst1
      clear ea1
      have F := hst1.out (.int .i64 ((k : Int) + 4 * (j : Int) + 1))
      have hz2 : hi ≤ ((wr.setCell ⟨b, off + j * 4, none⟩ (.int .i64 ((k : Int) + 4 * (j : Int)))).setCell ⟨b, off + j * 4 + 1, none⟩ (.int .i64 ((k : Int) + 4 * (j : Int) + 1))).heap.size := by simpa using hz1
      have W2 := W1.trans (Wr.setCell (off := off + j * 4 + 1) (wr.setCell ⟨b, off + j * 4, none⟩ (.int .i64 ((k : Int) + 4 * (j : Int)))) (.int .i64 ((k : Int) + 4 * (j : Int) + 1)) hl1 hh1)
      clear hz1 W1 hl1 hh1
      go_wp2_with fail
      refine (markText_z (k + 4 * j + 2) _ _ (by omega) (by omega) (by omega)).mono ?_
      rintro e w1 ⟨rfl, hb1⟩
      have F := F.below hb1 hz2
      have hz3 := Nat.le_trans hz2 hb1.size
      have W3 := W2.trans (Wr.of_below hb1)
      clear hz2 W2
      obtain ⟨v2, p2, q2, hl2, hh2, hst2⟩ := F.put (j := j * 4 + 2) (by omega)
      have ea2 : off + (j * 4 + 2) = off + j * 4 + 2 := by omega
      rw [ea2] at p2 q2 hst2
      clear ea2
      have F := hst2.out (.string (mT (k + 4 * j + 2)))
      have hz4 : hi ≤ (w1.setCell ⟨b, off + j * 4 + 2, none⟩ (.string (mT (k + 4 * j + 2)))).heap.size := by simpa using hz3
      have W4 := W3.trans (Wr.setCell (off := off + j * 4 + 2) w1 (.string (mT (k + 4 * j + 2))) hl2 hh2)
      clear hz3 W3 hl2 hh2
      obtain ⟨v3, p3, q3, hl3, hh3, hst3⟩ := F.put (j := j * 4 + 3) (by omega)
      have ea3 : off + (j * 4 + 3) = off + j * 4 + 3 := by omega
      rw [ea3] at p3 q3 hst3
      clear ea3
      have F := hst3.out (.int .i64 ((k : Int) + 4 * (j : Int) + 3))
      have hz5 : hi ≤ ((w1.setCell ⟨b, off + j * 4 + 2, none⟩ (.string (mT (k + 4 * j + 2)))).setCell ⟨b, off + j * 4 + 3, none⟩ (.int .i64 ((k : Int) + 4 * (j : Int) + 3))).heap.size := by simpa using hz4
      have W5 := W4.trans (Wr.setCell (off := off + j * 4 + 3) (w1.setCell ⟨b, off + j * 4 + 2, none⟩ (.string (mT (k + 4 * j + 2)))) (.int .i64 ((k : Int) + 4 * (j : Int) + 3)) hl3 hh3)
      clear hz4 W4 hl3 hh3
      have HX := hide (And.intro F (And.intro hz5 W5))
      clear F hz5 W5
      go_wp2
      go_roundw
      case rel =>
        refine ⟨j + 1, by omega, by go_num, by go_num, ⟨_, HX.out.1, ?_, HX.out.2.1⟩, HX.out.2.2⟩
        rw [take_setLine (by rw [HCU.out.2]; omega), HCU.out.1, markLineL, cK_snoc]
        simp [kLine]
        try omega
      case measure => simp [intOf]; omega
    · have hjn : j = n := by omega
      subst hjn
      go_wp2
      go_ret
      obtain ⟨cur, hF, hcur, hhi2⟩ := HF.out
      rw [List.take_of_length_le (by rw [hF.1]; omega)] at hcur
      refine ⟨by simp, ⟨hcur ▸ hF, markLineL_len _ _, markLineL_fine (by omega)⟩, hw, hw.size⟩


end Go.Proofs.YtlomloepdnojoaaGreatDoor
