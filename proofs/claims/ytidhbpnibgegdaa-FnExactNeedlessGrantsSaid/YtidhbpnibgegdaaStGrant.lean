/- The struct Grant: what its slices read as, and the laws' helpers on it. Printed by structgen.py. -/
import Derived.Test.YtidhbpnibgegdaaRows
import Derived.Test.YtidhbpnibgegdaaKind
import Derived.Test.YtidhbpnibgegdaaMarkT
import Derived.Deep.RegionHeld3
namespace Go.Proofs.Ytidhbpnibgegdaa
open Go.RowKit
set_option linter.unusedVariables false

structure GrantZ where
  role : ByteArray
  object : ByteArray
  action : Int
theorem GrantZ_iff {a b : GrantZ} : a = b ↔ a.role = b.role ∧ a.object = b.object ∧ a.action = b.action := by cases a; cases b; simp
instance : DecidableEq GrantZ := fun a b => decidable_of_iff _ GrantZ_iff.symm
def kGrant : Kind GrantZ := ⟨fun x => [.string x.role, .string x.object, .int .i64 x.action], 3, fun x => x.role.size ≤ 9223372036854775807 ∧ x.object.size ≤ 9223372036854775807 ∧ I64 x.action, fun _ => rfl, by
  intro x u hu
  simp only [List.mem_cons, List.not_mem_nil, or_false] at hu
  rcases hu with rfl | rfl | rfl <;> rfl⟩
abbrev RdGrant := RdK kGrant
abbrev FrGrant := FrK kGrant

theorem RdK.atGrant {w : World} {A : Option Addr} {n : Nat} {xs : List GrantZ} {k : Nat} (h : RdK kGrant w A n xs) (hk : k < n) :
    ∃ b off f0 f1 f2, A = some ⟨b, off, none⟩ ∧ b < w.heap.size ∧ Hid (xs[k]? = some ⟨f0, f1, f2⟩) ∧ w.cell? ⟨b, off + k * 3, none⟩ = some (.string f0) ∧ w.cell? ⟨b, off + k * 3 + 1, none⟩ = some (.string f1) ∧ w.cell? ⟨b, off + k * 3 + 2, none⟩ = some (.int .i64 f2) ∧ f0.size ≤ 9223372036854775807 ∧ f1.size ≤ 9223372036854775807 ∧ -9223372036854775808 ≤ f2 ∧ f2 ≤ 9223372036854775807 := by
  obtain ⟨b, off, x, hA, hb, hx, hf, hc⟩ := h.atK hk
  exact ⟨b, off, _, _, _, hA, hb, hx, hc 0 _ rfl, hc 1 _ rfl, hc 2 _ rfl, hf.1, hf.2.1, hf.2.2.1, hf.2.2.2⟩

theorem Try.infoGrant : (Try.prog.info? 49).map (fun i => (i.zero, i.size, i.bytes)) = some (some (.agg #[.string ⟨#[]⟩, .string ⟨#[]⟩, .int .i64 0]), 3, 40) := by kernel_rfl

theorem appGrant {w : World} {ops : Array Oper} {rest : List Oper} {o : Oper} {a : Act} {Q : Exit → Act → World → Prop} (hgd : o.guard = none) (s x : Operand)
    (ho : o.op = .call { callee := .builtin .append, args := #[s, x], argTypes := #[39, 39] })
    (base : Nat) (v : Value) (n : Nat) (xs : List GrantZ) (u : GrantZ) (hs : a.eval s = v) (hown : w.ownsRow base 49 3 v n (cK kGrant xs)) (hx : a.eval x = .slice (some ⟨w.heap.size, 0, none⟩) 1 1)
    (hn : n ≤ 1099511627776) (hbase : base ≤ w.heap.size)
    (h : ∀ v' w', w'.ownsRow base 49 3 v' (n + 1) (cK kGrant (xs ++ [u])) → Below base w w' → w.heap.size ≤ w'.heap.size → wpList Try.prog ops Q rest (a.put o.dst v') w') : wpList Try.prog ops Q (o :: rest) a (w.alloc (.cells #[.string u.role, .string u.object, .int .i64 u.action] 49)) :=
  appK_gen kGrant hgd s x 39 ho base 49 (.agg #[.string ⟨#[]⟩, .string ⟨#[]⟩, .int .i64 0]) 40 Try.underlying39 Try.infoGrant rfl (by decide) (by omega) v n xs u hs hown hx hn hbase h

theorem appsGrant {w : World} {ops : Array Oper} {rest : List Oper} {o : Oper} {a : Act} {Q : Exit → Act → World → Prop} (hgd : o.guard = none) (s x : Operand)
    (ho : o.op = .call { callee := .builtin .append, args := #[s, x], argTypes := #[39, 39] })
    (base : Nat) (v : Value) (n : Nat) (xs : List GrantZ) (hs : a.eval s = v) (hown : w.ownsRow base 49 3 v n (cK kGrant xs))
    (Ax : Option Addr) (m cx : Nat) (ys : List GrantZ) (hx : a.eval x = .slice Ax m cx) (hy : Rd w Ax m 3 (cK kGrant ys)) (hn : n + m ≤ 1099511627776) (hbase : base ≤ w.heap.size)
    (h : ∀ v' w', w'.ownsRow base 49 3 v' (n + m) (cK kGrant (xs ++ ys)) → Below base w w' → w.heap.size ≤ w'.heap.size → wpList Try.prog ops Q rest (a.put o.dst v') w') : wpList Try.prog ops Q (o :: rest) a w :=
  appKs_gen kGrant hgd s x 39 ho base 49 (.agg #[.string ⟨#[]⟩, .string ⟨#[]⟩, .int .i64 0]) 40 Try.underlying39 Try.infoGrant rfl (by decide) (by omega) v n xs hs hown Ax m cx ys hx hy hn hbase h

/-- Are two alike? -/
def eqGrantB (x y : GrantZ) : Bool := decide (x = y)
theorem eqGrantB_iff {x y : GrantZ} : eqGrantB x y = true ↔ x = y := by simp [eqGrantB]
theorem eqGrantB_not {x y : GrantZ} : eqGrantB x y = false ↔ x ≠ y := by simp [eqGrantB]

set_option maxHeartbeats 400000 in
theorem szGrant_calls (a0 a1 : ByteArray) (a2 : Int) (l : Int) (w : World) (h0 : 0 ≤ l) (h1 : l ≤ 1048576) (hs0 : a0.size ≤ 9223372036854775807) (hs1 : a1.size ≤ 9223372036854775807) :
    Calls Try.prog 32 #[.agg #[.string a0, .string a1, .int .i64 a2], .int .i64 l] w (SzPost l ((a0.size : Int) ≤ l ∧ (a1.size : Int) ≤ l) w) := by
  by_cases c0 : l - a0.size < 0
  · go_enter Try.func32, Try.ntmps32
    go_wp2
    go_ret
    exact ⟨-1, rfl, by omega, by omega, by omega, (Below.refl _ _).alloc (Nat.le_refl _) _⟩
  by_cases c1 : l - a0.size - a1.size < 0
  · go_enter Try.func32, Try.ntmps32
    go_wp2
    go_ret
    exact ⟨-1, rfl, by omega, by omega, by omega, (Below.refl _ _).alloc (Nat.le_refl _) _⟩
  go_enter Try.func32, Try.ntmps32
  go_wp2
  go_ret
  exact ⟨_, rfl, by omega, by omega, by omega, (Below.refl _ _).alloc (Nat.le_refl _) _⟩

set_option maxHeartbeats 400000 in
theorem toGrant_calls (a0 a1 : ByteArray) (a2 : Int) (w : World) :
    Calls Try.prog 34 #[.agg #[.string a0, .string a1, .int .i64 a2]] w fun e w' => e = .returned (.agg #[.string a0, .string a1, .int .i64 a2]) ∧ Below w.heap.size w w' := by
  go_enter Try.func34, Try.ntmps34
  go_wp2
  refine bodyPost_ret (v := .agg #[.string a0, .string a1, .int .i64 a2]) (by simp [results, Try.results34, go_sem]) rfl ⟨rfl, ?_⟩
  exact (((Below.refl _ _).alloc (Nat.le_refl _) _).alloc (by simp) _).alloc (by simp; omega) _

set_option maxHeartbeats 1000000 in
theorem eqGrant_calls (a0 a1 : ByteArray) (a2 : Int) (b0 b1 : ByteArray) (b2 : Int) (w : World) :
    Calls Try.prog 71 #[.agg #[.string a0, .string a1, .int .i64 a2], .agg #[.string b0, .string b1, .int .i64 b2]] w fun e w' => e = .returned (.bool (eqGrantB ⟨a0, a1, a2⟩ ⟨b0, b1, b2⟩)) ∧ Below w.heap.size w w' := by
  have B := hide (((Below.refl w.heap.size w).alloc (Nat.le_refl _) (.cells #[.string a0, .string a1, .int .i64 a2] 49)).alloc (by simp) (.cells #[.string b0, .string b1, .int .i64 b2] 49))
  by_cases c0 : a0 = b0
  case neg =>
    obtain ⟨e1, e2⟩ := str_ne c0
    have HF := hide ((eqGrantB_not (x := ⟨a0, a1, a2⟩) (y := ⟨b0, b1, b2⟩)).2 (fun h => c0 (congrArg GrantZ.role h)))
    clear c0
    go_enter Try.func71, Try.ntmps71
    go_wp2
    go_ret
    exact ⟨ret_bool HF.out.symm, B.out⟩
  subst c0
  by_cases c1 : a1 = b1
  case neg =>
    obtain ⟨e1, e2⟩ := str_ne c1
    have HF := hide ((eqGrantB_not (x := ⟨a0, a1, a2⟩) (y := ⟨a0, b1, b2⟩)).2 (fun h => c1 (congrArg GrantZ.object h)))
    clear c1
    go_enter Try.func71, Try.ntmps71
    go_wp2
    go_ret
    exact ⟨ret_bool HF.out.symm, B.out⟩
  subst c1
  by_cases c2 : a2 = b2
  case neg =>
    have e1 : (a2 == b2) = false := by simpa using c2
    have e2 : (a2 != b2) = true := by simpa using c2
    have HF := hide ((eqGrantB_not (x := ⟨a0, a1, a2⟩) (y := ⟨a0, a1, b2⟩)).2 (fun h => c2 (congrArg GrantZ.action h)))
    clear c2
    go_enter Try.func71, Try.ntmps71
    go_wp2
    go_ret
    exact ⟨ret_bool HF.out.symm, B.out⟩
  subst c2
  have HF := hide (eqGrantB_iff.2 (rfl : (⟨a0, a1, a2⟩ : GrantZ) = ⟨a0, a1, a2⟩))
  go_enter Try.func71, Try.ntmps71
  go_wp2
  go_ret
  exact ⟨ret_bool HF.out.symm, B.out⟩

theorem take_setGrant {l : List Value} {k : Nat} {u0 u1 u2 : Value} (h : k * 3 + 2 < l.length) : ((((l).set (k * 3) u0).set (k * 3 + 1) u1).set (k * 3 + 2) u2).take ((k + 1) * 3) = l.take (k * 3) ++ [u0, u1, u2] := by
  have e : (k + 1) * 3 = k * 3 + 1 + 1 + 1 := by omega
  rw [e, take_set_snoc (by first | omega | (simp; omega)), take_set_snoc (by first | omega | (simp; omega)), take_set_snoc (by first | omega | (simp; omega))]
  simp

set_option maxHeartbeats 1000000 in
theorem szGrantS_calls (A : Option Addr) (n c : Nat) (xs : List GrantZ) (l : Int) (w : World) (h : RdK kGrant w A n xs) (h0 : 0 ≤ l) (h1 : l ≤ 1048576) (hn : n ≤ 9223372036854775807) :
    Calls Try.prog 25 #[.slice A n c, .int .i64 l] w (SzPost l ((n : Int) ≤ l ∧ ∀ x ∈ xs, (x.role.size : Int) ≤ l ∧ (x.object.size : Int) ≤ l) w) := by
  have HL := hide h.2.1
  by_cases c1 : l - n < 0
  · go_enter Try.func25, Try.ntmps25
    go_wp2
    go_ret
    exact ⟨-1, rfl, by omega, by omega, by omega, Below.refl _ _⟩
  · go_enter Try.func25, Try.ntmps25
    go_wp2
    go_loopw [1, 5] (fun l' i wr => ∃ (k : Nat) (q : Int), k ≤ n ∧ i = .int .i64 k ∧ l' = .int .i64 q ∧ 0 ≤ q ∧ q ≤ l ∧ Below w.heap.size w wr ∧ Hid (∀ x ∈ xs.take k, (x.role.size : Int) ≤ l ∧ (x.object.size : Int) ≤ l)) (fun _ i _ => n - (intOf i).toNat)
    case atStart => exact ⟨0, l - n, by omega, rfl, rfl, by omega, by omega, Below.refl _ _, by simp [Hid]⟩
    case round =>
      obtain ⟨k, q, hk, rfl, rfl, hq1, hq2, hb, hall⟩ := hrel
      by_cases hlt : k < n
      · obtain ⟨b, off, f0, f1, f2, rfl, hblp, hx, hc0, hc1, hc2, pz0, pz1, pl2, ph2⟩ := RdK.atGrant (RdK.below h hb (Nat.le_refl _)) hlt
        go_wp2_with fail
        refine (szGrant_calls _ _ _ _ _ hq1 (by omega) pz0 pz1).mono ?_
        rintro e w1 ⟨r, rfl, hr1, hr2, hr3, hb1⟩
        by_cases hneg : r < 0
        · clear hr3
          go_wp2
          go_ret
          exact ⟨-1, rfl, by omega, by omega, by omega, hb.trans (hb1.mono hb.size)⟩
        · have HA : Hid (∀ x ∈ xs.take (k + 1), (x.role.size : Int) ≤ l ∧ (x.object.size : Int) ≤ l) := by
            unfold Hid
            rw [take_snoc hx.out]
            intro y hy
            rcases List.mem_append.1 hy with hy | hy
            · exact hall.out y hy
            · simp only [List.mem_singleton] at hy
              subst hy
              have := hr3 (by omega)
              simp only
              omega
          clear hr3
          go_wp2
          go_roundw
          case rel => exact ⟨k + 1, r, by omega, by go_num, rfl, by omega, by omega, hb.trans (hb1.mono hb.size), HA⟩
          case measure => simp [intOf]; omega
      · have hkn : k = n := by omega
        have HK := hide hkn
        clear hkn
        go_wp2
        go_ret
        refine ⟨q, rfl, by omega, by omega, fun _ => ⟨by omega, ?_⟩, hb⟩
        have := hall.out
        rwa [List.take_of_length_le (by rw [HL.out, HK.out]; omega)] at this

set_option maxHeartbeats 1000000 in
theorem toGrantS_calls (A : Option Addr) (n c : Nat) (xs : List GrantZ) (w : World) (h : RdK kGrant w A n xs) (hn : n ≤ 1048576) :
    Calls Try.prog 27 #[.slice A n c] w fun e w' => ∃ A' c', e = .returned (.slice A' n c') ∧ w'.ownsRow w.heap.size 49 3 (.slice A' n c') n (cK kGrant xs) ∧ Below w.heap.size w w' := by
  obtain ⟨i0, hi, hz0, hz1, hz2⟩ := info_parts Try.infoGrant
  have HL := hide h.2.1
  go_enter Try.func27, Try.ntmps27
  go_wp2_with (refine wpList_make_full _ rfl _ _ 39 rfl w.heap.size 49 i0 (.agg #[.string ⟨#[]⟩, .string ⟨#[]⟩, .int .i64 0]) 3 Try.underlying39 hi hz0 hz1 .i64 .i64 _ _ n rfl rfl rfl rfl (by rw [hz2]; omega) (by unfold maxLen; omega) (Nat.le_refl _) ?_; intro w1 hown1 hgr1)
  have hb1 : Below w.heap.size w w1 := (Below.refl _ _).grown hgr1 (Nat.le_refl _) (fun k hk => by cases hk)
  go_loopw [4] (fun i wr => ∃ (k : Nat) (cur : List Value), k ≤ n ∧ i = .int .i64 k ∧ wr.ownsRow w.heap.size 49 3 (.slice (some ⟨w.heap.size, 0, none⟩) n n) n cur ∧ Hid (cur.take (k * 3) = cK kGrant (xs.take k)) ∧ Below w.heap.size w wr) (fun i _ => n - (intOf i).toNat)
  case atStart => exact ⟨0, _, Nat.zero_le _, rfl, hown1, by simp [Hid, cK], hb1⟩
  case round =>
    obtain ⟨k, cur, hk, rfl, hown, HC, hb⟩ := hrel
    have HO := hide hown
    clear hown1
    by_cases hlt : k < n
    · obtain ⟨b, off, f0, f1, f2, rfl, hblp, hx, hc0, hc1, hc2, pz0, pz1, pl2, ph2⟩ := RdK.atGrant (RdK.below h hb (Nat.le_refl _)) hlt
      clear hown
      go_wp2_with fail
      refine (toGrant_calls _ _ _ _).mono ?_
      rintro e w2 ⟨rfl, hb2⟩
      have ho2 := own_below HO.out hb2 (Nat.le_refl _)
      obtain ⟨v0, q0, r0, hst0⟩ := own_store (k := k * 3) ho2 (by omega)
      obtain ⟨v1, q1, r1, _⟩ := own_store (k := k * 3 + 1) ho2 (by omega)
      obtain ⟨v2, q2, r2, _⟩ := own_store (k := k * 3 + 2) ho2 (by omega)
      obtain ⟨_, _, _, hst1⟩ := own_store (k := k * 3 + 1) (hst0.out (.string f0)) (by omega)
      obtain ⟨_, _, _, hst2⟩ := own_store (k := k * 3 + 2) (hst1.out (.string f1)) (by omega)
      clear ho2
      go_wp2
      go_roundw
      case rel =>
        refine ⟨k + 1, _, by omega, by go_num, hst2.out (.int .i64 f2), ?_, (((hb.trans (hb2.mono hb.size)).setCell (by simp) _).setCell (by simp) _).setCell (by simp) _⟩
        unfold Hid
        rw [take_setGrant (by rw [HO.out.1]; omega), HC.out, cK_take_snoc hx.out]
        rfl
      case measure => simp [intOf]; omega
    · have hkn : k = n := by omega
      subst hkn
      clear hown
      go_wp2
      go_ret
      refine ⟨_, _, rfl, ?_, hb⟩
      have h1 := HC.out
      rw [List.take_of_length_le (by rw [HO.out.1]; omega), List.take_of_length_le (by rw [HL.out]; omega)] at h1
      rw [← h1]
      exact HO.out

set_option maxHeartbeats 1000000 in
theorem eqGrantS_calls (A A' : Option Addr) (n n' c c' : Nat) (xs ys : List GrantZ) (w : World) (h : RdK kGrant w A n xs) (h' : RdK kGrant w A' n' ys) (hn : n ≤ 1048576) (hn' : n' ≤ 1048576) :
    Calls Try.prog 29 #[.slice A n c, .slice A' n' c'] w fun e w' => e = .returned (.bool (decide (xs = ys))) ∧ Below w.heap.size w w' := by
  have HL := hide h.2.1
  have HL' := hide h'.2.1
  by_cases hnn : n = n'
  · subst hnn
    go_enter Try.func29, Try.ntmps29
    go_wp2
    go_loopw [5] (fun i wr => ∃ (k : Nat), k ≤ n ∧ i = .int .i64 k ∧ Hid (xs.take k = ys.take k) ∧ Below w.heap.size w wr) (fun i _ => n - (intOf i).toNat)
    case atStart => exact ⟨0, Nat.zero_le _, rfl, by simp [Hid], Below.refl _ _⟩
    case round =>
      obtain ⟨k, hk, rfl, HC, hb⟩ := hrel
      by_cases hlt : k < n
      · obtain ⟨b, off, f0, f1, f2, rfl, hblp, hx, hc0, hc1, hc2, pz0, pz1, pl2, ph2⟩ := RdK.atGrant (RdK.below h hb (Nat.le_refl _)) hlt
        obtain ⟨b', off', g0, g1, g2, rfl, hblq, hy, hd0, hd1, hd2, qz0, qz1, ql2, qh2⟩ := RdK.atGrant (RdK.below h' hb (Nat.le_refl _)) hlt
        rcases b_cases (eqGrantB ⟨f0, f1, f2⟩ ⟨g0, g1, g2⟩) with he | he
        · have HN := hide (decide_eq_false (ne_of_at hx.out hy.out (eqGrantB_not.1 he)))
          go_wp2
          go_region_held3 (fun w' => w'.cell? ⟨b, off + k * 3, none⟩ = some (.string f0) ∧ w'.cell? ⟨b, off + k * 3 + 1, none⟩ = some (.string f1) ∧ w'.cell? ⟨b, off + k * 3 + 2, none⟩ = some (.int .i64 f2) ∧ w'.cell? ⟨b', off' + k * 3, none⟩ = some (.string g0) ∧ w'.cell? ⟨b', off' + k * 3 + 1, none⟩ = some (.string g1) ∧ w'.cell? ⟨b', off' + k * 3 + 2, none⟩ = some (.int .i64 g2))
            (first | exact ⟨hc0, hc1, hc2, hd0, hd1, hd2⟩ | exact ⟨(hb3.cell (p := ⟨b, off + k * 3, none⟩) hblp).trans hc0, (hb3.cell (p := ⟨b, off + k * 3 + 1, none⟩) hblp).trans hc1, (hb3.cell (p := ⟨b, off + k * 3 + 2, none⟩) hblp).trans hc2, (hb3.cell (p := ⟨b', off' + k * 3, none⟩) hblq).trans hd0, (hb3.cell (p := ⟨b', off' + k * 3 + 1, none⟩) hblq).trans hd1, (hb3.cell (p := ⟨b', off' + k * 3 + 2, none⟩) hblq).trans hd2⟩)
            (first | (go_at_call 71; refine (eqGrant_calls _ _ _ _ _ _ _).mono ?_; rw [he]; rintro e w3 ⟨rfl, hb3⟩))
          go_wp2
          go_ret
          exact ⟨ret_bool HN.out.symm, hb.drew.trans (hb3.mono hb.size)⟩
        · have HN : Hid (xs.take (k + 1) = ys.take (k + 1)) := by unfold Hid; rw [take_snoc hx.out, take_snoc hy.out, HC.out, eqGrantB_iff.1 he]
          go_wp2
          go_region_held3 (fun w' => w'.cell? ⟨b, off + k * 3, none⟩ = some (.string f0) ∧ w'.cell? ⟨b, off + k * 3 + 1, none⟩ = some (.string f1) ∧ w'.cell? ⟨b, off + k * 3 + 2, none⟩ = some (.int .i64 f2) ∧ w'.cell? ⟨b', off' + k * 3, none⟩ = some (.string g0) ∧ w'.cell? ⟨b', off' + k * 3 + 1, none⟩ = some (.string g1) ∧ w'.cell? ⟨b', off' + k * 3 + 2, none⟩ = some (.int .i64 g2))
            (first | exact ⟨hc0, hc1, hc2, hd0, hd1, hd2⟩ | exact ⟨(hb3.cell (p := ⟨b, off + k * 3, none⟩) hblp).trans hc0, (hb3.cell (p := ⟨b, off + k * 3 + 1, none⟩) hblp).trans hc1, (hb3.cell (p := ⟨b, off + k * 3 + 2, none⟩) hblp).trans hc2, (hb3.cell (p := ⟨b', off' + k * 3, none⟩) hblq).trans hd0, (hb3.cell (p := ⟨b', off' + k * 3 + 1, none⟩) hblq).trans hd1, (hb3.cell (p := ⟨b', off' + k * 3 + 2, none⟩) hblq).trans hd2⟩)
            (first | (go_at_call 71; refine (eqGrant_calls _ _ _ _ _ _ _).mono ?_; rw [he]; rintro e w3 ⟨rfl, hb3⟩))
          go_wp2
          go_roundw
          case rel => exact ⟨k + 1, by omega, by go_num, HN, hb.drew.trans (hb3.mono hb.size)⟩
          case measure => simp [intOf]; omega
      · have hkn : k = n := by omega
        subst hkn
        go_wp2
        go_ret
        exact ⟨ret_bool (decide_eq_true (eq_of_takes HL.out HL'.out HC.out)).symm, hb⟩
  · have hne : ((n : Int) != n') = true := by simp; omega
    go_enter Try.func29, Try.ntmps29
    go_wp2
    go_ret
    exact ⟨ret_bool (decide_eq_false (ne_of_len HL.out HL'.out hnn)).symm, Below.refl _ _⟩

def markGrantL (k : Nat) : Nat → List GrantZ
  | 0 => []
  | n + 1 => markGrantL k n ++ [⟨mT (k + 3 * n), mT (k + 3 * n + 1), (k : Int) + 3 * (n : Int) + 2⟩]
theorem markGrantL_len (k n : Nat) : (markGrantL k n).length = n := by
  induction n with
  | zero => rfl
  | succ n ih => simp [markGrantL, ih]
theorem markGrantL_at (k : Nat) {n i : Nat} (h : i < n) : (markGrantL k n)[i]? = some (⟨mT (k + 3 * i), mT (k + 3 * i + 1), (k : Int) + 3 * (i : Int) + 2⟩) := by
  induction n with
  | zero => omega
  | succ n ih =>
    rw [markGrantL, List.getElem?_append, markGrantL_len]
    split
    · exact ih (by omega)
    · have : i = n := by omega
      subst this
      simp
theorem markGrantL_fine {k n : Nat} (hk : k + 3 * n ≤ 4611686018427387904) : ∀ x ∈ markGrantL k n, kGrant.fine x := by
  intro x hx
  obtain ⟨i, hi⟩ := List.mem_iff_getElem?.1 hx
  have hl := (List.getElem?_eq_some_iff.1 hi).1
  rw [markGrantL_len] at hl
  rw [markGrantL_at k hl] at hi
  obtain rfl := Option.some.inj hi
  refine ⟨Nat.le_trans (mT_size _) (by omega), Nat.le_trans (mT_size _) (by omega), ⟨by simp only; omega, by simp only; omega⟩⟩

set_option maxHeartbeats 2000000 in
theorem markGrantS_calls (A : Option Addr) (n c : Nat) (lo hi : Nat) (xs : List GrantZ) (k : Int) (w : World) (h : FrK kGrant w lo hi 49 A n xs) (hn : n ≤ 1048576) (hk : 1 ≤ k) (hk2 : k ≤ 1152921504606846976) (hhi : hi ≤ w.heap.size) :
    Calls Try.prog 36 #[.slice A n c, .int .i64 k] w fun e w' => e = .returned (.int .i64 (k + 3 * n)) ∧ FrK kGrant w' lo hi 49 A n (markGrantL k.toNat n) ∧ Wr lo hi w w' ∧ w.heap.size ≤ w'.heap.size := by
  obtain ⟨k, rfl⟩ : ∃ k0 : Nat, k = (k0 : Int) := ⟨k.toNat, by omega⟩
  have ek : (k : Int).toNat = k := Int.toNat_natCast k
  rw [ek]
  clear ek
  have h1 := hide h.1
  clear h
  go_enter Try.func36, Try.ntmps36
  go_wp2
  go_loopw [1, 5] (fun q i wr => ∃ (j : Nat), j ≤ n ∧ i = .int .i64 j ∧ q = .int .i64 ((k : Int) + 3 * (j : Int)) ∧ Hid (∃ cur : List Value, Fr wr lo hi 49 3 A n cur ∧ cur.take (j * 3) = cK kGrant (markGrantL k j) ∧ hi ≤ wr.heap.size) ∧ Wr lo hi w wr) (fun _ i _ => n - (intOf i).toNat)
  case atStart => exact ⟨0, Nat.zero_le _, rfl, by simp, ⟨_, h1.out, by simp [markGrantL, cK], hhi⟩, Wr.refl _ _ _⟩
  case round =>
    obtain ⟨j, hj, rfl, rfl, HF, hw⟩ := hrel
    by_cases hlt : j < n
    · obtain ⟨cur, F, hcur, hh0⟩ := HF.out
      obtain ⟨b, off, rfl⟩ := F.addr (by omega)
      have HCU := hide (And.intro hcur F.1)
      clear hcur
      have hz0 := hh0
      have W0 := hw
      clear hh0
      go_wp2_with fail
      refine (markText_z (k + 3 * j) _ _ (by omega) (by omega) (by omega)).mono ?_
      rintro e w1 ⟨rfl, hb1⟩
      have F := F.below hb1 hz0
      have hz1 := Nat.le_trans hz0 hb1.size
      have W1 := W0.trans (Wr.of_below hb1)
      clear hz0 W0
      obtain ⟨v0, p0, q0, hl0, hh0, hst0⟩ := F.put (j := j * 3) (by omega)
      have F := hst0.out (.string (mT (k + 3 * j)))
      have hz2 : hi ≤ (w1.setCell ⟨b, off + j * 3, none⟩ (.string (mT (k + 3 * j)))).heap.size := by simpa using hz1
      have W2 := W1.trans (Wr.setCell (off := off + j * 3) w1 (.string (mT (k + 3 * j))) hl0 hh0)
      clear hz1 W1 hl0 hh0
      go_wp2_with fail
      refine (markText_z (k + 3 * j + 1) _ _ (by omega) (by omega) (by omega)).mono ?_
      rintro e w2 ⟨rfl, hb2⟩
      have F := F.below hb2 hz2
      have hz3 := Nat.le_trans hz2 hb2.size
      have W3 := W2.trans (Wr.of_below hb2)
      clear hz2 W2
      obtain ⟨v1, p1, q1, hl1, hh1, hst1⟩ := F.put (j := j * 3 + 1) (by omega)
      have ea1 : off + (j * 3 + 1) = off + j * 3 + 1 := by omega
      rw [ea1] at p1 q1 hst1
      clear ea1
      have F := hst1.out (.string (mT (k + 3 * j + 1)))
      have hz4 : hi ≤ (w2.setCell ⟨b, off + j * 3 + 1, none⟩ (.string (mT (k + 3 * j + 1)))).heap.size := by simpa using hz3
      have W4 := W3.trans (Wr.setCell (off := off + j * 3 + 1) w2 (.string (mT (k + 3 * j + 1))) hl1 hh1)
      clear hz3 W3 hl1 hh1
      obtain ⟨v2, p2, q2, hl2, hh2, hst2⟩ := F.put (j := j * 3 + 2) (by omega)
      have ea2 : off + (j * 3 + 2) = off + j * 3 + 2 := by omega
      rw [ea2] at p2 q2 hst2
      clear ea2
      have F := hst2.out (.int .i64 ((k : Int) + 3 * (j : Int) + 2))
      have hz5 : hi ≤ ((w2.setCell ⟨b, off + j * 3 + 1, none⟩ (.string (mT (k + 3 * j + 1)))).setCell ⟨b, off + j * 3 + 2, none⟩ (.int .i64 ((k : Int) + 3 * (j : Int) + 2))).heap.size := by simpa using hz4
      have W5 := W4.trans (Wr.setCell (off := off + j * 3 + 2) (w2.setCell ⟨b, off + j * 3 + 1, none⟩ (.string (mT (k + 3 * j + 1)))) (.int .i64 ((k : Int) + 3 * (j : Int) + 2)) hl2 hh2)
      clear hz4 W4 hl2 hh2
      have HX := hide (And.intro F (And.intro hz5 W5))
      clear F hz5 W5
      go_wp2
      go_roundw
      case rel =>
        refine ⟨j + 1, by omega, by go_num, by go_num, ⟨_, HX.out.1, ?_, HX.out.2.1⟩, HX.out.2.2⟩
        rw [take_setGrant (by rw [HCU.out.2]; omega), HCU.out.1, markGrantL, cK_snoc]
        simp [kGrant]
        try omega
      case measure => simp [intOf]; omega
    · have hjn : j = n := by omega
      subst hjn
      go_wp2
      go_ret
      obtain ⟨cur, hF, hcur, hhi2⟩ := HF.out
      rw [List.take_of_length_le (by rw [hF.1]; omega)] at hcur
      refine ⟨by simp, ⟨hcur ▸ hF, markGrantL_len _ _, markGrantL_fine (by omega)⟩, hw, hw.size⟩

set_option maxHeartbeats 2000000 in
theorem heldGrantS_calls (A : Option Addr) (n c : Nat) (k : Int) (w : World) (h : RdK kGrant w A n (markGrantL k.toNat n)) (hn : n ≤ 1048576) (hk : 1 ≤ k) (hk2 : k ≤ 1152921504606846976) :
    Calls Try.prog 41 #[.slice A n c, .int .i64 k] w fun e w' => e = .returned (.int .i64 (k + 3 * n)) ∧ Below w.heap.size w w' := by
  obtain ⟨k, rfl⟩ : ∃ k0 : Nat, k = (k0 : Int) := ⟨k.toNat, by omega⟩
  rw [Int.toNat_natCast] at h
  go_enter Try.func41, Try.ntmps41
  go_wp2
  go_loopw [1, 5] (fun q i wr => ∃ (j : Nat), j ≤ n ∧ i = .int .i64 j ∧ q = .int .i64 ((k : Int) + 3 * (j : Int)) ∧ Below w.heap.size w wr) (fun _ i _ => n - (intOf i).toNat)
  case atStart => exact ⟨0, Nat.zero_le _, rfl, by simp, Below.refl _ _⟩
  case round =>
    obtain ⟨j, hj, rfl, rfl, hb⟩ := hrel
    by_cases hlt : j < n
    · obtain ⟨b, off, f0, f1, f2, rfl, hbl, hx, hc0, hc1, hc2, pz0, pz1, pl2, ph2⟩ := RdK.atGrant (RdK.below h hb (Nat.le_refl _)) hlt
      have he := hx.out
      rw [markGrantL_at k hlt] at he
      simp only [Option.some.injEq, GrantZ.mk.injEq] at he
      obtain ⟨rfl, rfl, rfl⟩ := he
      clear hx pz0 pz1 pl2 ph2
      go_wp2
      go_region_held3 (fun w' => w'.cell? ⟨b, off + j * 3, none⟩ = some (.string (mT (k + 3 * j))) ∧ w'.cell? ⟨b, off + j * 3 + 1, none⟩ = some (.string (mT (k + 3 * j + 1))) ∧ w'.cell? ⟨b, off + j * 3 + 2, none⟩ = some (.int .i64 ((k : Int) + 3 * (j : Int) + 2)))
        (first | exact ⟨hc0, hc1, hc2⟩ | exact ⟨(hx1.cell (p := ⟨b, off + j * 3, none⟩) hbl).trans hc0, (hx1.cell (p := ⟨b, off + j * 3 + 1, none⟩) hbl).trans hc1, (hx1.cell (p := ⟨b, off + j * 3 + 2, none⟩) hbl).trans hc2⟩)
        (first | (go_at_call 67; refine (markText_z (k + 3 * j) _ _ (by omega) (by omega) (by omega)).mono ?_; rintro e w1 ⟨rfl, hx1⟩))
      have hc0 := (hx1.cell (p := ⟨b, off + j * 3, none⟩) hbl).trans hc0
      have hc1 := (hx1.cell (p := ⟨b, off + j * 3 + 1, none⟩) hbl).trans hc1
      have hc2 := (hx1.cell (p := ⟨b, off + j * 3 + 2, none⟩) hbl).trans hc2
      have hbl := Nat.lt_of_lt_of_le hbl hx1.size
      have hb := hb.drew.trans (hx1.mono hb.size)
      go_wp2
      go_region_held3 (fun w' => w'.cell? ⟨b, off + j * 3 + 1, none⟩ = some (.string (mT (k + 3 * j + 1))) ∧ w'.cell? ⟨b, off + j * 3 + 2, none⟩ = some (.int .i64 ((k : Int) + 3 * (j : Int) + 2)))
        (first | exact ⟨hc1, hc2⟩ | exact ⟨(hx2.cell (p := ⟨b, off + j * 3 + 1, none⟩) hbl).trans hc1, (hx2.cell (p := ⟨b, off + j * 3 + 2, none⟩) hbl).trans hc2⟩)
        (first | (go_at_call 67; refine (markText_z (k + 3 * j + 1) _ _ (by omega) (by omega) (by omega)).mono ?_; rintro e w2 ⟨rfl, hx2⟩))
      have hc1 := (hx2.cell (p := ⟨b, off + j * 3 + 1, none⟩) hbl).trans hc1
      have hc2 := (hx2.cell (p := ⟨b, off + j * 3 + 2, none⟩) hbl).trans hc2
      have hbl := Nat.lt_of_lt_of_le hbl hx2.size
      have hb := hb.drew.trans (hx2.mono hb.size)
      go_wp2
      go_roundw
      case rel => exact ⟨j + 1, by omega, by go_num, by go_num, hb⟩
      case measure => simp [intOf]; omega
    · have hjn : j = n := by omega
      subst hjn
      go_wp2
      go_ret
      exact ⟨by simp, hb⟩

end Go.Proofs.Ytidhbpnibgegdaa
