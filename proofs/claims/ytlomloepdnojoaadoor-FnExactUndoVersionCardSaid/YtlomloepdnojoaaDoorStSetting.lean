/- The struct Setting: what its slices read as, and the laws' helpers on it. Printed by structgen.py. -/
import Derived.Test.YtlomloepdnojoaaDoorRows
import Derived.Test.YtlomloepdnojoaaDoorKind
import Derived.Test.YtlomloepdnojoaaDoorMarkT
import Derived.Test.YtlomloepdnojoaaDoorSet
import Derived.Deep.RegionHeld3
namespace Go.Proofs.YtlomloepdnojoaaDoor
open Go.RowKit
set_option linter.unusedVariables false

def kSetting : Kind SetZ := ⟨fun x => [.string x.name, .int .i64 x.value], 2, fun x => x.name.size ≤ 9223372036854775807 ∧ I64 x.value, fun _ => rfl, by
  intro x u hu
  simp only [List.mem_cons, List.not_mem_nil, or_false] at hu
  rcases hu with rfl | rfl <;> rfl⟩
abbrev RdSetting := RdK kSetting
abbrev FrSetting := FrK kSetting

theorem RdK.atSetting {w : World} {A : Option Addr} {n : Nat} {xs : List SetZ} {k : Nat} (h : RdK kSetting w A n xs) (hk : k < n) :
    ∃ b off f0 f1, A = some ⟨b, off, none⟩ ∧ b < w.heap.size ∧ Hid (xs[k]? = some ⟨f0, f1⟩) ∧ w.cell? ⟨b, off + k * 2, none⟩ = some (.string f0) ∧ w.cell? ⟨b, off + k * 2 + 1, none⟩ = some (.int .i64 f1) ∧ f0.size ≤ 9223372036854775807 ∧ -9223372036854775808 ≤ f1 ∧ f1 ≤ 9223372036854775807 := by
  obtain ⟨b, off, x, hA, hb, hx, hf, hc⟩ := h.atK hk
  exact ⟨b, off, _, _, hA, hb, hx, hc 0 _ rfl, hc 1 _ rfl, hf.1, hf.2.1, hf.2.2⟩

theorem appSetting {w : World} {ops : Array Oper} {rest : List Oper} {o : Oper} {a : Act} {Q : Exit → Act → World → Prop} (hgd : o.guard = none) (s x : Operand)
    (ho : o.op = .call { callee := .builtin .append, args := #[s, x], argTypes := #[58, 58] })
    (base : Nat) (v : Value) (n : Nat) (xs : List SetZ) (u : SetZ) (hs : a.eval s = v) (hown : w.ownsRow base 108 2 v n (cK kSetting xs)) (hx : a.eval x = .slice (some ⟨w.heap.size, 0, none⟩) 1 1)
    (hn : n ≤ 1099511627776) (hbase : base ≤ w.heap.size)
    (h : ∀ v' w', w'.ownsRow base 108 2 v' (n + 1) (cK kSetting (xs ++ [u])) → Below base w w' → w.heap.size ≤ w'.heap.size → wpList Tryd.prog ops Q rest (a.put o.dst v') w') : wpList Tryd.prog ops Q (o :: rest) a (w.alloc (.cells #[.string u.name, .int .i64 u.value] 108)) :=
  appK_gen kSetting hgd s x 58 ho base 108 (.agg #[.string ⟨#[]⟩, .int .i64 0]) 24 Tryd.underlying58 Tryd.infoSetting rfl (by decide) (by omega) v n xs u hs hown hx hn hbase h

theorem appsSetting {w : World} {ops : Array Oper} {rest : List Oper} {o : Oper} {a : Act} {Q : Exit → Act → World → Prop} (hgd : o.guard = none) (s x : Operand)
    (ho : o.op = .call { callee := .builtin .append, args := #[s, x], argTypes := #[58, 58] })
    (base : Nat) (v : Value) (n : Nat) (xs : List SetZ) (hs : a.eval s = v) (hown : w.ownsRow base 108 2 v n (cK kSetting xs))
    (Ax : Option Addr) (m cx : Nat) (ys : List SetZ) (hx : a.eval x = .slice Ax m cx) (hy : Rd w Ax m 2 (cK kSetting ys)) (hn : n + m ≤ 1099511627776) (hbase : base ≤ w.heap.size)
    (h : ∀ v' w', w'.ownsRow base 108 2 v' (n + m) (cK kSetting (xs ++ ys)) → Below base w w' → w.heap.size ≤ w'.heap.size → wpList Tryd.prog ops Q rest (a.put o.dst v') w') : wpList Tryd.prog ops Q (o :: rest) a w :=
  appKs_gen kSetting hgd s x 58 ho base 108 (.agg #[.string ⟨#[]⟩, .int .i64 0]) 24 Tryd.underlying58 Tryd.infoSetting rfl (by decide) (by omega) v n xs hs hown Ax m cx ys hx hy hn hbase h

theorem take_setSetting {l : List Value} {k : Nat} {u0 u1 : Value} (h : k * 2 + 1 < l.length) : (((l).set (k * 2) u0).set (k * 2 + 1) u1).take ((k + 1) * 2) = l.take (k * 2) ++ [u0, u1] := by
  have e : (k + 1) * 2 = k * 2 + 1 + 1 := by omega
  rw [e, take_set_snoc (by first | omega | (simp; omega)), take_set_snoc (by first | omega | (simp; omega))]
  simp

def markSettingL (k : Nat) : Nat → List SetZ
  | 0 => []
  | n + 1 => markSettingL k n ++ [⟨mT (k + 2 * n), (k : Int) + 2 * (n : Int) + 1⟩]
theorem markSettingL_len (k n : Nat) : (markSettingL k n).length = n := by
  induction n with
  | zero => rfl
  | succ n ih => simp [markSettingL, ih]
theorem markSettingL_at (k : Nat) {n i : Nat} (h : i < n) : (markSettingL k n)[i]? = some (⟨mT (k + 2 * i), (k : Int) + 2 * (i : Int) + 1⟩) := by
  induction n with
  | zero => omega
  | succ n ih =>
    rw [markSettingL, List.getElem?_append, markSettingL_len]
    split
    · exact ih (by omega)
    · have : i = n := by omega
      subst this
      simp
theorem markSettingL_fine {k n : Nat} (hk : k + 2 * n ≤ 4611686018427387904) : ∀ x ∈ markSettingL k n, kSetting.fine x := by
  intro x hx
  obtain ⟨i, hi⟩ := List.mem_iff_getElem?.1 hx
  have hl := (List.getElem?_eq_some_iff.1 hi).1
  rw [markSettingL_len] at hl
  rw [markSettingL_at k hl] at hi
  obtain rfl := Option.some.inj hi
  refine ⟨Nat.le_trans (mT_size _) (by omega), ⟨by simp only; omega, by simp only; omega⟩⟩

set_option maxHeartbeats 2000000 in
theorem markSettingS_calls (A : Option Addr) (n c : Nat) (lo hi : Nat) (xs : List SetZ) (k : Int) (w : World) (h : FrK kSetting w lo hi 108 A n xs) (hn : n ≤ 1048576) (hk : 1 ≤ k) (hk2 : k ≤ 1152921504606846976) (hhi : hi ≤ w.heap.size) :
    Calls Tryd.prog 62 #[.slice A n c, .int .i64 k] w fun e w' => e = .returned (.int .i64 (k + 2 * n)) ∧ FrK kSetting w' lo hi 108 A n (markSettingL k.toNat n) ∧ Wr lo hi w w' ∧ w.heap.size ≤ w'.heap.size := by
  obtain ⟨k, rfl⟩ : ∃ k0 : Nat, k = (k0 : Int) := ⟨k.toNat, by omega⟩
  have ek : (k : Int).toNat = k := Int.toNat_natCast k
  rw [ek]
  clear ek
  have h1 := hide h.1
  clear h
  go_enter Tryd.func62, Tryd.ntmps62
  go_wp2
  go_loopw [1, 5] (fun q i wr => ∃ (j : Nat), j ≤ n ∧ i = .int .i64 j ∧ q = .int .i64 ((k : Int) + 2 * (j : Int)) ∧ Hid (∃ cur : List Value, Fr wr lo hi 108 2 A n cur ∧ cur.take (j * 2) = cK kSetting (markSettingL k j) ∧ hi ≤ wr.heap.size) ∧ Wr lo hi w wr) (fun _ i _ => n - (intOf i).toNat)
  case atStart => exact ⟨0, Nat.zero_le _, rfl, by simp, ⟨_, h1.out, by simp [markSettingL, cK], hhi⟩, Wr.refl _ _ _⟩
  case round =>
    obtain ⟨j, hj, rfl, rfl, HF, hw⟩ := hrel
    by_cases hlt : j < n
    · obtain ⟨cur, F, hcur, hh0⟩ := HF.out
      obtain ⟨b, off, rfl⟩ := F.addr (by omega)
      have HCU := hide (And.intro hcur F.1)
      clear hcur
      have hz0 := hh0
      have W0 := hw
      clear hh0
      go_wp2_with fail
      refine (markText_z (k + 2 * j) _ _ (by omega) (by omega) (by omega)).mono ?_
      rintro e w1 ⟨rfl, hb1⟩
      have F := F.below hb1 hz0
      have hz1 := Nat.le_trans hz0 hb1.size
      have W1 := W0.trans (Wr.of_below hb1)
      clear hz0 W0
      obtain ⟨v0, p0, q0, hl0, hh0, hst0⟩ := F.put (j := j * 2) (by omega)
      have F := hst0.out (.string (mT (k + 2 * j)))
      have hz2 : hi ≤ (w1.setCell ⟨b, off + j * 2, none⟩ (.string (mT (k + 2 * j)))).heap.size := by simpa using hz1
      have W2 := W1.trans (Wr.setCell (off := off + j * 2) w1 (.string (mT (k + 2 * j))) hl0 hh0)
      clear hz1 W1 hl0 hh0
      obtain ⟨v1, p1, q1, hl1, hh1, hst1⟩ := F.put (j := j * 2 + 1) (by omega)
      have ea1 : off + (j * 2 + 1) = off + j * 2 + 1 := by omega
      rw [ea1] at p1 q1 hst1
      clear ea1
      have F := hst1.out (.int .i64 ((k : Int) + 2 * (j : Int) + 1))
      have hz3 : hi ≤ ((w1.setCell ⟨b, off + j * 2, none⟩ (.string (mT (k + 2 * j)))).setCell ⟨b, off + j * 2 + 1, none⟩ (.int .i64 ((k : Int) + 2 * (j : Int) + 1))).heap.size := by simpa using hz2
      have W3 := W2.trans (Wr.setCell (off := off + j * 2 + 1) (w1.setCell ⟨b, off + j * 2, none⟩ (.string (mT (k + 2 * j)))) (.int .i64 ((k : Int) + 2 * (j : Int) + 1)) hl1 hh1)
      clear hz2 W2 hl1 hh1
      have HX := hide (And.intro F (And.intro hz3 W3))
      clear F hz3 W3
      go_wp2
      go_roundw
      case rel =>
        refine ⟨j + 1, by omega, by go_num, by go_num, ⟨_, HX.out.1, ?_, HX.out.2.1⟩, HX.out.2.2⟩
        rw [take_setSetting (by rw [HCU.out.2]; omega), HCU.out.1, markSettingL, cK_snoc]
        simp [kSetting]
        try omega
      case measure => simp [intOf]; omega
    · have hjn : j = n := by omega
      subst hjn
      go_wp2
      go_ret
      obtain ⟨cur, hF, hcur, hhi2⟩ := HF.out
      rw [List.take_of_length_le (by rw [hF.1]; omega)] at hcur
      refine ⟨by simp, ⟨hcur ▸ hF, markSettingL_len _ _, markSettingL_fine (by omega)⟩, hw, hw.size⟩

set_option maxHeartbeats 2000000 in
theorem heldSettingS_calls (A : Option Addr) (n c : Nat) (k : Int) (w : World) (h : RdK kSetting w A n (markSettingL k.toNat n)) (hn : n ≤ 1048576) (hk : 1 ≤ k) (hk2 : k ≤ 1152921504606846976) :
    Calls Tryd.prog 63 #[.slice A n c, .int .i64 k] w fun e w' => e = .returned (.int .i64 (k + 2 * n)) ∧ Below w.heap.size w w' := by
  obtain ⟨k, rfl⟩ : ∃ k0 : Nat, k = (k0 : Int) := ⟨k.toNat, by omega⟩
  rw [Int.toNat_natCast] at h
  go_enter Tryd.func63, Tryd.ntmps63
  go_wp2
  go_loopw [1, 5] (fun q i wr => ∃ (j : Nat), j ≤ n ∧ i = .int .i64 j ∧ q = .int .i64 ((k : Int) + 2 * (j : Int)) ∧ Below w.heap.size w wr) (fun _ i _ => n - (intOf i).toNat)
  case atStart => exact ⟨0, Nat.zero_le _, rfl, by simp, Below.refl _ _⟩
  case round =>
    obtain ⟨j, hj, rfl, rfl, hb⟩ := hrel
    by_cases hlt : j < n
    · obtain ⟨b, off, f0, f1, rfl, hbl, hx, hc0, hc1, pz0, pl1, ph1⟩ := RdK.atSetting (RdK.below h hb (Nat.le_refl _)) hlt
      have he := hx.out
      rw [markSettingL_at k hlt] at he
      simp only [Option.some.injEq, SetZ.mk.injEq] at he
      obtain ⟨rfl, rfl⟩ := he
      clear hx pz0 pl1 ph1
      go_wp2
      go_region_held3 (fun w' => w'.cell? ⟨b, off + j * 2, none⟩ = some (.string (mT (k + 2 * j))) ∧ w'.cell? ⟨b, off + j * 2 + 1, none⟩ = some (.int .i64 ((k : Int) + 2 * (j : Int) + 1)))
        (first | exact ⟨hc0, hc1⟩ | exact ⟨(hx1.cell (p := ⟨b, off + j * 2, none⟩) hbl).trans hc0, (hx1.cell (p := ⟨b, off + j * 2 + 1, none⟩) hbl).trans hc1⟩)
        (first | (go_at_call 61; refine (markText_z (k + 2 * j) _ _ (by omega) (by omega) (by omega)).mono ?_; rintro e w1 ⟨rfl, hx1⟩))
      have hc0 := (hx1.cell (p := ⟨b, off + j * 2, none⟩) hbl).trans hc0
      have hc1 := (hx1.cell (p := ⟨b, off + j * 2 + 1, none⟩) hbl).trans hc1
      have hbl := Nat.lt_of_lt_of_le hbl hx1.size
      have hb := hb.drew.trans (hx1.mono hb.size)
      go_wp2
      go_roundw
      case rel => exact ⟨j + 1, by omega, by go_num, by go_num, hb⟩
      case measure => simp [intOf]; omega
    · have hjn : j = n := by omega
      subst hjn
      go_wp2
      go_ret
      exact ⟨by simp, hb⟩

end Go.Proofs.YtlomloepdnojoaaDoor
