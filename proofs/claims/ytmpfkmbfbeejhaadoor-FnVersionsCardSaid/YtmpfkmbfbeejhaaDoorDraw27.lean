/- The draw of a state. -/
import Derived.Test.YtmpfkmbfbeejhaaDoorMg
import Derived.Deep.AppendLies
import Derived.Deep.Cut
import Derived.Test.YtmpfkmbfbeejhaaDoorNamesS
import Derived.Test.YtmpfkmbfbeejhaaDoorConfS
namespace Go.Proofs.YtmpfkmbfbeejhaaDoor
open Go.RowKit
set_option linter.unusedVariables false

theorem own_wrv {w w' : World} {base lo hi : Nat} {e : TypeId} {size : Nat} {v : Value} {n : Nat} {xs : List Value} (h : w.ownsRow base e size v n xs) (hw : Wr lo hi w w') (hd : hi ≤ base) : w'.ownsRow base e size v n xs := by
  refine ⟨h.1, ?_⟩
  rcases h.2 with hn | ⟨g, cap, cur, rfl, hbg, hgg, rest⟩
  · exact .inl hn
  · exact .inr ⟨g, cap, cur, rfl, hbg, by rw [hw.block g (Array.getElem?_eq_some_iff.1 hgg).1 (by omega)]; exact hgg, rest⟩
theorem Wr.thenB {lo hi B : Nat} {w w1 w2 : World} (h : Wr lo hi w w1) (hb : Below B w1 w2) (hB : w.heap.size ≤ B) : Wr lo hi w w2 :=
  ⟨hb.os.trans h.os, hb.tape.trans h.tape, hb.output.trans h.output, Nat.le_trans h.size hb.size, fun k hk hr => (hb.block k (by omega)).trans (h.block k hk hr)⟩
theorem Wr.cell {lo hi : Nat} {w w' : World} (h : Wr lo hi w w') {p : Addr} (h1 : p.block < w.heap.size) (h2 : p.block < lo ∨ hi ≤ p.block) : w'.cell? p = w.cell? p := by
  simp only [World.cell?, h.block p.block h1 h2]
/-- The five names lie in memory at block b. -/
def Names (w : World) (b m : Nat) : Prop := b < w.heap.size ∧ ∀ j, j < m → w.cell? ⟨b, j, none⟩ = some (.string (nmN j))
theorem Names.below {w w' : World} {b m B : Nat} (h : Names w b m) (hb : Below B w w') (hB : b < B) : Names w' b m := ⟨Nat.lt_of_lt_of_le h.1 hb.size, fun j hj => (hb.cell (p := ⟨b, j, none⟩) hB).trans (h.2 j hj)⟩
theorem Names.wr {w w' : World} {b m lo hi : Nat} (h : Names w b m) (hw : Wr lo hi w w') (hB : hi ≤ b) : Names w' b m := ⟨Nat.lt_of_lt_of_le h.1 hw.size, fun j hj => (hw.cell (p := ⟨b, j, none⟩) h.1 (.inr hB)).trans (h.2 j hj)⟩

/-- What drawing a state leaves. -/
def DrStPost (g : Nat) (A : Option Addr) (n c a : Nat) (w : World) (e : Ending) (w' : World) : Prop :=
  ∃ (A' : Option Addr) (m c' : Nat) (ss : List SetZ) (a' : Nat), e = .returned (.slice A' m c') ∧ w'.ownsRow w.heap.size 57 2 (.slice A' m c') m (cK kSetting ss) ∧ ss.length = m ∧ Sm ss ∧ a' ≤ a + 30 ∧ Src w' g A n c a' ∧ Wr g (g + 1) w w'

set_option maxHeartbeats 8000000 in
set_option maxRecDepth 100000 in
theorem l27DrawState_calls (g n c a : Nat) (A : Option Addr) (w : World) (h : Src w g A n c a) (ha : a ≤ 137438953472) :
    Calls Tryd.prog 22 #[.pointer (some ⟨g, 0, none⟩)] w (DrStPost g A n c a w) := by
  have hg := h.lt
  obtain ⟨w0, hw0⟩ : ∃ w0, w0 = w.alloc (.cells #[.string ⟨#[97]⟩, .string ⟨#[98]⟩, .string ⟨#[99]⟩, .string ⟨#[100]⟩, .string ⟨#[101]⟩] 9) := ⟨_, rfl⟩
  have hb0 : Below w.heap.size w w0 := by rw [hw0]; exact (Below.refl _ _).alloc (Nat.le_refl _) _
  have hz0 : w0.heap.size = w.heap.size + 1 := by rw [hw0]; simp
  have hN0 : Names w0 w.heap.size 5 := by
    refine ⟨by omega, fun j hj => ?_⟩
    rw [hw0]
    rcases (show j = 0 ∨ j = 1 ∨ j = 2 ∨ j = 3 ∨ j = 4 by omega) with rfl | rfl | rfl | rfl | rfl <;> simp [nmN]
  obtain ⟨w1, hw1⟩ : ∃ w1, w1 = w0.alloc (.cells #[] 57) := ⟨_, rfl⟩
  have hb1 : Below w0.heap.size w0 w1 := by rw [hw1]; exact (Below.refl _ _).alloc (Nat.le_refl _) _
  have hin := World.ownsRow_lit (base := w0.heap.size) (e := 57) (size := 2) w0 #[] 0 (Nat.le_refl _) (by simp) rfl
  rw [← hw1, hz0] at hin
  have HIN : Hid (w1.ownsRow (w.heap.size + 1) 57 2 (.slice (some ⟨w.heap.size + 1, 0, none⟩) 0 0) 0 (cK kSetting [])) := by simpa [Hid, cK] using hin
  have HN1 := hide (hN0.below hb1 (by omega))
  have HS1 := hide (h.below (hb0.trans (hb1.mono (show w.heap.size ≤ w0.heap.size by omega))) hg)
  have HW1 := hide (Wr.of_below (lo := g) (hi := g + 1) (hb0.trans (hb1.mono (show w.heap.size ≤ w0.heap.size by omega))))
  have HZ1 : Hid (w.heap.size + 1 ≤ w1.heap.size) := by unfold Hid; rw [← hz0]; exact hb1.size
  clear hin hN0 hb0 hb1 h
  go_enter Tryd.func22, Tryd.ntmps22
  go_wp2
  rw [← hw0, ← hz0, ← hw1]
  rw [hz0]
  clear hw0 hw1 hz0
  go_loopw [4, 5] (fun v i wr => ∃ (k m : Nat) (ss : List SetZ) (a' : Nat), k ≤ 5 ∧ i = .int .i64 k ∧ ss.length = m ∧ wr.ownsRow (w.heap.size + 1) 57 2 v m (cK kSetting ss) ∧ Hid (SmK k ss ∧ a' ≤ a + 4 * k ∧ Src wr g A n c a' ∧ Wr g (g + 1) w wr ∧ Names wr w.heap.size 5)) (fun _ i _ => 5 - (intOf i).toNat)
  case atStart => exact ⟨0, 0, [], a, by omega, rfl, rfl, HIN.out, ⟨List.Pairwise.nil, by simp⟩, by omega, HS1.out, HW1.out, HN1.out⟩
  case round =>
    clear HIN HS1 HW1 HN1 HZ1
    obtain ⟨k, m, ss, a', hk, rfl, hl, hown, HR⟩ := hrel
    have HO := hide hown
    have HL := hide hl
    have hm6 : m ≤ 6 := by rw [← hl]; exact (HR.out.1.sm (by omega)).len
    clear hown hl
    by_cases hlt : k < 5
    · have Q := hide (one_calls g n c a' A 2 wr HR.out.2.2.1 (by have := HR.out; omega) (by unfold I64; omega))
      go_wp2_with fail
      refine Q.out.mono ?_
      rintro e w2 ⟨bb, a2, rfl, ha2, s2, r2⟩
      have hO2 := own_wrv HO.out r2 (by omega)
      have hN2 := HR.out.2.2.2.2.wr r2 hg
      have hW2 := HR.out.2.2.2.1.trans r2
      have hz2 : w.heap.size < w2.heap.size := hN2.1
      have HA2 := hide (And.intro ha2 (And.intro s2 (And.intro hW2 hN2)))
      have HO2 := hide hO2
      clear ha2 s2 hW2 hN2 r2 Q hO2
      cases bb with
      | false =>
        go_wp2
        go_roundw
        case rel => exact ⟨k + 1, m, ss, a2, by omega, by go_num, HL.out, HO2.out, HR.out.1.mono, by have := HR.out; have := HA2.out; omega, HA2.out.2.1, HA2.out.2.2.1, HA2.out.2.2.2⟩
        case measure => simp [intOf]; omega
      | true =>
        have P := hide (pick_calls g n c a2 A 1001 w2.drew (HA2.out.2.1.keep fun _ _ => rfl) (by have := HR.out; have := HA2.out; omega) (by unfold I64; omega))
        have hn2 : w2.cell? ⟨w.heap.size, k, none⟩ = some (.string (nmN k)) := HA2.out.2.2.2.2 k hlt
        have HN2 := hide hn2
        obtain ⟨i0, hi0, hq0, hq1, hq2⟩ := info_parts Tryd.infoSetting
        have HI := hide (And.intro hi0 (And.intro hq0 (And.intro hq1 hq2)))
        have i1 : (0 : Int) ≤ (k : Int) := by omega
        have i2 : (k : Int) < 5 := by omega
        clear hi0 hq0 hq1 hq2 hn2
        go_wp2
        go_region_held3 (fun W => W.cell? ⟨w.heap.size, k, none⟩ = some (.string (nmN k)))
          (first | exact HN2.out | exact hk3.out | exact (World.cell?_alloc_lt _ _ ⟨w.heap.size, k, none⟩ hk3z).trans hk3.out | exact hk4.out)
          (first
            | (go_at_call 48; refine P.out.mono ?_; rintro e w3 ⟨x, a3, rfl, hx, ha3, s3, r3⟩; have hk3 : Hid (w3.cell? ⟨w.heap.size, k, none⟩ = some (.string (nmN k))) := (r3.cell (p := ⟨w.heap.size, k, none⟩) hz2 (.inr hg)).trans HN2.out; have hk3z : w.heap.size < w3.heap.size := Nat.lt_of_lt_of_le hz2 r3.size; have HA3 := hide (And.intro hx (And.intro ha3 (And.intro s3 (And.intro (HA2.out.2.2.1.trans (((Wr.refl g (g + 1) w2).drewN 1).trans r3)) (And.intro (own_wrv (own_drewN HO2.out 1) r3 (by omega)) (HA2.out.2.2.2.wr (((Wr.refl g (g + 1) w2).drewN 1).trans r3) hg)))))); clear hx ha3 s3 r3)
            | (refine step_append_lies _ (by rfl) _ _ _ (by rfl) (w.heap.size + 1) 57 i0 _ 2 24 Tryd.underlying26 HI.out.1 HI.out.2.1 HI.out.2.2.1 HI.out.2.2.2 rfl (by omega) u4 m (cK kSetting ss) (by rfl) (HA3.out.2.2.2.2.1.alloc _)
                ⟨w3.heap.size, 0, none⟩ 1 1 [.string (nmN k), .int .i64 (x : Int)] (by rfl) (by rfl) (World.news_of_block (cs := #[.string (nmN k), .int .i64 (x : Int)]) (t := 57) (fr := (0, 0)) (heap_alloc_new w3 _)) (by simp [Value.oneCell'])
                (by omega) (by unfold maxLen; omega) (by omega) (by simp; omega) (w3.heap.size + 1) (by simp) ?_; intro gg cap w4 hown4 hgrow hat hlt4; have hB4 : Below (w.heap.size + 1) w3 w4 := ((Below.refl (w.heap.size + 1) w3).alloc (by omega) _).grown hgrow (by simp; omega) (fun q hq => (HA3.out.2.2.2.2.1.lt q hq).1); have hk4 : Hid (w4.cell? ⟨w.heap.size, k, none⟩ = some (.string (nmN k))) := (hB4.cell (p := ⟨w.heap.size, k, none⟩) (Nat.lt_succ_self _)).trans hk3.out))
        all_goals go_wp2
        all_goals go_roundw
        case rel =>
          have hx1 : (x : Int) ≤ 1000 := by have := HA3.out.1; omega
          refine ⟨k + 1, m + 1, ss ++ [⟨nmN k, (x : Int)⟩], a3, by omega, by go_num, by rw [List.length_append, HL.out]; rfl, by simpa [cK, kSetting] using hown4, HR.out.1.snoc (by omega) (by omega) hx1, ?_, HA3.out.2.2.1.below hB4 (by omega), HA3.out.2.2.2.1.thenB hB4 (by omega), HA3.out.2.2.2.2.2.below hB4 (by omega)⟩
          have := HR.out; have := HA2.out; have := HA3.out; omega
        case measure => simp [intOf]; omega
    · have hk5 : k = 5 := by omega
      subst hk5
      obtain ⟨A9, c9, hv⟩ := own_slice HO.out
      have HV9 := hide hv
      clear hv
      go_wp2
      go_ret
      refine ⟨A9, m, c9, ss, a', congrArg Ending.returned HV9.out, ?_, HL.out, HR.out.1.sm (by omega), by have := HR.out; omega, HR.out.2.2.1, HR.out.2.2.2.1⟩
      rw [← HV9.out]
      exact own_mono HO.out (by omega)

theorem own_addr27 {w : World} {base : Nat} {e : TypeId} {size n : Nat} {v : Value} {xs : List Value} (h : w.ownsRow base e size v n xs) (hn : 1 ≤ n) : ∃ g c, v = .slice (some ⟨g, 0, none⟩) n c := by
  rcases h.2 with ⟨rfl, rfl⟩ | ⟨g, cap, cur, rfl, _⟩
  · omega
  · exact ⟨g, cap, rfl⟩
theorem rdS_take2 {w : World} {b off n m : Nat} {ss : List SetZ} (h : Rd w (some ⟨b, off, none⟩) n 2 (cK kSetting ss)) (hl : ss.length = n) (hm : m ≤ n) : Rd w (some ⟨b, off, none⟩) m 2 (cK kSetting (ss.take m)) := by
  refine ⟨by rw [cK_len]; simp [kSetting]; omega, fun h0 => ?_⟩
  obtain ⟨b', off', e, hb, hc⟩ := h.2 (by omega)
  refine ⟨b', off', e, hb, fun j u hj => hc j u ?_⟩
  have e1 : cK kSetting ss = cK kSetting (ss.take m) ++ cK kSetting (ss.drop m) := by rw [← cK_append, List.take_append_drop]
  rw [e1, List.getElem?_append_left (List.getElem?_eq_some_iff.1 hj).1]
  exact hj
theorem rdS_drop2 {w : World} {b off n m : Nat} {ss : List SetZ} (h : Rd w (some ⟨b, off, none⟩) n 2 (cK kSetting ss)) (hl : ss.length = n) (hm : m ≤ n) : Rd w (some ⟨b, off + m * 2, none⟩) (n - m) 2 (cK kSetting (ss.drop m)) := by
  refine ⟨by rw [cK_len]; simp [kSetting]; omega, fun h0 => ?_⟩
  obtain ⟨b', off', e, hb, hc⟩ := h.2 (by omega)
  obtain ⟨rfl, rfl⟩ : b = b' ∧ off = off' := by simpa using e
  refine ⟨b, _, rfl, hb, fun j u hj => ?_⟩
  rw [Nat.add_assoc]
  refine hc (m * 2 + j) u ?_
  have e1 : cK kSetting ss = cK kSetting (ss.take m) ++ cK kSetting (ss.drop m) := by rw [← cK_append, List.take_append_drop]
  have e2 : (cK kSetting (ss.take m)).length = m * 2 := by rw [cK_len]; simp [kSetting]; omega
  rw [e1, List.getElem?_append_right (by omega), e2, show m * 2 + j - m * 2 = j by omega]
  exact hj

set_option maxHeartbeats 8000000 in
set_option maxRecDepth 100000 in
theorem l27Changed_calls (g n c a : Nat) (A : Option Addr) (B : Option Addr) (l cb : Nat) (ss : List SetZ) (w : World) (h : Src w g A n c a) (ha : a ≤ 137438953472) (hr : RdS w B l ss) (hss : Sm ss) :
    Calls Tryd.prog 23 #[.pointer (some ⟨g, 0, none⟩), .slice B l cb] w (DrStPost g A n c a w) := by
  have hg := h.lt
  have hl := hr.2.1
  have hl6 := hss.len
  have hlit := World.ownsRow_lit (base := w.heap.size) (e := 57) (size := 2) w #[] 0 (Nat.le_refl _) (by simp) rfl
  have hba : Below w.heap.size w (w.alloc (.cells #[] 57)) := (Below.refl _ _).alloc (Nat.le_refl _) _
  have HO := hide (And.intro hlit (hr.1.below hba (Nat.le_refl _)))
  have HS := hide hss
  have HSR := hide h
  have HLL := hide hl
  clear hlit hss h hr
  go_enter Tryd.func23, Tryd.ntmps23
  go_upto_region 2 with (at_builtin; refine appsSetting rfl _ _ rfl w.heap.size (.slice (some ⟨w.heap.size, 0, none⟩) 0 0) 0 [] rfl HO.out.1 B l cb ss rfl HO.out.2 (by omega) (by simp) ?_; intro v3 w3 hown3 hb3 hz3)
  rw [Nat.zero_add, List.nil_append] at hown3
  obtain ⟨A3, c3, rfl⟩ := own_slice hown3
  have hB3 := hba.trans hb3
  obtain ⟨b6, hb6⟩ : ∃ b6, b6 = w3.heap.size := ⟨_, rfl⟩
  obtain ⟨w4, hw4⟩ : ∃ w4, w4 = w3.alloc (.cells #[.string ⟨#[97]⟩, .string ⟨#[98]⟩, .string ⟨#[99]⟩, .string ⟨#[100]⟩, .string ⟨#[101]⟩, .string ⟨#[102]⟩] 9) := ⟨_, rfl⟩
  have hb4 : Below w3.heap.size w3 w4 := by rw [hw4]; exact (Below.refl _ _).alloc (Nat.le_refl _) _
  have hz4 : w4.heap.size = w3.heap.size + 1 := by rw [hw4]; simp
  have hN4 : Names w4 b6 6 := by
    refine ⟨by omega, fun j hj => ?_⟩
    rw [hw4, hb6]
    rcases lt6 hj with rfl | rfl | rfl | rfl | rfl | rfl <;> simp [nmN]
  have hg6 : g + 1 ≤ b6 := by have := hB3.size; omega
  have HN4 := hide hN4
  have HO4 := hide (own_below hown3 hb4 (Nat.le_refl _))
  have hB4 := hB3.trans (hb4.mono hB3.size)
  have HS4 := hide (HSR.out.below hB4 hg)
  have HW4 := hide (Wr.of_below (lo := g) (hi := g + 1) hB4)
  have P := hide (pick_calls g n c a A 4 w4 HS4.out (by omega) (by unfold I64; omega))
  have hwz4 : w.heap.size ≤ w4.heap.size := hB4.size
  clear hown3 hb3 hb4 hN4 hba hB3 hB4 HO HSR
  go_wp2_with fail
  rw [← hb6, ← hw4]
  clear hw4 hb6 hz4 hz3
  refine P.out.mono ?_
  rintro e w5 ⟨r0, a5, rfl, hr0, ha5, s5, r5⟩
  have hr3 : r0 ≤ 3 := by omega
  have HO5 := hide (own_wrv HO4.out r5 (by omega))
  have HF5 := hide (And.intro ha5 (And.intro s5 (And.intro (HW4.out.trans r5) (HN4.out.wr r5 hg6))))
  clear hr0 ha5 s5 r5 P HO4 HS4 HW4 HN4
  go_wp2_with fail
  go_loopw [5, 7, 8, 9, 10] (fun v i _ _ _ wr => ∃ (r n' c' : Nat) (A' : Option Addr) (cur : List SetZ) (a' : Nat), r ≤ 3 ∧ i = .int .i64 r ∧ v = .slice A' n' c' ∧ cur.length = n' ∧ wr.ownsRow w.heap.size 57 2 (.slice A' n' c') n' (cK kSetting cur) ∧ Hid (Sm cur ∧ a' + 8 * r ≤ a + 26 ∧ Src wr g A n c a' ∧ Wr g (g + 1) w wr ∧ Names wr b6 6)) (fun _ i _ _ _ _ => (intOf i).toNat)
  case atStart => exact ⟨r0, l, c3, A3, ss, a5, hr3, rfl, rfl, HLL.out, HO5.out, HS.out, by have := HF5.out.1; omega, HF5.out.2.1, HF5.out.2.2.1, HF5.out.2.2.2⟩
  case round =>
    clear HO5 HF5
    obtain ⟨r, n', c', A', cur, a', hr, rfl, rfl, hcl, hown, HR⟩ := hrel
    have HO := hide hown
    have HL := hide hcl
    have hn6 : n' ≤ 6 := by rw [← hcl]; exact HR.out.1.len
    clear hown hcl
    by_cases hr1 : 0 < r
    · obtain ⟨r', rfl⟩ : ∃ r', r = r' + 1 := ⟨r - 1, by omega⟩
      have P := hide (pick_calls g n c a' A 6 wr HR.out.2.2.1 (by have := HR.out; omega) (by unfold I64; omega))
      go_wp2_with fail
      refine P.out.mono ?_
      rintro e w2 ⟨x, a2, rfl, hx, ha2, s2, r2⟩
      have hx6 : x < 6 := by omega
      have HO2 := hide (own_wrv HO.out r2 (by omega))
      have HW2 := hide (HR.out.2.2.2.1.trans r2)
      have HM2 := hide (HR.out.2.2.2.2.wr r2 hg6)
      have hnx : w2.cell? ⟨b6, x, none⟩ = some (.string (nmN x)) := HM2.out.2 x hx6
      have HA2 := hide (And.intro ha2 s2)
      have hrd := own_state HO2.out HL.out HR.out.1.fine
      have HAT := hide (l27At_calls A' n' c' cur (nmN x) w2 hrd (by omega))
      have i1 : (0 : Int) ≤ (x : Int) := by omega
      have i2 : (x : Int) < 6 := by omega
      clear hx ha2 s2 r2 P HO hrd
      go_wp2_with fail
      refine HAT.out.mono ?_
      rintro e w4 ⟨rr, rfl, hrr, rfl⟩
      clear hnx HAT
      rcases hrr with ⟨rfl, hnone⟩ | ⟨j, v0, rfl, hj⟩
      · clear hnone
        have PV := hide (pick_calls g n c a2 A 1001 w2 HA2.out.2 (by have := HR.out; have := HA2.out; omega) (by unfold I64; omega))
        go_wp2_with fail
        refine PV.out.mono ?_
        rintro e w6 ⟨y, a6, rfl, hy, ha6, s6, r6⟩
        have hy1 : (y : Int) ≤ 1000 := by omega
        have hO6 := own_wrv HO2.out r6 (by omega)
        have SE := hide (l27Set_calls A' n' c' cur (nmN x) (y : Int) w6 (own_state hO6 HL.out HR.out.1.fine) (by omega) HR.out.1.sorted)
        have HA6 := hide (And.intro ha6 (And.intro s6 (And.intro (HW2.out.trans r6) (HM2.out.wr r6 (by omega)))))
        clear ha6 s6 r6 PV hO6 hy
        go_wp2_with fail
        refine SE.out.mono ?_
        rintro e w7 ⟨v7, n7, rfl, hown7, hl7, hb7⟩
        have hsz6 := HA6.out.2.2.1.size
        have hm7 := own_mono hown7 hsz6
        obtain ⟨A7, c7, rfl⟩ := own_slice hm7
        have HO7 := hide hm7
        have HL7 := hide hl7
        have HF7 : Hid (Sm (setZ cur ⟨nmN x, (y : Int)⟩) ∧ Src w7 g A n c a6 ∧ Wr g (g + 1) w w7 ∧ Names w7 b6 6) := ⟨HR.out.1.set hx6 (by omega) hy1, HA6.out.2.1.below hb7 HA6.out.2.1.lt, HA6.out.2.2.1.thenB hb7 hsz6, HA6.out.2.2.2.below hb7 HA6.out.2.2.2.1⟩
        clear hown7 hm7 hl7 hb7 SE
        go_wp2
        go_roundw
        case rel => exact ⟨r', n7, c7, A7, _, a6, by omega, by go_num, rfl, HL7.out, HO7.out, HF7.out.1, by have := HR.out; have := HA2.out; have := HA6.out;  omega, HF7.out.2.1, HF7.out.2.2.1, HF7.out.2.2.2⟩
        case measure => first | (simp [intOf]; done) | (simp [intOf]; omega)
      · obtain ⟨hjl, hje⟩ := List.getElem?_eq_some_iff.1 hj
        have hjn : j < n' := by rw [← HL.out]; exact hjl
        have hj0 : (0 : Int) ≤ (j : Int) := by omega
        have Q := hide (one_calls g n c a2 A 2 w2 HA2.out.2 (by have := HR.out; have := HA2.out; omega) (by unfold I64; omega))
        clear hje hj hjl
        go_wp2_with fail
        refine Q.out.mono ?_
        rintro e w5 ⟨bb, a5, rfl, ha5, s5, r5⟩
        have HO5 := hide (own_wrv HO2.out r5 (by omega))
        have HW5 := hide (HW2.out.trans r5)
        have HM5 := hide (HM2.out.wr r5 hg6)
        have HA5 := hide (And.intro ha5 s5)
        clear ha5 s5 r5 Q HO2 HW2 HM2
        cases bb with
        | false =>
          have PV := hide (pick_calls g n c a5 A 1001 w5 HA5.out.2 (by have := HR.out; have := HA2.out; have := HA5.out; omega) (by unfold I64; omega))
          go_wp2_with fail
          refine PV.out.mono ?_
          rintro e w6 ⟨y, a6, rfl, hy, ha6, s6, r6⟩
          have hy1 : (y : Int) ≤ 1000 := by omega
          have hO6 := own_wrv HO5.out r6 (by omega)
          have SE := hide (l27Set_calls A' n' c' cur (nmN x) (y : Int) w6 (own_state hO6 HL.out HR.out.1.fine) (by omega) HR.out.1.sorted)
          have HA6 := hide (And.intro ha6 (And.intro s6 (And.intro (HW5.out.trans r6) (HM5.out.wr r6 (by omega)))))
          clear ha6 s6 r6 PV hO6 hy
          go_wp2_with fail
          refine SE.out.mono ?_
          rintro e w7 ⟨v7, n7, rfl, hown7, hl7, hb7⟩
          have hsz6 := HA6.out.2.2.1.size
          have hm7 := own_mono hown7 hsz6
          obtain ⟨A7, c7, rfl⟩ := own_slice hm7
          have HO7 := hide hm7
          have HL7 := hide hl7
          have HF7 : Hid (Sm (setZ cur ⟨nmN x, (y : Int)⟩) ∧ Src w7 g A n c a6 ∧ Wr g (g + 1) w w7 ∧ Names w7 b6 6) := ⟨HR.out.1.set hx6 (by omega) hy1, HA6.out.2.1.below hb7 HA6.out.2.1.lt, HA6.out.2.2.1.thenB hb7 hsz6, HA6.out.2.2.2.below hb7 HA6.out.2.2.2.1⟩
          clear hown7 hm7 hl7 hb7 SE
          go_wp2
          go_roundw
          case rel => exact ⟨r', n7, c7, A7, _, a6, by omega, by go_num, rfl, HL7.out, HO7.out, HF7.out.1, by have := HR.out; have := HA2.out; have := HA6.out; have := HA5.out; omega, HF7.out.2.1, HF7.out.2.2.1, HF7.out.2.2.2⟩
          case measure => first | (simp [intOf]; done) | (simp [intOf]; omega)
        | true =>
          obtain ⟨g2, c5, hA2⟩ := own_addr27 HO5.out (by omega)
          obtain ⟨rfl, rfl⟩ : A' = some ⟨g2, 0, none⟩ ∧ c' = c5 := by simpa using hA2
          have hcap := own_cap HO5.out
          have hrd := (own_state HO5.out HL.out HR.out.1.fine).1
          have HRD : Hid (Rd w5 (some ⟨g2, 0, none⟩) n' 2 (cK kSetting cur)) := hrd
          have hw5 := HW5.out.size
          have HDL := hide (HR.out.1.del j)
          have hjc1 : (j : Int) ≤ (c' : Int) := by omega
          have hjc2 : ¬ (c' = j) := by omega
          clear hA2 hrd
          go_upto_region 10 with (at_builtin; refine appsSetting rfl _ _ rfl w5.heap.size (.slice (some ⟨w5.heap.size, 0, none⟩) 0 0) 0 [] rfl (World.ownsRow_lit (base := w5.heap.size) (e := 57) (size := 2) _ #[] 0 (by simp) (by simp) rfl) (some ⟨g2, 0, none⟩) j c' (cur.take j) rfl (Rd.alloc (rdS_take2 HRD.out HL.out (by omega)) _) (by omega) (by simp) ?_; intro v6 w6 hown6 hb6 hz6)
          rw [Nat.zero_add, List.nil_append] at hown6
          have hb06 : Below w5.heap.size w5 w6 := ((Below.refl _ _).alloc (Nat.le_refl _) _).trans hb6
          have hrd6 := HRD.out.below hb06 (Nat.le_refl _)
          have hz06 := hb06.size
          by_cases hcj : c' = j + 1
          · obtain rfl : n' = j + 1 := by omega
            subst hcj
            have hdr : cur.drop (j + 1) = [] := List.drop_eq_nil_of_le (by rw [HL.out]; omega)
            go_wp2_with (at_builtin; refine appsSetting rfl _ _ rfl w5.heap.size v6 j (cur.take j) rfl hown6 (some ⟨g2, 0, none⟩) 0 0 [] (by first | rfl | (simp; rfl) | simp) Rd.nil (by omega) (by omega) ?_; intro v7 w7 hown7 hb7 hz7)
            rw [← hdr] at hown7
            have hB7 := hb06.trans hb7
            have hm7 := own_mono hown7 hw5
            obtain ⟨A7, c7, rfl⟩ := own_slice hm7
            have hl7 : (cur.take j ++ cur.drop (j + 1)).length = (j + 0) := by rw [List.length_append, List.length_take, List.length_drop, HL.out]; omega
            have HO7 := hide hm7
            have HF7 : Hid (Src w7 g A n c a5 ∧ Wr g (g + 1) w w7 ∧ Names w7 b6 6) := ⟨HA5.out.2.below hB7 HA5.out.2.lt, HW5.out.thenB hB7 hw5, HM5.out.below hB7 HM5.out.1⟩
            clear hown7 hm7
            go_wp2
            go_roundw
            case rel => exact ⟨r', (j + 0), c7, A7, _, a5, by omega, by go_num, rfl, hl7, HO7.out, HDL.out, by have := HR.out; have := HA2.out; have := HA5.out; omega, HF7.out.1, HF7.out.2.1, HF7.out.2.2⟩
            case measure => first | (simp [intOf]; done) | (simp [intOf]; omega)
          · have hd6 := rdS_drop2 (m := j + 1) hrd6 HL.out (by omega)
            rw [Nat.zero_add] at hd6
            go_wp2_with (at_builtin; refine appsSetting rfl _ _ rfl w5.heap.size v6 j (cur.take j) rfl hown6 (some ⟨g2, (j + 1) * 2, none⟩) (n' - (j + 1)) (c' - (j + 1)) (cur.drop (j + 1)) rfl hd6 (by omega) (by omega) ?_; intro v7 w7 hown7 hb7 hz7)
            have hB7 := hb06.trans hb7
            have hm7 := own_mono hown7 hw5
            obtain ⟨A7, c7, rfl⟩ := own_slice hm7
            have hl7 : (cur.take j ++ cur.drop (j + 1)).length = (j + (n' - (j + 1))) := by rw [List.length_append, List.length_take, List.length_drop, HL.out]; omega
            have HO7 := hide hm7
            have HF7 : Hid (Src w7 g A n c a5 ∧ Wr g (g + 1) w w7 ∧ Names w7 b6 6) := ⟨HA5.out.2.below hB7 HA5.out.2.lt, HW5.out.thenB hB7 hw5, HM5.out.below hB7 HM5.out.1⟩
            clear hown7 hm7
            go_wp2
            go_roundw
            case rel => exact ⟨r', (j + (n' - (j + 1))), c7, A7, _, a5, by omega, by go_num, rfl, hl7, HO7.out, HDL.out, by have := HR.out; have := HA2.out; have := HA5.out; omega, HF7.out.1, HF7.out.2.1, HF7.out.2.2⟩
            case measure => first | (simp [intOf]; done) | (simp [intOf]; omega)
    · have hr0 : r = 0 := by omega
      subst hr0
      go_wp2
      go_ret
      exact ⟨A', n', c', cur, a', rfl, HO.out, HL.out, HR.out.1, by have := HR.out; omega, HR.out.2.2.1, HR.out.2.2.2.1⟩

end Go.Proofs.YtmpfkmbfbeejhaaDoor
