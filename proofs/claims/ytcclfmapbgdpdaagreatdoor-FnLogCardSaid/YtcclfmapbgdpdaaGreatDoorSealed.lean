/- sealed of the program; l25Make, l25Broken of the reference. -/
import Derived.Test.YtcclfmapbgdpdaaGreatDoorLogI
import Derived.Test.YtcclfmapbgdpdaaGreatDoorEqLine
namespace Go.Proofs.YtcclfmapbgdpdaaGreatDoor
open Go.RowKit
set_option linter.unusedVariables false

theorem own_addrL {w : World} {base : Nat} {e : TypeId} {size n c : Nat} {A : Option Addr} {xs : List Value} (h : w.ownsRow base e size (.slice A n c) n xs) (hn : 1 ≤ n) : ∃ g, A = some ⟨g, 0, none⟩ ∧ base ≤ g := by
  rcases h.2 with ⟨hv, rfl⟩ | ⟨g, cap, cur, hv, hb, _⟩
  · omega
  · injection hv with hv
    exact ⟨g, hv, hb⟩
/-- The first k lines with their seals made anew, the others as they were. -/
def mixL (xs : List LineZ) (k : Nat) : List LineZ := madeZ (xs.take k) ++ xs.drop k
theorem mix_zero (xs : List LineZ) : mixL xs 0 = xs := by simp [mixL, madeZ, sealsZ]
theorem mix_end {xs : List LineZ} {n : Nat} (hl : xs.length = n) : mixL xs n = madeZ xs := by
  unfold mixL
  rw [List.take_of_length_le (by omega), List.drop_eq_nil_of_le (by omega), List.append_nil]
theorem mix_len {xs : List LineZ} {k : Nat} : (mixL xs k).length = xs.length := by
  unfold mixL
  rw [List.length_append, madeZ_len, List.length_take, List.length_drop]; omega
theorem mix_at {xs : List LineZ} {k : Nat} (hk : k ≤ xs.length) : (mixL xs k)[k]? = xs[k]? := by
  unfold mixL
  have hl : (madeZ (xs.take k)).length = k := by rw [madeZ_len, List.length_take]; omega
  rw [List.getElem?_append_right (by omega), hl, Nat.sub_self, List.getElem?_drop, Nat.add_zero]
theorem mix_fine {xs : List LineZ} {k : Nat} (h : ∀ x ∈ xs, kLine.fine x) : ∀ x ∈ mixL xs k, kLine.fine x := by
  intro x hx
  rcases List.mem_append.1 hx with hx | hx
  · exact made_fine (fun y hy => h y (List.mem_of_mem_take hy)) x hx
  · exact h x (List.mem_of_mem_drop hx)
theorem mix_set {xs : List LineZ} {k : Nat} {x : LineZ} (h : xs[k]? = some x) : (cK kLine (mixL xs k)).set (k * 4 + 3) (.int .i64 (sealF 65535 (xs.take (k + 1)) : Nat)) = cK kLine (mixL xs (k + 1)) := by
  obtain ⟨hk, he⟩ := List.getElem?_eq_some_iff.1 h
  have hl : (cK kLine (madeZ (xs.take k))).length = k * 4 := by rw [cK_len, madeZ_len, List.length_take, Nat.min_eq_left (Nat.le_of_lt hk)]; rfl
  have e1 : xs.drop k = x :: xs.drop (k + 1) := by rw [← List.getElem_cons_drop (h := hk), he]
  unfold mixL
  rw [made_snoc h, cK_append, e1, List.set_append_right _ _ (by omega), hl, cK_append, cK_append, List.append_assoc]
  congr 1
  rw [show k * 4 + 3 - k * 4 = 3 by omega]
  obtain ⟨d, m, t, c⟩ := x
  rfl

/-- What a sealing leaves: a row of the call's own. -/
def MadePost (xs : List LineZ) (n : Nat) (w : World) (e : Ending) (w' : World) : Prop :=
  ∃ A' c', e = .returned (.slice A' n c') ∧ w'.ownsRow w.heap.size 48 4 (.slice A' n c') n (cK kLine (madeZ xs)) ∧ Below w.heap.size w w'

set_option maxRecDepth 100000 in
set_option maxHeartbeats 4000000 in
theorem sealed_calls (A : Option Addr) (n c : Nat) (xs : List LineZ) (w : World) (h : RdK kLine w A n xs) (hn : n ≤ 1048576) (hp : TabP w) (hs : ShortL xs) :
    Calls Tryz.prog 94 #[.slice A n c] w (MadePost xs n w) := by
  have HL := hide h.2.1
  have HFI := hide h.2.2
  have HP := hide hp
  have HS := hide hs
  have HM := hide (cloneLine_calls A n c xs w h hn)
  clear hp hs h
  go_enter Tryz.func94, Tryz.ntmps94
  go_wp2_with fail
  refine HM.out.mono ?_
  rintro e w1 ⟨A1, c1, rfl, hown1, _, hb1⟩
  have HO1 := hide hown1
  clear hown1 HM
  go_wp2
  go_loopw [4, 11] (fun q i wr => ∃ (k s : Nat), k ≤ n ∧ i = .int .i64 k ∧ q = .int .i64 s ∧ s < 65536 ∧ Hid (sealF 65535 (xs.take k) = s) ∧ Hid (wr.ownsRow w.heap.size 48 4 (.slice A1 n c1) n (cK kLine (mixL xs k))) ∧ Below w.heap.size w wr) (fun _ i _ => n - (intOf i).toNat)
  case atStart => exact ⟨0, 65535, Nat.zero_le _, rfl, rfl, by omega, rfl, by rw [mix_zero]; exact HO1.out, hb1⟩
  case round =>
    clear HO1 hb1
    obtain ⟨k, s, hk, rfl, rfl, hs6, HC, HO, hb⟩ := hrel
    by_cases hlt : k < n
    · obtain ⟨g, rfl, hgb⟩ := own_addrL HO.out (by omega)
      obtain ⟨b, off, f0, f1, f2, f3, hA, hbl, hx, hc0, hc1, hc2, hc3, hs0, hs1, hs2, hs3, hs4, hs5, hs6'⟩ := (RdK.of_own (K := kLine) HO.out (mix_len.trans HL.out) (mix_fine HFI.out)).atLine hlt
      obtain ⟨rfl, rfl⟩ : g = b ∧ 0 = off := by injection hA with hA; injection hA; exact ⟨‹_›, ‹_›⟩
      clear hA
      simp only [Nat.zero_add] at hc0 hc1 hc2 hc3
      have hxk : Hid (xs[k]? = some ⟨f0, f1, f2, f3⟩) := by have := hx.out; rw [mix_at (by have := HL.out; omega)] at this; exact this
      have hts := HS.out _ (List.mem_of_getElem? hxk.out)
      simp only at hts
      have HB0 : Hid (Below wr.heap.size wr (wr.alloc (.cells #[.int .i64 f0, .int .i64 f1, .string f2, .int .i64 f3] 48))) := (Below.refl _ _).alloc (Nat.le_refl _) _
      have HM := hide (sealBehind_calls s f0 f1 f2 f3 (wr.alloc (.cells #[.int .i64 f0, .int .i64 f1, .string f2, .int .i64 f3] 48)) ((HP.out.below hb (Nat.le_refl _)).here HB0.out) ⟨hs0, hs1⟩ ⟨hs2, hs3⟩ (by omega) hs6)
      have HSE : Hid (sealF 65535 (xs.take (k + 1)) = sealZ s f0 f1 f2) := by unfold Hid; rw [sealF_at hxk.out, HC.out]
      have hlt6 := sealZ_lt f0 f1 f2 hs6
      clear hx
      go_wp2_with fail
      refine HM.out.mono ?_
      rintro e w2 ⟨rfl, hb2⟩
      have hb02 := HB0.out.trans (hb2.mono (by simp))
      have HO2 := hide (own_below HO.out hb02 (Nat.le_refl _))
      have hz2 := hb02.size
      obtain ⟨v0, p0, q0, hst⟩ := own_store (k := k * 4 + 3) HO2.out (by omega)
      have HST : Hid ((w2.setCell ⟨g, k * 4 + 3, none⟩ (.int .i64 (sealZ s f0 f1 f2 : Nat))).ownsRow w.heap.size 48 4 (.slice (some ⟨g, 0, none⟩) n c1) n (cK kLine (mixL xs (k + 1)))) := by
        have := hst.out (.int .i64 (sealZ s f0 f1 f2 : Nat))
        rw [← HSE.out, mix_set hxk.out, HSE.out] at this
        exact this
      have hbn := hb.trans (hb02.mono hb.size)
      clear hst hc0 hc1 hc2 hc3
      generalize sealZ s f0 f1 f2 = z at *
      go_wp2
      go_roundw
      case rel => exact ⟨k + 1, z, by omega, by go_num, rfl, hlt6, HSE.out, HST, hbn.setCell hgb _⟩
      case measure => simp [intOf]; omega
    · have hkn : k = n := by omega
      subst hkn
      have HE := hide (mix_end HL.out)
      go_wp2
      go_ret
      exact ⟨A1, c1, rfl, by rw [← HE.out]; exact HO.out, hb⟩

set_option maxRecDepth 100000 in
set_option maxHeartbeats 4000000 in
theorem l25Make_calls (A : Option Addr) (n c : Nat) (xs : List LineZ) (w : World) (h : RdK kLine w A n xs) (hn : n ≤ 1048576) (hs : ShortL xs) :
    Calls Tryz.prog 167 #[.slice A n c] w (MadePost xs n w) := by
  have HL := hide h.2.1
  have HFI := hide h.2.2
  have HS := hide hs
  have hlit := World.ownsRow_lit (base := w.heap.size) (e := 48) (size := 4) w #[] 0 (Nat.le_refl _) (by simp) rfl
  have hba : Below w.heap.size w (w.alloc (.cells #[] 48)) := (Below.refl _ _).alloc (Nat.le_refl _) _
  have HO0 := hide (And.intro hlit (And.intro (h.1.below hba (Nat.le_refl _)) hba))
  clear hlit h hba hs
  go_enter Tryz.func167, Tryz.ntmps167
  go_upto_region 2 with (at_builtin; refine appsLine rfl _ _ rfl w.heap.size (.slice (some ⟨w.heap.size, 0, none⟩) 0 0) 0 [] rfl HO0.out.1 A n c xs rfl HO0.out.2.1 (by omega) (by simp) ?_; intro v4 w4 hown4 hb4 hz4)
  rw [Nat.zero_add, List.nil_append] at hown4
  obtain ⟨A1, c1, rfl⟩ := own_slice hown4
  have hb1 := HO0.out.2.2.trans hb4
  have HO1 := hide hown4
  clear hown4 hb4 hz4
  go_wp2
  go_loopw [4, 5] (fun q i wr => ∃ (k s : Nat), k ≤ n ∧ i = .int .i64 k ∧ q = .int .i64 s ∧ s < 65536 ∧ Hid (sealF 65535 (xs.take k) = s) ∧ Hid (wr.ownsRow w.heap.size 48 4 (.slice A1 n c1) n (cK kLine (mixL xs k))) ∧ Below w.heap.size w wr) (fun _ i _ => n - (intOf i).toNat)
  case atStart => exact ⟨0, 65535, Nat.zero_le _, rfl, rfl, by omega, rfl, by rw [mix_zero]; exact HO1.out, hb1⟩
  case round =>
    clear HO1 hb1 HO0
    obtain ⟨k, s, hk, rfl, rfl, hs6, HC, HO, hb⟩ := hrel
    by_cases hlt : k < n
    · obtain ⟨g, rfl, hgb⟩ := own_addrL HO.out (by omega)
      obtain ⟨b, off, f0, f1, f2, f3, hA, hbl, hx, hc0, hc1, hc2, hc3, hs0, hs1, hs2, hs3, hs4, hs5, hs6'⟩ := (RdK.of_own (K := kLine) HO.out (mix_len.trans HL.out) (mix_fine HFI.out)).atLine hlt
      obtain ⟨rfl, rfl⟩ : g = b ∧ 0 = off := by injection hA with hA; injection hA; exact ⟨‹_›, ‹_›⟩
      clear hA
      simp only [Nat.zero_add] at hc0 hc1 hc2 hc3
      have hxk : Hid (xs[k]? = some ⟨f0, f1, f2, f3⟩) := by have := hx.out; rw [mix_at (by have := HL.out; omega)] at this; exact this
      have hts := HS.out _ (List.mem_of_getElem? hxk.out)
      simp only at hts
      have HM : Hid (∀ W, Calls Tryz.prog 211 #[.int .i64 (s : Int), .int .i64 f0, .int .i64 f1, .string f2] W fun e w' => e = .returned (.int .i64 (sealZ s f0 f1 f2 : Nat)) ∧ Below W.heap.size W w') := fun W => l25Seal_calls s f0 f1 f2 W ⟨hs0, hs1⟩ ⟨hs2, hs3⟩ (by omega) hs6
      have HSE : Hid (sealF 65535 (xs.take (k + 1)) = sealZ s f0 f1 f2) := by unfold Hid; rw [sealF_at hxk.out, HC.out]
      have hlt6 := sealZ_lt f0 f1 f2 hs6
      have hi1 : (0 : Int) ≤ (k : Int) := by omega
      have hi2 : (k : Int) < (n : Int) := by omega
      clear hx
      generalize sealZ s f0 f1 f2 = z at *
      go_wp2
      go_region_held3 (fun w' => w'.cell? ⟨g, k * 4, none⟩ = some (.int .i64 f0) ∧ w'.cell? ⟨g, k * 4 + 1, none⟩ = some (.int .i64 f1) ∧ w'.cell? ⟨g, k * 4 + 2, none⟩ = some (.string f2))
        (first | exact ⟨hc0, hc1, hc2⟩ | exact ⟨(hb2.cell (p := ⟨g, k * 4, none⟩) hbl).trans hc0, (hb2.cell (p := ⟨g, k * 4 + 1, none⟩) hbl).trans hc1, (hb2.cell (p := ⟨g, k * 4 + 2, none⟩) hbl).trans hc2⟩)
        (first | (go_at_call 211; refine (HM.out _).mono ?_; rintro e w2 ⟨rfl, hb2⟩))
      have hb02 : Below wr.heap.size wr w2 := (Below.refl _ wr).drew.trans hb2
      have HO2 := hide (own_below HO.out hb02 (Nat.le_refl _))
      have hz2 := hb02.size
      obtain ⟨v0, p0, q0, hst⟩ := own_store (k := k * 4 + 3) HO2.out (by omega)
      have HST : Hid ((w2.setCell ⟨g, k * 4 + 3, none⟩ (.int .i64 (z : Nat))).ownsRow w.heap.size 48 4 (.slice (some ⟨g, 0, none⟩) n c1) n (cK kLine (mixL xs (k + 1)))) := by
        have := hst.out (.int .i64 (z : Nat))
        rw [← HSE.out, mix_set hxk.out, HSE.out] at this
        exact this
      have hbn := hb.trans (hb02.mono hb.size)
      clear hst hc0 hc1 hc2 hc3
      go_wp2
      go_roundw
      case rel => exact ⟨k + 1, z, by omega, by go_num, rfl, hlt6, HSE.out, HST, hbn.setCell hgb _⟩
      case measure => simp [intOf]; omega
    · have hkn : k = n := by omega
      subst hkn
      have HE := hide (mix_end HL.out)
      go_wp2
      go_ret
      exact ⟨A1, c1, rfl, by rw [← HE.out]; exact HO.out, hb⟩

set_option maxRecDepth 100000 in
set_option maxHeartbeats 4000000 in
theorem l25Broken_calls (A : Option Addr) (n c : Nat) (xs : List LineZ) (w : World) (h : RdK kLine w A n xs) (hn : n ≤ 1048576) (hs : ShortL xs) :
    Calls Tryz.prog 171 #[.slice A n c] w fun e w' => e = .returned (.int .i64 (brokenI xs)) ∧ Below w.heap.size w w' := by
  have HL := hide h.2.1
  have HS := hide hs
  clear hs
  go_enter Tryz.func171, Tryz.ntmps171
  go_wp2
  go_loopw [3, 4] (fun q i wr => ∃ (k s : Nat), k ≤ n ∧ i = .int .i64 k ∧ q = .int .i64 s ∧ s < 65536 ∧ Hid (sealF 65535 (xs.take k) = s ∧ OkTo xs k) ∧ Below w.heap.size w wr) (fun _ i _ => n - (intOf i).toNat)
  case atStart => exact ⟨0, 65535, Nat.zero_le _, rfl, rfl, by omega, ⟨rfl, fun j hj => absurd hj (by omega)⟩, Below.refl _ _⟩
  case round =>
    obtain ⟨k, s, hk, rfl, rfl, hs6, HC, hb⟩ := hrel
    by_cases hlt : k < n
    · obtain ⟨b, off, f0, f1, f2, f3, rfl, hbl, hx, hc0, hc1, hc2, hc3, hs0, hs1, hs2, hs3, hs4, hs5, hs6'⟩ := (h.below hb (Nat.le_refl _)).atLine hlt
      have hts := HS.out _ (List.mem_of_getElem? hx.out)
      simp only at hts
      obtain ⟨W1, hW1⟩ : ∃ W1, W1 = wr.alloc (.cells #[.int .i64 f0, .int .i64 f1, .string f2, .int .i64 f3] 48) := ⟨_, rfl⟩
      have hb1 : Below wr.heap.size wr W1 := by rw [hW1]; exact (Below.refl _ _).alloc (Nat.le_refl _) _
      have e3 : W1.cell? ⟨wr.heap.size, 3, none⟩ = some (.int .i64 f3) := by rw [hW1]; simp
      have hz1 : wr.heap.size < W1.heap.size := by rw [hW1]; simp
      have HM := hide (l25Seal_calls s f0 f1 f2 W1 ⟨hs0, hs1⟩ ⟨hs2, hs3⟩ (by omega) hs6)
      have HSE : Hid (sealF 65535 (xs.take (k + 1)) = sealZ s f0 f1 f2) := by unfold Hid; rw [sealF_at hx.out, HC.out.1]
      have hlt6 := sealZ_lt f0 f1 f2 hs6
      generalize sealZ s f0 f1 f2 = z at *
      have HK : Hid (okAt xs k = decide ((z : Int) = f3)) := by unfold Hid; rw [okAt_at hx.out, HSE.out]
      have hbn := hb.trans (hb1.mono hb.size)
      by_cases hq : (z : Int) = f3
      · have HN : Hid (OkTo xs (k + 1)) := upto_snocL HC.out.2 (by rw [HK.out]; simpa using hq)
        have d1 : ((z : Int) != f3) = false := by simpa using hq
        clear hq
        go_wp2_with fail
        rw [← hW1]
        clear hW1
        refine HM.out.mono ?_
        rintro e w2 ⟨rfl, hb2⟩
        have e4 := (hb2.cell (p := ⟨wr.heap.size, 3, none⟩) hz1).trans e3
        go_wp2
        go_roundw
        case rel => exact ⟨k + 1, z, by omega, by go_num, rfl, hlt6, ⟨HSE.out, HN.out⟩, hbn.trans (hb2.mono hbn.size)⟩
        case measure => simp [intOf]; omega
      · have HN := hide (broken_here HC.out.2 (by have := HL.out; omega) (by rw [HK.out]; simpa using hq))
        have d1 : ((z : Int) != f3) = true := by simpa using hq
        clear hq
        go_wp2_with fail
        rw [← hW1]
        clear hW1
        refine HM.out.mono ?_
        rintro e w2 ⟨rfl, hb2⟩
        have e4 := (hb2.cell (p := ⟨wr.heap.size, 3, none⟩) hz1).trans e3
        go_wp2
        go_ret
        exact ⟨ret_int HN.out.symm, hbn.trans (hb2.mono hbn.size)⟩
    · have hkn : k = n := by omega
      subst hkn
      have HN := hide (broken_none HL.out HC.out.2)
      go_wp2
      go_ret
      exact ⟨ret_int HN.out.symm, hb⟩

end Go.Proofs.YtcclfmapbgdpdaaGreatDoor
