/- strings.Split, l01Split: the parts of a text between blanks; isText, l25Text. -/
import Derived.Test.YtcclfmapbgdpdaaGreatDoorText
import Derived.Test.YtcclfmapbgdpdaaGreatDoorShelf
import Derived.Test.YtcclfmapbgdpdaaGreatDoorMg
import Derived.Test.YtcclfmapbgdpdaaGreatDoorIdxB
namespace Go.Proofs.YtcclfmapbgdpdaaGreatDoor
open Go.RowKit
set_option linter.unusedVariables false

theorem own_cells {w : World} {base g n c : Nat} {e : TypeId} {size : Nat} {xs cur : List Value} (hb : base ≤ g) (hg : w.heap[g]? = some (.cells cur.toArray e (0, 0))) (h1 : n ≤ c) (h2 : c ≤ maxLen) (h3 : cur.length = c * size) (hx : cur.take (n * size) = xs) (hl : xs.length = n * size) : w.ownsRow base e size (.slice (some ⟨g, 0, none⟩) n c) n xs :=
  ⟨hl, .inr ⟨g, c, cur.toArray, rfl, hb, hg, h1, h2, by simpa using h3, by simpa using hx⟩⟩
/-- What a splitter leaves: a row of the call's own. -/
def PartsPost (xs : List ByteArray) (w : World) (e : Ending) (w' : World) : Prop :=
  ∃ A' n' c', e = .returned (.slice A' n' c') ∧ w'.ownsRow w.heap.size 9 1 (.slice A' n' c') n' (cK kB xs) ∧ xs.length = n' ∧ Below w.heap.size w w'

theorem split_calls (s : ByteArray) (w : World) (hm : TabM w) (hs : s.size ≤ 1048576) :
    Calls Tryz.prog 77 #[.string s, .string ⟨#[32]⟩] w (PartsPost (splitS 32 s) w) := by
  obtain ⟨m, hm⟩ := hm
  refine (Tryz.strings_Split s ⟨#[32]⟩ m w (by omega) hm (by decide)).mono ?_
  rintro e w' ⟨rfl, rfl⟩
  have hl := splitS_len 32 s
  refine ⟨_, _, _, rfl, ?_, hl, (Below.refl _ _).alloc (Nat.le_refl _) _⟩
  rw [splitB_S, cK_kB]
  exact own_cells (cur := (splitS 32 s).map Value.string) (Nat.le_refl _) (heap_alloc_new w _) (Nat.le_refl _) (by have := splitS_le 32 s; unfold maxLen; omega) (by simp [hl]) (by rw [Nat.mul_one, List.take_of_length_le (by simp [hl])]) (by simp [hl])

set_option maxHeartbeats 4000000 in
theorem l01Split_calls (s : ByteArray) (c : UInt8) (w : World) (hs : s.size ≤ 1048576) :
    Calls Tryz.prog 281 #[.string s, .int .u8 (c.toNat : Int)] w (PartsPost (splitS c s) w) := by
  have hlit := World.ownsRow_lit (base := w.heap.size) (e := 9) (size := 1) w #[] 0 (Nat.le_refl _) (by simp) rfl
  have B0 : Below w.heap.size w (w.alloc (.cells #[] 9)) := (Below.refl _ _).alloc (Nat.le_refl _) _
  have HH := hide (And.intro hlit B0)
  have HS0 := hide (splitAt_start c s)
  clear hlit B0
  go_enter Tryz.func281, Tryz.ntmps281
  go_wp2
  go_loopw [5, 6, 7] (fun out f i wr => ∃ (k m fr : Nat) (done : List ByteArray), k ≤ s.size ∧ i = .int .i64 k ∧ f = .int .i64 fr ∧ fr ≤ k ∧ m ≤ k ∧ wr.ownsRow w.heap.size 9 1 out m (cK kB done) ∧ Hid (SplitAt c s done fr k ∧ done.length = m) ∧ Below w.heap.size w wr) (fun _ _ i _ => s.size - (intOf i).toNat)
  case atStart => exact ⟨0, 0, 0, [], Nat.zero_le _, rfl, rfl, Nat.le_refl _, Nat.le_refl _, by simpa [cK] using HH.out.1, ⟨HS0.out, rfl⟩, HH.out.2⟩
  case round =>
    obtain ⟨k, m, fr, done, hk, rfl, rfl, hfr, hmk, hown, HI, hb⟩ := hrel
    have HO := hide hown
    clear hown
    have hsz := hb.size
    by_cases hlt : k < s.size
    · obtain ⟨b, hsc, hx⟩ := bs_at s hlt
      by_cases hbc : b = c
      · have HN := hide (And.intro (splitAt_sep HI.out.1 (hbc ▸ hx.out)) HI.out.2)
        subst hbc
        go_wp2_with (at_builtin; refine appB rfl _ _ rfl w.heap.size u5 m done (s.extract fr k) rfl HO.out (by first | rfl | (simp; rfl)) (by omega) (by omega) ?_; intro v' w4 hown4 hb4 hz4)
        go_roundw
        case rel => exact ⟨k + 1, m + 1, k + 1, done ++ [s.extract fr k], by omega, by go_num, by go_num, Nat.le_refl _, by omega, hown4, ⟨HN.out.1, by rw [List.length_append, HN.out.2]; rfl⟩, hb.trans hb4⟩
        case measure => simp [intOf]; omega
      · have HN := hide (And.intro (splitAt_other HI.out.1 hx.out hbc) HI.out.2)
        have hne : ((b.toNat : Int) == (c.toNat : Int)) = false := by
          simp only [beq_eq_false_iff_ne, ne_eq]
          intro e
          exact hbc (UInt8.toNat_inj.1 (by omega))
        clear hbc
        go_wp2
        go_roundw
        case rel => exact ⟨k + 1, m, fr, done, by omega, by go_num, rfl, by omega, by omega, HO.out, HN.out, hb⟩
        case measure => simp [intOf]; omega
    · have hkn : k = s.size := by omega
      subst hkn
      have HN := hide (splitAt_end HI.out.1)
      have HL := hide HI.out.2
      clear HI
      go_wp2_with (at_builtin; refine appB rfl _ _ rfl w.heap.size u5 m done (s.extract fr s.size) rfl HO.out (by first | rfl | (simp; rfl)) (by omega) (by omega) ?_; intro v' w4 hown4 hb4 hz4)
      obtain ⟨A4, c4, rfl⟩ := own_slice hown4
      go_ret
      exact ⟨A4, m + 1, c4, rfl, by rw [HN.out]; exact hown4, by rw [HN.out, List.length_append, HL.out]; rfl, hb.trans hb4⟩

theorem isText1_calls (s : ByteArray) (w : World) (hs : s.size ≤ 1048576) : Calls Tryz.prog 169 #[.string s] w fun e w' => e = .returned (.bool (!wordB s)) ∧ Below w.heap.size w w' := by
  have HM := hide (isWord_calls s w hs)
  go_enter Tryz.func169, Tryz.ntmps169
  go_wp2_with fail
  refine HM.out.mono ?_
  rintro e w1 ⟨rfl, hb⟩
  go_wp2
  go_ret
  exact ⟨rfl, hb⟩

theorem text_any {s : ByteArray} (h : s.size ≤ 40) : textB s = !(splitS 32 s).any (fun x => !wordB x) := by
  rw [text_mid h, List.not_any_eq_all_not]
  simp
set_option maxHeartbeats 1000000 in
theorem isText_calls (s : ByteArray) (w : World) (hm : TabM w) (hs : s.size ≤ 1048576) : Calls Tryz.prog 92 #[.string s] w fun e w' => e = .returned (.bool (textB s)) ∧ Below w.heap.size w w' := by
  by_cases h1 : s.size ≤ 40
  · have e1 : decide ((s.size : Int) ≤ 40) = true := by simp; omega
    have HM := hide (text_any h1)
    have HS := hide (split_calls s w hm hs)
    have HP := hide (splitS_part 32 s)
    have HPL := hide (splitS_le 32 s)
    clear hm
    go_enter Tryz.func92, Tryz.ntmps92
    go_wp2_with fail
    refine HS.out.mono ?_
    rintro e w1 ⟨A1, n1, c1, rfl, hown, hl, hb1⟩
    have hn1 : n1 ≤ 1048576 := by have := HPL.out; omega
    have HR := hide (RdK.of_own (K := kB) hown hl (fun x hx => Nat.le_trans (HP.out x hx) (by omega)))
    have HF := hide (containsFB_calls A1 n1 c1 (splitS 32 s) 169 #[] (fun x => !wordB x) w1 HR.out hn1 Tryz.call169 (fun W x _ hx _ => isText1_calls x W (Nat.le_trans (HP.out x hx) hs)))
    clear hown hl
    rcases b_cases ((splitS 32 s).any (fun x => !wordB x)) with hd | hd
    all_goals
      rw [hd] at HM HF
      clear hd
      go_wp2_with fail
      refine HF.out.mono ?_
      rintro e w2 ⟨rfl, hb2⟩
      go_wp2
      go_ret
      exact ⟨ret_bool (by rw [HM.out]; rfl), hb1.trans (hb2.mono hb1.size)⟩
  · have e1 : decide ((s.size : Int) ≤ 40) = false := by simp; omega
    have HM := hide (text_long (s := s) (by omega))
    go_enter Tryz.func92, Tryz.ntmps92
    go_wp2
    go_ret
    exact ⟨ret_bool HM.out.symm, Below.refl _ _⟩

set_option maxHeartbeats 2000000 in
theorem l25Text_calls (s : ByteArray) (w : World) (hs : s.size ≤ 1048576) : Calls Tryz.prog 256 #[.string s] w fun e w' => e = .returned (.bool (textB s)) ∧ Below w.heap.size w w' := by
  by_cases h0 : s.size = 0
  · have HM := hide (text_empty h0)
    have e1 : ((s.size : Int) == 0) = true := by rw [h0]; rfl
    clear h0
    go_enter Tryz.func256, Tryz.ntmps256
    go_wp2
    go_ret
    exact ⟨ret_bool HM.out.symm, Below.refl _ _⟩
  by_cases h1 : s.size ≤ 40
  · have e0 : ((s.size : Int) == 0) = false := by rw [beq_eq_false_iff_ne]; omega
    have e1 : decide ((40 : Int) < s.size) = false := by simp; omega
    have HM := hide (text_mid h1)
    have HS := hide (l01Split_calls s 32 w hs)
    have HP := hide (splitS_part 32 s)
    have HPL := hide (splitS_le 32 s)
    go_enter Tryz.func256, Tryz.ntmps256
    go_wp2_with fail
    refine HS.out.mono ?_
    rintro e w1 ⟨A1, n1, c1, rfl, hown, hl, hb1⟩
    have hn1 : n1 ≤ 1048576 := by have := HPL.out; omega
    have HR := hide (RdK.of_own (K := kB) hown hl (fun x hx => Nat.le_trans (HP.out x hx) (by omega)))
    have HL := hide hl
    clear hown hl
    generalize hq : splitS 32 s = ps at *
    clear hq
    go_wp2
    go_loop [4] (fun i => ∃ (k : Nat), k ≤ n1 ∧ i = .int .i64 k ∧ Hid ((ps.take k).all wordB = true)) (fun i => n1 - (intOf i).toNat)
    case atStart => exact ⟨0, Nat.zero_le _, rfl, by simp [Hid]⟩
    case round =>
      obtain ⟨k, hk, rfl, HC⟩ := hrel
      by_cases hlt : k < n1
      · obtain ⟨b, off, x, rfl, hbl, hx, hc, hs1⟩ := RdK.atB HR.out hlt
        have HW := hide (l25Word_calls x w1 hs1)
        rcases b_cases (wordB x) with hd | hd
        · have HN : Hid (textB s = false) := by
            unfold Hid
            rw [HM.out, List.all_eq_false]
            exact ⟨x, List.mem_of_getElem? hx.out, by simp [hd]⟩
          rw [hd] at HW
          clear hd
          go_wp2_with fail
          refine HW.out.mono ?_
          rintro e w2 ⟨rfl, rfl⟩
          go_wp2
          go_ret
          exact ⟨ret_bool HN.out.symm, hb1⟩
        · have HN : Hid ((ps.take (k + 1)).all wordB = true) := by
            unfold Hid
            rw [take_snoc hx.out, List.all_append, HC.out]
            simpa using hd
          rw [hd] at HW
          clear hd
          go_wp2_with fail
          refine HW.out.mono ?_
          rintro e w2 ⟨rfl, rfl⟩
          go_wp2
          go_round
          case rel => exact ⟨k + 1, by omega, by go_num, HN⟩
          case measure => simp [intOf]; omega
      · have hkn : k = n1 := by omega
        have HN : Hid (textB s = true) := by
          unfold Hid
          rw [HM.out]
          have := HC.out
          rwa [List.take_of_length_le (by rw [HL.out]; omega)] at this
        clear hkn
        go_wp2
        go_ret
        exact ⟨ret_bool HN.out.symm, hb1⟩
  · have e0 : ((s.size : Int) == 0) = false := by rw [beq_eq_false_iff_ne]; omega
    have e1 : decide ((40 : Int) < s.size) = true := by simp; omega
    have HM := hide (text_long (s := s) (by omega))
    go_enter Tryz.func256, Tryz.ntmps256
    go_wp2
    go_ret
    exact ⟨ret_bool HM.out.symm, Below.refl _ _⟩

end Go.Proofs.YtcclfmapbgdpdaaGreatDoor
