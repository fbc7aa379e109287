/- strings.Split, l01Split: the parts of a text between blanks; isText, l25Text. -/
import Derived.Test.YtlomloepdnojoaaDoorText
import Derived.Test.YtlomloepdnojoaaDoorShelf
import Derived.Test.YtlomloepdnojoaaDoorStB
import Derived.Test.YtlomloepdnojoaaDoorIdxB
namespace Go.Proofs.YtlomloepdnojoaaDoor
open Go.RowKit
set_option linter.unusedVariables false

theorem own_cells {w : World} {base g n c : Nat} {e : TypeId} {size : Nat} {xs cur : List Value} (hb : base ≤ g) (hg : w.heap[g]? = some (.cells cur.toArray e (0, 0))) (h1 : n ≤ c) (h2 : c ≤ maxLen) (h3 : cur.length = c * size) (hx : cur.take (n * size) = xs) (hl : xs.length = n * size) : w.ownsRow base e size (.slice (some ⟨g, 0, none⟩) n c) n xs :=
  ⟨hl, .inr ⟨g, c, cur.toArray, rfl, hb, hg, h1, h2, by simpa using h3, by simpa using hx⟩⟩
/-- What a splitter leaves: a row of the call's own. -/
def PartsPost (xs : List ByteArray) (w : World) (e : Ending) (w' : World) : Prop :=
  ∃ A' n' c', e = .returned (.slice A' n' c') ∧ w'.ownsRow w.heap.size 9 1 (.slice A' n' c') n' (cK kB xs) ∧ xs.length = n' ∧ Below w.heap.size w w'

theorem split_calls (s : ByteArray) (w : World) (hm : TabM w) (hs : s.size ≤ 1048576) :
    Calls Tryd.prog 74 #[.string s, .string ⟨#[32]⟩] w (PartsPost (splitS 32 s) w) := by
  obtain ⟨m, hm⟩ := hm
  refine (Tryd.strings_Split s ⟨#[32]⟩ m w (by omega) hm (by decide)).mono ?_
  rintro e w' ⟨rfl, rfl⟩
  have hl := splitS_len 32 s
  refine ⟨_, _, _, rfl, ?_, hl, (Below.refl _ _).alloc (Nat.le_refl _) _⟩
  rw [splitB_S, cK_kB]
  exact own_cells (cur := (splitS 32 s).map Value.string) (Nat.le_refl _) (heap_alloc_new w _) (Nat.le_refl _) (by have := splitS_le 32 s; unfold maxLen; omega) (by simp [hl]) (by rw [Nat.mul_one, List.take_of_length_le (by simp [hl])]) (by simp [hl])

set_option maxHeartbeats 4000000 in
theorem l01Split_calls (s : ByteArray) (c : UInt8) (w : World) (hs : s.size ≤ 1048576) :
    Calls Tryd.prog 122 #[.string s, .int .u8 (c.toNat : Int)] w (PartsPost (splitS c s) w) := by
  have hlit := World.ownsRow_lit (base := w.heap.size) (e := 9) (size := 1) w #[] 0 (Nat.le_refl _) (by simp) rfl
  have B0 : Below w.heap.size w (w.alloc (.cells #[] 9)) := (Below.refl _ _).alloc (Nat.le_refl _) _
  have HH := hide (And.intro hlit B0)
  have HS0 := hide (splitAt_start c s)
  clear hlit B0
  go_enter Tryd.func122, Tryd.ntmps122
  go_wp2
  go_loopw [5, 6, 7] (fun out f i wr => ∃ (k m fr : Nat) (done : List ByteArray), k ≤ s.size ∧ i = .int .i64 k ∧ f = .int .i64 fr ∧ fr ≤ k ∧ m ≤ k ∧ wr.ownsRow w.heap.size 9 1 out m (cK kB done) ∧ Hid (SplitAt c s done fr k ∧ done.length = m) ∧ Below w.heap.size w wr) (fun _ _ i _ => s.size - (intOf i).toNat)
  case atStart => exact ⟨0, 0, 0, [], Nat.zero_le _, rfl, rfl, Nat.le_refl _, Nat.le_refl _, by simpa [cK] using HH.out.1, ⟨HS0.out, rfl⟩, HH.out.2⟩
  case round =>
    obtain ⟨k, m, fr, done, hk, rfl, rfl, hfr, hmk, hown, HI, hb⟩ := hrel
    have HO := hide hown
    clear hown
    have hsz := hb.size
    by_cases hlt : k < s.size
    · obtain ⟨b, hsc, hx⟩ := bs_at s hlt
      by_cases hbc : b = c
      · have HN := hide (And.intro (splitAt_sep HI.out.1 (hbc ▸ hx.out)) HI.out.2)
        subst hbc
        go_wp2_with (at_builtin; refine appB rfl _ _ rfl w.heap.size u5 m done (s.extract fr k) rfl HO.out (by first | rfl | (simp; rfl)) (by omega) (by omega) ?_; intro v' w4 hown4 hb4 hz4)
        go_roundw
        case rel => exact ⟨k + 1, m + 1, k + 1, done ++ [s.extract fr k], by omega, by go_num, by go_num, Nat.le_refl _, by omega, hown4, ⟨HN.out.1, by rw [List.length_append, HN.out.2]; rfl⟩, hb.trans hb4⟩
        case measure => simp [intOf]; omega
      · have HN := hide (And.intro (splitAt_other HI.out.1 hx.out hbc) HI.out.2)
        have hne : ((b.toNat : Int) == (c.toNat : Int)) = false := by
          simp only [beq_eq_false_iff_ne, ne_eq]
          intro e
          exact hbc (UInt8.toNat_inj.1 (by omega))
        clear hbc
        go_wp2
        go_roundw
        case rel => exact ⟨k + 1, m, fr, done, by omega, by go_num, rfl, by omega, by omega, HO.out, HN.out, hb⟩
        case measure => simp [intOf]; omega
    · have hkn : k = s.size := by omega
      subst hkn
      have HN := hide (splitAt_end HI.out.1)
      have HL := hide HI.out.2
      clear HI
      go_wp2_with (at_builtin; refine appB rfl _ _ rfl w.heap.size u5 m done (s.extract fr s.size) rfl HO.out (by first | rfl | (simp; rfl)) (by omega) (by omega) ?_; intro v' w4 hown4 hb4 hz4)
      obtain ⟨A4, c4, rfl⟩ := own_slice hown4
      go_ret
      exact ⟨A4, m + 1, c4, rfl, by rw [HN.out]; exact hown4, by rw [HN.out, List.length_append, HL.out]; rfl, hb.trans hb4⟩




end Go.Proofs.YtlomloepdnojoaaDoor
