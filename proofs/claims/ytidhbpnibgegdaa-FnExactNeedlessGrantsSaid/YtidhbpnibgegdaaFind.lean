/- roleAt, l28Find, areNames. -/
import Derived.Test.YtidhbpnibgegdaaIdx
namespace Go.Proofs.Ytidhbpnibgegdaa
open Go.RowKit
set_option linter.unusedVariables false

theorem cat1 (x a : Value) : (#[x] ++ #[a] : Array Value) = #[x, a] := rfl
theorem cat2 (x a b : Value) : (#[x] ++ #[a, b] : Array Value) = #[x, a, b] := rfl
theorem cat3 (x a b c : Value) : (#[x] ++ #[a, b, c] : Array Value) = #[x, a, b, c] := rfl
theorem cat4 (x a b c d : Value) : (#[x] ++ #[a, b, c, d] : Array Value) = #[x, a, b, c, d] := rfl

theorem roleClos_calls (nm' nm : ByteArray) (A : Option Addr) (n c b off : Nat) (w : World) (hc : w.cell? ⟨b, off, none⟩ = some (.string nm)) (hb : b < w.heap.size) :
    Calls Try.prog 98 #[.agg #[.string nm', .slice A n c], .pointer (some ⟨b, off, none⟩)] w fun e w' => e = .returned (.bool (decide (nm' = nm))) ∧ Below w.heap.size w w' := by
  have hB : Below w.heap.size w (w.alloc (.cells #[.string nm', .slice A n c] 70)) := (Below.refl _ _).alloc (Nat.le_refl _) _
  have HB := hide hB
  have hc' : (w.alloc (.cells #[.string nm', .slice A n c] 70)).cell? ⟨b, off, none⟩ = some (.string nm) := (hB.cell (p := ⟨b, off, none⟩) hb).trans hc
  clear hB
  by_cases he : nm' = nm
  · have HE := hide (decide_eq_true he)
    obtain ⟨e1, e2⟩ := str_eq he
    clear he
    go_enter Try.func98, Try.ntmps98
    go_wp2
    go_ret
    exact ⟨ret_bool HE.out.symm, HB.out⟩
  · have HE := hide (decide_eq_false he)
    obtain ⟨e1, e2⟩ := str_ne he
    clear he
    go_enter Try.func98, Try.ntmps98
    go_wp2
    go_ret
    exact ⟨ret_bool HE.out.symm, HB.out⟩

theorem roleAt_calls (A : Option Addr) (n c : Nat) (rs : List RoleZ) (nm : ByteArray) (w : World) (h : RdRz w A n rs) (hn : n ≤ 1048576) :
    Calls Try.prog 59 #[.slice A n c, .string nm] w fun e w' => e = .returned (.int .i64 (findI rs nm)) ∧ Below w.heap.size w w' := by
  have hB : Below w.heap.size w (w.alloc (.cells #[.string nm] 9)) := (Below.refl _ _).alloc (Nat.le_refl _) _
  have HB := hide hB
  have hc : (w.alloc (.cells #[.string nm] 9)).cell? ⟨w.heap.size, 0, none⟩ = some (.string nm) := by simp
  have HC := hide (indexR_calls A n c rs 98 #[.pointer (some ⟨w.heap.size, 0, none⟩)] (fun r => decide (r.name = nm)) _ (h.below hB (Nat.le_refl _)) hn Try.call98 (by
    intro W nm' A' n' c' us hW hm hs hr hn'
    rw [cat1]
    exact roleClos_calls nm' nm A' n' c' w.heap.size 0 W ((hW.cell (p := ⟨w.heap.size, 0, none⟩) (by simp)).trans hc) (by have := hW.size; simp at this; omega)))
  have HI : Hid (idxI (fun r : RoleZ => decide (r.name = nm)) rs = findI rs nm) := rfl
  clear hB hc h
  go_enter Try.func59, Try.ntmps59
  go_wp2_with fail
  refine HC.out.mono ?_
  rintro e w' ⟨rfl, hb⟩
  go_wp2
  go_ret
  exact ⟨ret_int HI.out, HB.out.trans (hb.mono HB.out.size)⟩

theorem findI_range (rs : List RoleZ) (nm : ByteArray) : -1 ≤ findI rs nm ∧ findI rs nm ≤ rs.length := idx_range _ _

set_option maxHeartbeats 1000000 in
theorem l28Find_calls (A : Option Addr) (n c : Nat) (rs : List RoleZ) (nm : ByteArray) (w : World) (h : RdRz w A n rs) (hn : n ≤ 1048576) :
    Calls Try.prog 64 #[.slice A n c, .string nm] w fun e w' => e = .returned (.int .i64 (findI rs nm)) ∧ w = w' := by
  have HL := hide h.len
  have HI : Hid (idxI (fun r : RoleZ => decide (r.name = nm)) rs = findI rs nm) := rfl
  go_enter Try.func64, Try.ntmps64
  go_wp2
  go_loop [5] (fun i => ∃ (k : Nat), k ≤ n ∧ i = .int .i64 k ∧ Hid ((rs.take k).any (fun r => decide (r.name = nm)) = false)) (fun i => n - (intOf i).toNat)
  case atStart => exact ⟨0, Nat.zero_le _, rfl, by simp [Hid]⟩
  case round =>
    obtain ⟨k, hk, rfl, HC⟩ := hrel
    by_cases hlt : k < n
    · obtain ⟨b, off, s, Aq, nq, cq, us, rfl, hbl, hx, hc, hc2, hme, hst, hnq⟩ := h.at hlt
      clear hst hc2
      by_cases he : s = nm
      · have HJ := hide ((idx_here (p := fun r : RoleZ => decide (r.name = nm)) hx.out HC.out (by simp [he])).symm.trans HI.out)
        obtain ⟨e1, e2⟩ := str_eq he
        clear he
        go_wp2
        go_ret
        exact ⟨ret_int HJ.out, rfl⟩
      · have HJ := hide (any_snoc (p := fun r : RoleZ => decide (r.name = nm)) hx.out HC.out (by simpa using he))
        obtain ⟨e1, e2⟩ := str_ne he
        clear he
        go_wp2
        go_round
        case rel => exact ⟨k + 1, by omega, by go_num, HJ⟩
        case measure => simp [intOf]; omega
    · have hkn : k = n := by omega
      subst hkn
      have HJ := hide ((idx_none (p := fun r : RoleZ => decide (r.name = nm)) HL.out HC.out).symm.trans HI.out)
      go_wp2
      go_ret
      exact ⟨ret_int HJ.out, rfl⟩

/-! ### names -/
theorem names_bad {xs : List ByteArray} {k : Nat} {x : ByteArray} (hx : xs[k]? = some x) (h : nameB x = false ∨ upB xs k = false) : namesB xs = false := by
  rw [← Bool.not_eq_true]
  intro hn
  obtain ⟨h1, h2⟩ := namesB_iff.1 hn
  have hk := (List.getElem?_eq_some_iff.1 hx).1
  rcases h with h | h
  · rw [h1 x (List.mem_of_getElem? hx)] at h; cases h
  · rw [sortB_up h2 hk] at h; cases h
theorem names_good {xs : List ByteArray} {n : Nat} (hl : xs.length = n) (h : ∀ j, j < n → nameB (xs.getD j ⟨#[]⟩) = true ∧ upB xs j = true) : namesB xs = true := by
  unfold namesB
  rw [Bool.and_eq_true, List.all_eq_true, List.all_eq_true]
  constructor
  · intro x hx
    obtain ⟨j, hj, rfl⟩ := List.mem_iff_getElem.1 hx
    have := (h j (by omega)).1
    rwa [List.getD, List.getElem?_eq_getElem hj] at this
  · intro j hj
    exact (h j (by rw [← hl]; exact List.mem_range.1 hj)).2
theorem upto_snoc {p : Nat → Prop} {k : Nat} (h : ∀ j, j < k → p j) (hk : p k) : ∀ j, j < k + 1 → p j := fun j hj => by
  rcases Nat.lt_or_ge j k with h1 | h1
  · exact h j h1
  · rwa [show j = k by omega]
theorem getD_of {xs : List ByteArray} {k : Nat} {x : ByteArray} (h : xs[k]? = some x) : xs.getD k ⟨#[]⟩ = x := by rw [List.getD, h]; rfl

set_option maxHeartbeats 2000000 in
theorem areNames_calls (A : Option Addr) (n c : Nat) (xs : List ByteArray) (w : World) (h : RdK kB w A n xs) (hn : n ≤ 1048576) :
    Calls Try.prog 56 #[.slice A n c] w fun e w' => e = .returned (.bool (namesB xs)) ∧ Below w.heap.size w w' := by
  have HL := hide h.2.1
  go_enter Try.func56, Try.ntmps56
  go_wp2
  go_loopw [7] (fun i wr => ∃ (k : Nat), k ≤ n ∧ i = .int .i64 k ∧ Hid (∀ j, j < k → nameB (xs.getD j ⟨#[]⟩) = true ∧ upB xs j = true) ∧ Below w.heap.size w wr) (fun i _ => n - (intOf i).toNat)
  case atStart => exact ⟨0, Nat.zero_le _, rfl, fun j hj => absurd hj (by omega), Below.refl _ _⟩
  case round =>
    obtain ⟨k, hk, rfl, HC, hb⟩ := hrel
    by_cases hlt : k < n
    · obtain ⟨b, off, s, rfl, hbl, hx, hc, hs1⟩ := RdK.atB (h.below hb (Nat.le_refl _)) hlt
      have HM := hide (isName_calls s wr hs1)
      have HG := hide (getD_of hx.out)
      rcases b_cases (nameB s) with hB | hB
      · have HN := hide (names_bad hx.out (.inl hB))
        rw [hB] at HM
        clear hB
        go_wp2_with fail
        refine HM.out.mono ?_
        rintro e w2 ⟨rfl, hb2⟩
        go_wp2
        go_ret
        exact ⟨ret_bool HN.out.symm, hb.trans (hb2.mono hb.size)⟩
      · rw [hB] at HM
        have HB := hide hB
        clear hB
        by_cases hk0 : k = 0
        · subst hk0
          have hc0 : wr.cell? ⟨b, off, none⟩ = some (.string s) := by simpa using hc
          go_wp2_with fail
          refine HM.out.mono ?_
          rintro e w2 ⟨rfl, hb2⟩
          go_wp2
          go_roundw
          case rel => exact ⟨1, by omega, by go_num, upto_snoc HC.out ⟨by rw [HG.out]; exact HB.out, rfl⟩, hb.trans (hb2.mono hb.size)⟩
          case measure => simp [intOf]; omega
        · obtain ⟨m, rfl⟩ : ∃ m, k = m + 1 := ⟨k - 1, by omega⟩
          have e3 : decide ((0 : Int) < ((m + 1 : Nat) : Int)) = true := by simp
          obtain ⟨b', off', s', hA', hbl', hx', hc', hs1'⟩ := RdK.atB (h.below hb (Nat.le_refl _)) (show m < n by omega)
          obtain ⟨rfl, rfl⟩ : b = b' ∧ off = off' := by injection hA' with hA'; injection hA'; exact ⟨‹_›, ‹_›⟩
          clear hA'
          have HU := hide (upB_at hx'.out hx.out)
          rcases str_ways s' s with ⟨q1, q2, q3, q4, q5, q6, q7⟩ | ⟨q1, q2, q3, q4, q5, q6, q7⟩ | ⟨q1, q2, q3, q4, q5, q6, q7⟩
          · have HV := hide (HU.out.trans q5)
            clear q5 q6 q7
            go_wp2_with fail
            refine HM.out.mono ?_
            rintro e w2 ⟨rfl, hb2⟩
            have hc'' := (hb2.cell (p := ⟨b, off + m, none⟩) hbl').trans hc'
            go_wp2
            go_roundw
            case rel => exact ⟨m + 1 + 1, by omega, by go_num, upto_snoc HC.out ⟨by rw [HG.out]; exact HB.out, HV.out⟩, hb.trans (hb2.mono hb.size)⟩
            case measure => simp [intOf]; omega
          · have HN := hide (names_bad hx.out (.inr (HU.out.trans q5)))
            clear q5 q6 q7
            go_wp2_with fail
            refine HM.out.mono ?_
            rintro e w2 ⟨rfl, hb2⟩
            have hc'' := (hb2.cell (p := ⟨b, off + m, none⟩) hbl').trans hc'
            go_wp2
            go_ret
            exact ⟨ret_bool HN.out.symm, hb.trans (hb2.mono hb.size)⟩
          · have HN := hide (names_bad hx.out (.inr (HU.out.trans q5)))
            clear q5 q6 q7
            go_wp2_with fail
            refine HM.out.mono ?_
            rintro e w2 ⟨rfl, hb2⟩
            have hc'' := (hb2.cell (p := ⟨b, off + m, none⟩) hbl').trans hc'
            go_wp2
            go_ret
            exact ⟨ret_bool HN.out.symm, hb.trans (hb2.mono hb.size)⟩
    · have hkn : k = n := by omega
      subst hkn
      have HN := hide (names_good HL.out HC.out)
      go_wp2
      go_ret
      exact ⟨ret_bool HN.out.symm, hb⟩

end Go.Proofs.Ytidhbpnibgegdaa
