/- ReadList of the program at a text of ListText; GroupText. Printed by gen_loae.py. -/
import Derived.Test.YtcclfmapbgdpdaaGreatDoorLoaL
import Derived.Test.YtcclfmapbgdpdaaGreatDoorLoaD
import Derived.Test.YtcclfmapbgdpdaaGreatDoorLoaN
import Derived.Test.YtcclfmapbgdpdaaGreatDoorTake
import Derived.Test.YtcclfmapbgdpdaaGreatDoorNum
import Derived.Test.YtcclfmapbgdpdaaGreatDoorDecL
import Derived.Test.YtcclfmapbgdpdaaGreatDoorSplitS
namespace Go.Proofs.YtcclfmapbgdpdaaGreatDoor
open Go.RowKit
set_option linter.unusedVariables false

theorem itoa_no44 (v : Int) : (44 : UInt8) ∉ Lib.itoa v := by
  have hd : ∀ u, (44 : UInt8) ∉ Lib.decDigits u := by
    intro u hm
    have := List.all_eq_true.1 (dec_dig u) _ hm
    exact absurd this (by decide)
  unfold Lib.itoa
  split
  · rw [List.mem_cons, not_or]; exact ⟨by decide, hd _⟩
  · exact hd _
theorem split_lisT {xs : List Int} (h : xs ≠ []) : splitS 44 (lisT xs) = xs.map decZ := by
  unfold splitS
  rw [bs_lisT, split_join (by simpa using h) (fun x hx => by
    obtain ⟨y, _, rfl⟩ := List.mem_map.1 hx
    exact itoa_no44 y), List.map_map]
  exact List.map_congr_left fun x _ => rfl
theorem lisT_size {xs : List Int} (hl : xs.length ≤ 12) (h : ∀ x ∈ xs, I64 x) : (lisT xs).size ≤ 300 := by
  have := join_len 44 20 ((xs.map decZ).map (·.data.toList)) (by
    intro x hx
    obtain ⟨y, hy, rfl⟩ := List.mem_map.1 hx
    obtain ⟨z, hz, rfl⟩ := List.mem_map.1 hy
    exact itoa_len (h z hz))
  rw [List.length_map, List.length_map] at this
  have e : (lisT xs).size = (Lib.join ((xs.map decZ).map (·.data.toList)) [44]).length := rfl
  rw [e]
  exact Nat.le_trans this (by omega)

theorem split44_calls (s : ByteArray) (w : World) (hm : TabM w) (hs : s.size ≤ 1048576) :
    Calls Tryz.prog 77 #[.string s, .string ⟨#[44]⟩] w (PartsPost (splitS 44 s) w) := by
  obtain ⟨m, hm⟩ := hm
  refine (Tryz.strings_Split s ⟨#[44]⟩ m w (by omega) hm (by decide)).mono ?_
  rintro e w' ⟨rfl, rfl⟩
  have hl := splitS_len 44 s
  refine ⟨_, _, _, rfl, ?_, hl, (Below.refl _ _).alloc (Nat.le_refl _) _⟩
  rw [splitB_S, cK_kB]
  exact own_cells (cur := (splitS 44 s).map Value.string) (Nat.le_refl _) (heap_alloc_new w _) (Nat.le_refl _) (by have := splitS_le 44 s; unfold maxLen; omega) (by simp [hl]) (by rw [Nat.mul_one, List.take_of_length_le (by simp [hl])]) (by simp [hl])

set_option maxRecDepth 100000 in
set_option maxHeartbeats 4000000 in
theorem readList_calls (xs : List Int) (w : World) (HT : TabPME w) (hl : 1 ≤ xs.length ∧ xs.length ≤ 12) (hx : ∀ x ∈ xs, 0 ≤ x ∧ x ≤ 1000000) (hne0 : ¬ bs (lisT xs) = [45]) :
    Calls Tryz.prog 197 #[.string (lisT xs)] w fun e w' => ∃ A c, e = .returned (.tuple #[.slice A xs.length c, .bool true]) ∧ RdI w' A xs.length xs ∧ Below w.heap.size w w' := by
  have hI : ∀ x ∈ xs, I64 x := fun x hm => by have := hx x hm; unfold I64; omega
  have hsz := lisT_size hl.2 hI
  have hne : ((lisT xs).toList == [45]) = false := by rw [toList_bs]; simpa using hne0
  clear hne0
  have HSP := hide (split44_calls (lisT xs) w HT.1.2 (by omega))
  rw [split_lisT (by intro e; rw [e] at hl; simp at hl)] at HSP
  obtain ⟨s, hs⟩ : ∃ s, s = lisT xs := ⟨_, rfl⟩
  obtain ⟨n, hn⟩ : ∃ n, n = xs.length := ⟨_, rfl⟩
  have HS := hide hs
  have HN := hide hn
  have HX := hide hx
  have HII := hide hI
  have HTT := hide HT
  rw [← hs] at HSP hne hsz ⊢
  rw [← hn] at hl ⊢
  clear hs hn hx hI HT
  go_enter Tryz.func197, Tryz.ntmps197
  go_wp2_with fail
  refine HSP.out.mono ?_
  rintro e w2 ⟨A, n2, c, rfl, hown, hlen, hb2⟩
  have hn2 : n2 = n := by rw [← hlen, List.length_map]; exact HN.out.symm
  subst hn2
  have HRW : Hid (RdK kB w2 A n2 (xs.map decZ)) := RdK.of_own (K := kB) hown hlen (fun x hm => by
    obtain ⟨y, hy, rfl⟩ := List.mem_map.1 hm
    have := itoa_len (HII.out y hy)
    show (decZ y).size ≤ 9223372036854775807
    have e : (decZ y).size = (Lib.itoa y).length := rfl
    omega)
  have HB2 := hide hb2
  have hz2 := hb2.size
  clear hown hlen HSP hne hb2
  have hown0 := World.ownsRow_nil w2 w2.heap.size 2 1
  go_wp2_with fail
  go_loopw [4, 6, 7, 8, 14] (fun v _ _ _ i wr => ∃ (K : Nat), K ≤ n2 ∧ i = .int .i64 K ∧ wr.ownsRow w2.heap.size 2 1 v K (cI (xs.take K)) ∧ Below w2.heap.size w2 wr) (fun _ _ _ _ i _ => n2 - (intOf i).toNat)
  case atStart => exact ⟨0, Nat.zero_le _, rfl, by simpa [cI] using hown0, Below.refl _ _⟩
  case round =>
    clear hown0
    obtain ⟨K, hK, rfl, hown, hb⟩ := hrel
    have HO := hide hown
    have hbb := HB2.out.trans (hb.mono hz2)
    clear hown
    by_cases hlt : K < n2
    · obtain ⟨b, off, y, rfl, hbl, hy, hc, hys⟩ := (HRW.out.below hb (Nat.le_refl _)).atB hlt
      have hxk := List.getElem?_eq_getElem (show K < xs.length by rw [← HN.out]; exact hlt)
      obtain ⟨x, hxe⟩ : ∃ x, x = xs[K]'(by rw [← HN.out]; exact hlt) := ⟨_, rfl⟩
      rw [← hxe] at hxk
      have hyx : y = decZ x := by have h := hy.out; rw [List.getElem?_map, hxk] at h; exact (Option.some.inj h).symm
      have hxb := HX.out x (List.mem_of_getElem? hxk)
      have hnum := num_itoa hxb.1 hxb.2
      have hyl := itoa_len (HII.out x (List.mem_of_getElem? hxk))
      have RD := hide (readDecimal_calls y wr (HTT.out.here hbb).1.1 (HTT.out.here hbb).2 (by rw [hyx]; have e : (decZ x).size = (Lib.itoa x).length := rfl; omega))
      rw [hyx, show bs (decZ x) = Lib.itoa x from rfl, hnum.1, hnum.2] at RD
      rw [hyx] at hc
      have HE : Hid (xs.take (K + 1) = xs.take K ++ [x]) := take_snoc hxk
      obtain ⟨dx, hdx⟩ : ∃ dx, dx = decZ x := ⟨_, rfl⟩
      rw [← hdx] at RD hc
      have hsz2 := hb.size
      clear hy hxe hxk hyx hnum hyl hdx hys
      go_wp2_with fail
      refine RD.out.mono ?_
      rintro e w3 ⟨rfl, hb3⟩
      have hsz3 := hb3.size
      go_wp2_with (at_builtin; refine appI rfl _ _ rfl w2.heap.size u4 K _ x rfl (own_below HO.out hb3 (Nat.le_refl _)) (by first | rfl | (simp; rfl)) (by omega) (by omega) ?_; intro v4 w4 hown4 hb4 hz4)
      go_roundw
      case rel => exact ⟨K + 1, by omega, by go_num, by rw [HE.out]; exact hown4, (hb.trans (hb3.mono hsz2)).trans hb4⟩
      case measure => simp [intOf]; omega
    · obtain rfl : K = n2 := by omega
      have hown := HO.out
      rw [List.take_of_length_le (by rw [← HN.out]; omega)] at hown
      obtain ⟨A6, c6, rfl⟩ := own_slice hown
      have hRI : RdI wr A6 K xs := RdI.of_own hown HII.out
      have LT := hide (listText_calls A6 K c6 xs wr (HTT.out.here hbb).1.1 hRI hl (fun x hm => by have := HX.out x hm; omega))
      rw [← HS.out] at LT
      have HR := hide hRI
      have HBB := hide hbb
      clear hown hRI HO hb hbb
      go_wp2_with fail
      refine LT.out.mono ?_
      rintro e w3 ⟨rfl, hb3⟩
      have HR3 := hide (HR.out.below hb3 (Nat.le_refl _))
      have HB3 := hide (HBB.out.trans (hb3.mono HBB.out.size))
      have q2 := (str_eq (rfl : s = s)).1
      clear hb3 LT
      go_wp2
      go_ret2
      exact ⟨A6, c6, rfl, HR3.out, HB3.out⟩

/-- A group as text. -/
def grpT (s : ByteArray) (p b k : Int) : ByteArray := s ++ ⟨#[32]⟩ ++ lisT [p, b, k]
set_option maxRecDepth 100000 in
set_option maxHeartbeats 4000000 in
theorem groupText_calls (s : ByteArray) (p b k : Int) (w : World) (hT0 : TabP w) (hv : grpB ⟨s, p, b, k⟩ = true) :
    Calls Tryz.prog 67 #[.agg #[.string s, .int .i64 p, .int .i64 b, .int .i64 k]] w fun e w' => e = .returned (.string (grpT s p b k)) ∧ Below w.heap.size w w' := by
  obtain ⟨_, _, hs10, hg1, hg2, hg3⟩ := grp_ok hv
  have hl3 := lisT_size (xs := [p, b, k]) (by simp) (by intro y hy; simp at hy; unfold I64; omega)
  obtain ⟨bx, hbx⟩ : ∃ bx, bx = w.heap.size := ⟨_, rfl⟩
  obtain ⟨w0, hw0⟩ : ∃ w0, w0 = w.alloc (.cells #[.string s, .int .i64 p, .int .i64 b, .int .i64 k] 98) := ⟨_, rfl⟩
  have hB : Below w.heap.size w w0 := by rw [hw0]; exact (Below.refl _ _).alloc (Nat.le_refl _) _
  have HA : Hid (Ag4 98 w0 bx (.string s) (.int .i64 p) (.int .i64 b) (.int .i64 k)) := by rw [hw0, hbx]; exact Ag4.new _ _ _ _ _ _
  have hz : bx < w0.heap.size := by rw [hw0, hbx]; simp
  obtain ⟨a0, a1, a2, a3, _⟩ := HA.out.out
  have VG := hide (validGroup_calls s p b k w0 hv)
  have p1 : (⟨#[32]⟩ : ByteArray).size = 1 := rfl
  have cs1 := fun w : World => run_string_add_sum (P := Tryz.prog) w s ⟨#[32]⟩ (by omega)
  have cs2 := fun w : World => run_string_add_sum (P := Tryz.prog) w (s ++ ⟨#[32]⟩) (lisT [p, b, k]) (by rw [ByteArray.size_append]; omega)
  have HB := hide hB
  have HT0 := hide hT0
  clear hB hv p1 hT0
  unfold grpT
  go_enter Tryz.func67, Tryz.ntmps67
  go_upto_region 1 with fail
  rw [← hw0, ← hbx]
  clear hw0 hbx
  go_wp2_with fail
  refine VG.out.mono ?_
  rintro e w1 ⟨rfl, hb1⟩
  have HA1 := hide (HA.out.below hb1 hz)
  have HB1 := hide (HB.out.trans (hb1.mono HB.out.size))
  have HT : Hid (∀ W, Below w1.heap.size w1 W → TabP W) := fun W hW => HT0.out.here (HB1.out.trans (hW.mono HB1.out.size))
  clear hb1 a0 a1 a2 a3 VG HA HB
  go_upto_region 3 with fail
  obtain ⟨wd, hwd⟩ : ∃ wd : World, wd = w1.drew := ⟨_, rfl⟩
  have HS0 : Hid ((fun W => Ag4 98 W bx (.string s) (.int .i64 p) (.int .i64 b) (.int .i64 k)) wd) := by rw [hwd]; exact HA1.out
  have HWD := hide hwd
  have HBd : Hid (Below w1.heap.size w1 wd) := by rw [HWD.out]; exact (Below.refl _ _).drew
  refine wp_region_held_drew (S := fun W => Ag4 98 W bx (.string s) (.int .i64 p) (.int .i64 b) (.int .i64 k)) (by kernel_rfl) (by rw [← hwd]; exact HS0.out) (fun _ => ?_)
  rw [← hwd]
  clear hwd
  refine takeH 0 6 (.pointer (some ⟨bx, 0, none⟩)) ⟨_, rfl, rfl, rfl, ?_⟩ (by kernel_rfl) (by kernel_rfl) (by kernel_rfl) (fun _ _ _ h => h) HS0.out ?_
  · intro wz hSw; go_simp
  try simp only [Act.put, List.setIfInBounds_toArray, List.set_cons_zero, List.set_cons_succ]
  refine takeH 1 7 (.string s) ⟨_, rfl, rfl, rfl, ?_⟩ (by kernel_rfl) (by kernel_rfl) (by kernel_rfl) (fun _ _ _ h => h) HS0.out ?_
  · intro wz hSw; obtain ⟨x0, x1, x2, x3, _⟩ := Ag4.out (show Ag4 98 wz bx (.string s) (.int .i64 p) (.int .i64 b) (.int .i64 k) from hSw); go_simp
  try simp only [Act.put, List.setIfInBounds_toArray, List.set_cons_zero, List.set_cons_succ]
  refine takeH 2 8 (.string (s ++ ⟨#[32]⟩)) ⟨_, rfl, rfl, rfl, ?_⟩ (by kernel_rfl) (by kernel_rfl) (by kernel_rfl) (fun _ _ _ h => h) HS0.out ?_
  · intro wz hSw; go_simp
  try simp only [Act.put, List.setIfInBounds_toArray, List.set_cons_zero, List.set_cons_succ]
  refine takeH 3 9 (.pointer (some ⟨bx, 1, none⟩)) ⟨_, rfl, rfl, rfl, ?_⟩ (by kernel_rfl) (by kernel_rfl) (by kernel_rfl) (fun _ _ _ h => h) HS0.out ?_
  · intro wz hSw; go_simp
  try simp only [Act.put, List.setIfInBounds_toArray, List.set_cons_zero, List.set_cons_succ]
  refine takeH 4 10 (.int .i64 p) ⟨_, rfl, rfl, rfl, ?_⟩ (by kernel_rfl) (by kernel_rfl) (by kernel_rfl) (fun _ _ _ h => h) HS0.out ?_
  · intro wz hSw; obtain ⟨x0, x1, x2, x3, _⟩ := Ag4.out (show Ag4 98 wz bx (.string s) (.int .i64 p) (.int .i64 b) (.int .i64 k) from hSw); go_simp
  try simp only [Act.put, List.setIfInBounds_toArray, List.set_cons_zero, List.set_cons_succ]
  refine takeH 5 11 (.pointer (some ⟨bx, 2, none⟩)) ⟨_, rfl, rfl, rfl, ?_⟩ (by kernel_rfl) (by kernel_rfl) (by kernel_rfl) (fun _ _ _ h => h) HS0.out ?_
  · intro wz hSw; go_simp
  try simp only [Act.put, List.setIfInBounds_toArray, List.set_cons_zero, List.set_cons_succ]
  refine takeH 6 12 (.int .i64 b) ⟨_, rfl, rfl, rfl, ?_⟩ (by kernel_rfl) (by kernel_rfl) (by kernel_rfl) (fun _ _ _ h => h) HS0.out ?_
  · intro wz hSw; obtain ⟨x0, x1, x2, x3, _⟩ := Ag4.out (show Ag4 98 wz bx (.string s) (.int .i64 p) (.int .i64 b) (.int .i64 k) from hSw); go_simp
  try simp only [Act.put, List.setIfInBounds_toArray, List.set_cons_zero, List.set_cons_succ]
  refine takeH 7 13 (.pointer (some ⟨bx, 3, none⟩)) ⟨_, rfl, rfl, rfl, ?_⟩ (by kernel_rfl) (by kernel_rfl) (by kernel_rfl) (fun _ _ _ h => h) HS0.out ?_
  · intro wz hSw; go_simp
  try simp only [Act.put, List.setIfInBounds_toArray, List.set_cons_zero, List.set_cons_succ]
  refine takeH 8 14 (.int .i64 k) ⟨_, rfl, rfl, rfl, ?_⟩ (by kernel_rfl) (by kernel_rfl) (by kernel_rfl) (fun _ _ _ h => h) HS0.out ?_
  · intro wz hSw; obtain ⟨x0, x1, x2, x3, _⟩ := Ag4.out (show Ag4 98 wz bx (.string s) (.int .i64 p) (.int .i64 b) (.int .i64 k) from hSw); go_simp
  try simp only [Act.put, List.setIfInBounds_toArray, List.set_cons_zero, List.set_cons_succ]
  refine wpAnyH_ready (rs := [9]) (by kernel_rfl) (by simp) ?_
  refine AllReadyH.cons rfl (fun K hK => ?_) AllReadyH.nil
  obtain ⟨wq, hwq⟩ : ∃ W, W = World.alloc wd (.cells #[.int .i64 p, .int .i64 b, .int .i64 k] 2) := ⟨_, rfl⟩
  have hbq : Below (World.heap wd).size wd wq := by rw [hwq]; exact (Below.refl _ _).alloc (Nat.le_refl _) _
  have hown := World.ownsRow_lit (base := (World.heap wd).size) (e := 2) (size := 1) wd #[.int .i64 p, .int .i64 b, .int .i64 k] 3 (Nat.le_refl _) (by unfold maxLen; omega) rfl
  rw [← hwq] at hown
  have HRq : Hid (RdI wq (some ⟨(World.heap wd).size, 0, none⟩) 3 [p, b, k]) := RdI.of_own hown (by intro y hy; simp at hy; unfold I64; omega)
  have HBq := hide (HBd.out.trans (hbq.mono HBd.out.size))
  have HSq := hide (Ag4.below HS0.out hbq (Array.getElem?_eq_some_iff.1 HS0.out).1)
  go_simp
  try go_wp2_with fail
  rw [← hwq]
  clear hwq hbq hown
  refine hK.out _ _ HSq.out (fun _ => ?_)
  clear hK K
  try simp only [Act.put, List.setIfInBounds_toArray, List.set_cons_zero, List.set_cons_succ]
  refine wpAnyH_ready (rs := [10]) (by kernel_rfl) (by simp) ?_
  refine AllReadyH.cons rfl (fun K hK => ?_) AllReadyH.nil
  go_simp
  refine (listText_calls (some ⟨(World.heap wd).size, 0, none⟩) 3 3 [p, b, k] wq (HT.out wq HBq.out) HRq.out (by omega) (by intro y hy; simp at hy; omega)).mono ?_
  rintro e wr ⟨rfl, hbr⟩
  have HBr := hide (HBq.out.trans (hbr.mono HBq.out.size))
  have HSr := hide (Ag4.below HSq.out hbr (Array.getElem?_eq_some_iff.1 HSq.out).1)
  clear hbr
  try go_wp2_with fail
  refine hK.out _ _ HSr.out (fun _ => ?_)
  clear hK K
  try simp only [Act.put, List.setIfInBounds_toArray, List.set_cons_zero, List.set_cons_succ]
  refine takeH 11 17 (.string (s ++ ⟨#[32]⟩ ++ lisT [p, b, k])) ⟨_, rfl, rfl, rfl, ?_⟩ (by kernel_rfl) (by kernel_rfl) (by kernel_rfl) (fun _ _ _ h => h) HSr.out ?_
  · intro wz hSw; go_simp
  try simp only [Act.put, List.setIfInBounds_toArray, List.set_cons_zero, List.set_cons_succ]
  refine takeH 12 2 (.string (s ++ ⟨#[32]⟩ ++ lisT [p, b, k])) ⟨_, rfl, rfl, rfl, ?_⟩ (by kernel_rfl) (by kernel_rfl) (by kernel_rfl) (fun _ _ _ h => h) HSr.out ?_
  · intro wz hSw; go_simp
  try simp only [Act.put, List.setIfInBounds_toArray, List.set_cons_zero, List.set_cons_succ]
  refine wpAnyH_done (by kernel_rfl) ?_ _
  go_wp2
  go_ret
  exact ⟨rfl, (HB1.out.trans ((show Below w1.heap.size w1 wr from HBr.out).mono HB1.out.size))⟩

end Go.Proofs.YtcclfmapbgdpdaaGreatDoor
