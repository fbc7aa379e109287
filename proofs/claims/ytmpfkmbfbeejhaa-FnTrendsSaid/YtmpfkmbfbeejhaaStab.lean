/- stableCmpFunc and SortStableFunc over int64. -/
import Derived.Test.YtmpfkmbfbeejhaaSymC
import Derived.Test.YtmpfkmbfbeejhaaStabS
import Derived.Test.YtmpfkmbfbeejhaaShIns
namespace Go.Proofs.Ytmpfkmbfbeejhaa
open Go.Shelf Go.RowKit Go.Lib Go.Sort
set_option linter.unusedVariables false
variable {α : Type} [Inhabited α]

set_option maxHeartbeats 4000000 in
set_option maxRecDepth 1000000 in
theorem stable_calls (enc : α → Value) (cf : α → α → Int) (g : Nat) (cb : Array Value) (blk off cap : Nat) (d0 d : Array α) (w0 w : World) (T E : α → α → Prop) (H : Told enc cf g cb blk off d0 w0 T E)
    (hT : Tot T) (hE0 : ∀ x, ¬ E x x) (hs : d0.size = d.size) (SS : SW enc w0 blk off d w) (hd : d.toList.Pairwise E) (n : Nat) (hn : n = d.size) :
    Calls Try.prog 74 #[.slice (some ⟨blk, off, none⟩) n cap, .int .i64 n, .func (.func g) #[] cb] w fun e w' => e = .returned (.tuple #[]) ∧ ∃ d', d'.toList.Perm d.toList ∧ d'.toList.Pairwise T ∧ d'.size = n ∧ SW enc w0 blk off d' w' := by
  have hsm := H.small
  have hn2 : n < 1048576 := by omega
  have HT := hide H
  have HTT := hide hT
  have S0 : Hid (SW enc w0 blk off d w) := SS
  have HD := hide hd
  obtain ⟨xs, hxs⟩ : ∃ q, q = d.toList := ⟨_, rfl⟩
  rw [← hxs] at HD
  have HXS := hide hxs
  have hl : Hid (xs.length = n) := by unfold Hid; rw [hxs, Array.length_toList, hn]
  have INS := hide fun (dk : Array α) (W : World) (a b : Nat) (h1 : dk.size = n) (h2 : SW enc w0 blk off dk W) (h3 : a ≤ b) (h4 : b ≤ n) => (show Calls Try.prog 104 #[.slice (some ⟨blk, off, none⟩) n cap, .int .i64 a, .int .i64 b, .func (.func g) #[] cb] W fun e w' => e = .returned (.tuple #[]) ∧ SW enc w0 blk off (Sort.insertionSort (ltOf cf) dk a b) w' from
    h1 ▸ Try.insI enc cf g cb blk off cap a b d0 dk w0 W H.enter H.lays H.row (by omega) h2 h3 (by omega) (by omega))
  have MRG := hide fun (dk : Array α) (W : World) (P L R S : List α) (a m b : Nat) (h1 : dk.size = n) (h2 : SW enc w0 blk off dk W) (h3 : dk.toList = P ++ L ++ R ++ S) (h4 : L ≠ []) (h5 : R ≠ []) (h6 : L.Pairwise T) (h7 : R.Pairwise T) (h8 : ∀ x ∈ L, ∀ y ∈ R, E x y) (h9 : a = P.length) (h10 : m = a + L.length) (h11 : b = m + R.length) => (show Calls Try.prog 105 #[.slice (some ⟨blk, off, none⟩) n cap, .int .i64 a, .int .i64 m, .int .i64 b, .func (.func g) #[] cb] W (MrgPost enc w0 blk off T P L R S dk) from by
    have := symMerge_calls enc cf g cb blk off cap d0 w0 T E H (L.length + R.length + 1) dk W P L R S a m b (by omega) (by omega) h2 h3 h4 h5 h6 h7 h8 h9 h10 h11
    rwa [hs, ← hn] at this)
  have SZ0 : Hid (d.size = n) := hn.symm
  have ST0 : Hid (St1 T xs d.toList 0 0) := by unfold Hid; rw [← hxs]; exact st1_zero xs
  clear SS hd hs hxs hn hsm H hT
  go_enter Try.func74, Try.ntmps74
  go_wp2
  go_loopw [7, 8] (fun p q wr => ∃ (k a : Nat) (dk : Array α), p = .int .i64 ((a : Nat) : Int) ∧ q = .int .i64 ((a + 20 : Nat) : Int) ∧ a ≤ n ∧ Hid (dk.size = n) ∧ Hid (St1 T xs dk.toList k a) ∧ Hid (SW enc w0 blk off dk wr)) (fun p _ _ => n - (intOf p).toNat)
  case atStart => exact ⟨0, 0, d, rfl, rfl, Nat.zero_le _, SZ0, ST0, S0⟩
  case round =>
    clear S0 ST0 SZ0
    obtain ⟨k, a, dk, rfl, rfl, han, hsk, ST, S1⟩ := hrel
    by_cases hb : a + 20 ≤ n
    · have C := hide (INS.out dk wr a (a + 20) hsk.out S1.out (by omega) hb)
      have NX := hide (st1_step HTT.out hE0 HT.out.yes HT.out.no HD.out ST.out (by rw [hsk.out]; exact hb))
      go_wp2_with fail
      refine C.out.mono ?_
      rintro e w2 ⟨rfl, h2⟩
      have S2 := hide h2
      clear h2
      go_wp2
      go_roundw
      case rel => exact ⟨k + 1, a + 20, _, by go_num, by go_num, hb, by unfold Hid; rw [NX.out.2]; exact hsk.out, NX.out.1, S2⟩
      case measure => simp [intOf]; omega
    · have C := hide (INS.out dk wr a n hsk.out S1.out han (Nat.le_refl _))
      have NX := hide (st1_end HTT.out hE0 HT.out.yes HT.out.no HD.out ST.out (by rw [hsk.out]; exact han) (by rw [hsk.out]; omega))
      rw [hsk.out] at NX
      go_wp2_with fail
      refine C.out.mono ?_
      rintro e w2 ⟨rfl, h2⟩
      obtain ⟨d2, hd2⟩ : ∃ q, q = Sort.insertionSort (ltOf cf) dk a n := ⟨_, rfl⟩
      rw [← hd2] at h2 NX
      have S2 := hide h2
      clear h2 C hd2 ST S1 hsk hb
      go_wp2_with fail
      go_loopw [6, 7, 8, 9] (fun p q r m ws => ∃ (s : Nat) (dk : Array α), p = .int .i64 ((s : Nat) : Int) ∧ 1 ≤ s ∧ s < 2097152 ∧ Hid (dk.size = n) ∧ Hid (∀ j, Okr T xs dk.toList s j) ∧ Hid (SW enc w0 blk off dk ws)) (fun p _ _ _ _ => 2097152 - (intOf p).toNat)
      case atStart => exact ⟨20, d2, rfl, by omega, by omega, NX.out.2.1, NX.out.1, S2⟩
      case round =>
        clear S2 NX
        obtain ⟨s, dk, rfl, hs1, hs2, hsk, OK, S1⟩ := hrel
        have hlk : Hid (dk.toList.length = xs.length) := by unfold Hid; rw [Array.length_toList, hsk.out, hl.out]
        by_cases hsn : s < n
        · have ST0 := hide (st3_zero OK.out hlk.out)
          go_wp2_with fail
          go_loopw [7, 8] (fun p q wt => ∃ (k a : Nat) (dk : Array α), p = .int .i64 ((a : Nat) : Int) ∧ q = .int .i64 ((a + 2 * s : Nat) : Int) ∧ a ≤ n ∧ Hid (dk.size = n) ∧ Hid (St3 T xs dk.toList s k a) ∧ Hid (SW enc w0 blk off dk wt)) (fun p _ _ => n - (intOf p).toNat)
          case atStart => exact ⟨0, 0, dk, rfl, by go_num, Nat.zero_le _, hsk, ST0, S1⟩
          case round =>
            clear S1 ST0 OK hsk hlk
            obtain ⟨k, a, dk, rfl, rfl, han, hsk, ST, S1⟩ := hrel
            have hlk : Hid (dk.toList.length = n) := by unfold Hid; rw [Array.length_toList, hsk.out]
            by_cases hb : a + 2 * s ≤ n
            · obtain ⟨P, L, R, S, c0, c1, c2, c3, c4, c5, c6, c7, c8⟩ := st3_cut HD.out ST.out (by rw [hlk.out]; omega)
              rw [hlk.out] at c3 c8
              have C := hide (MRG.out dk wr P L R S a (a + s) (a + 2 * s) hsk.out S1.out c0 (by intro e; subst e; simp at c2; omega) (by intro e; subst e; simp at c3; omega) c5 c6 c7 c1.symm (by omega) (by omega))
              have HC8 := hide (fun M (h1 : M.Perm (L ++ R)) h2 => (c8 M h1 h2).1 hb)
              clear c0 c1 c2 c3 c4 c5 c6 c7 c8
              go_wp2_with fail
              refine C.out.mono ?_
              rintro e w2 ⟨rfl, M, d2, h1, h2, h3, h4, h5⟩
              have NX := hide (HC8.out M h2 h3)
              rw [← h1] at NX
              have S2 := hide h5
              have SZ : Hid (d2.size = n) := h4.trans hsk.out
              clear h1 h2 h3 h4 h5 C HC8
              go_wp2
              go_roundw
              case rel => exact ⟨k + 1, a + 2 * s, d2, by go_num, by go_num, hb, SZ, NX, S2⟩
              case measure => simp [intOf]; omega
            · by_cases hm : a + s < n
              · obtain ⟨P, L, R, S, c0, c1, c2, c3, c4, c5, c6, c7, c8⟩ := st3_cut HD.out ST.out (by rw [hlk.out]; omega)
                rw [hlk.out] at c3 c8
                have C := hide (MRG.out dk wr P L R S a (a + s) n hsk.out S1.out c0 (by intro e; subst e; simp at c2; omega) (by intro e; subst e; simp at c3; omega) c5 c6 c7 c1.symm (by omega) (by omega))
                have HC8 := hide (fun M (h1 : M.Perm (L ++ R)) h2 => (c8 M h1 h2).2 (by omega))
                clear c0 c1 c2 c3 c4 c5 c6 c7 c8
                go_wp2_with fail
                refine C.out.mono ?_
                rintro e w2 ⟨rfl, M, d2, h1, h2, h3, h4, h5⟩
                have NX := hide (HC8.out M h2 h3)
                rw [← h1] at NX
                have S2 := hide h5
                have SZ : Hid (d2.size = n) := h4.trans hsk.out
                clear h1 h2 h3 h4 h5 C HC8
                go_wp2
                go_roundw
                case rel => exact ⟨2 * s, d2, by go_num, by omega, by omega, SZ, NX, S2⟩
                case measure => simp [intOf]; omega
              · have NX := hide (st3_stop ST.out (by rw [hlk.out]; omega))
                go_wp2
                go_roundw
                case rel => exact ⟨2 * s, dk, by go_num, by omega, by omega, hsk, NX, S1⟩
                case measure => simp [intOf]; omega
        · have FIN := hide (okr_whole (xs0 := xs) (xs := dk.toList) (s := s) hlk.out (by rw [hlk.out, hl.out]; omega) (OK.out 0))
          rw [HXS.out] at FIN
          go_wp2
          go_end0
          exact ⟨rfl, dk, FIN.out.1, FIN.out.2, hsk.out, S1.out⟩

set_option maxHeartbeats 4000000 in
theorem sortStable_calls (enc : α → Value) (cf : α → α → Int) (g : Nat) (cb : Array Value) (blk off cap : Nat) (d : Array α) (w : World) (T E : α → α → Prop) (H : Told enc cf g cb blk off d w T E)
    (hT : Tot T) (hE0 : ∀ x, ¬ E x x) (hd : d.toList.Pairwise E) (n : Nat) (hn : n = d.size) :
    Calls Try.prog 46 #[.slice (some ⟨blk, off, none⟩) n cap, .func (.func g) #[] cb] w fun e w' => e = .returned (.tuple #[]) ∧ ∃ d', d'.toList.Perm d.toList ∧ d'.toList.Pairwise T ∧ d'.size = n ∧ SW enc w blk off d' w' := by
  have C := hide (stable_calls enc cf g cb blk off cap d d w w T E H hT hE0 rfl (SW.start H.row.hH) hd n hn)
  have hn2 : n < 1048576 := by have := H.small; omega
  clear H hT hd hn
  go_enter Try.func46, Try.ntmps46
  go_wp2_with fail
  refine C.out.mono ?_
  rintro e w2 ⟨rfl, d', h1, h2, h3, h4⟩
  have HF := hide (And.intro h1 (And.intro h2 (And.intro h3 h4)))
  clear h1 h2 h3 h4
  go_wp2
  go_end0
  exact ⟨rfl, d', HF.out.1, HF.out.2.1, HF.out.2.2.1, HF.out.2.2.2⟩

end Go.Proofs.Ytmpfkmbfbeejhaa
