/- The source of the draws: a struct in memory that reads bytes. What each draw gives, within its bounds, and what it leaves. -/
import Derived.Test.YtcclfmapbgdpdaaGreatDoorFresh
import Derived.Laws.BitsLemmas
import Derived.Test.YtcclfmapbgdpdaaGreatDoorRows
namespace Go.Proofs.YtcclfmapbgdpdaaGreatDoor
open Go.RowKit
set_option linter.unusedVariables false

def cY (bs : List Int) : List Value := bs.map (Value.int .u8)
/-- A []byte that reads as bs. -/
def RdY (w : World) (A : Option Addr) (n : Nat) (bs : List Int) : Prop := Rd w A n 1 (cY bs) ∧ ∀ x ∈ bs, 0 ≤ x ∧ x ≤ 255
theorem RdY.len {w : World} {A : Option Addr} {n : Nat} {bs : List Int} (h : RdY w A n bs) : bs.length = n := by simpa [cY] using h.1.1
theorem RdY.below {w w' : World} {A : Option Addr} {n B : Nat} {bs : List Int} (h : RdY w A n bs) (hb : Below B w w') (hB : w.heap.size ≤ B) : RdY w' A n bs := ⟨h.1.below hb hB, h.2⟩
/-- A source at block g, at place a of the bytes .slice A n c. -/
structure Src (w : World) (g : Nat) (A : Option Addr) (n c a : Nat) : Prop where
  at_ : ∃ sd : Int, w.heap[g]? = some (.cells #[.slice A n c, .int .i64 a, .int .u64 sd] 175 (0, 0))
  code : ∀ k, k < n → ∃ b off v, A = some ⟨b, off, none⟩ ∧ b < g ∧ w.cell? ⟨b, off + k, none⟩ = some (.int .u8 v) ∧ 0 ≤ v ∧ v ≤ 255
  small : n ≤ 1048576
theorem Src.lt {w : World} {g n c a : Nat} {A : Option Addr} (h : Src w g A n c a) : g < w.heap.size := by
  obtain ⟨sd, hs⟩ := h.at_
  exact (Array.getElem?_eq_some_iff.1 hs).1
theorem Src.keep {w w' : World} {g n c a : Nat} {A : Option Addr} (h : Src w g A n c a) (hk : ∀ k, k ≤ g → w'.heap[k]? = w.heap[k]?) : Src w' g A n c a := by
  obtain ⟨sd, hs⟩ := h.at_
  refine ⟨⟨sd, by rw [hk g (Nat.le_refl _)]; exact hs⟩, fun k hkn => ?_, h.small⟩
  obtain ⟨b, off, v, h1, h2, h3, h4⟩ := h.code k hkn
  refine ⟨b, off, v, h1, h2, ?_, h4⟩
  rw [← h3]
  simp only [World.cell?, hk b (by omega)]
theorem Src.below {w w' : World} {g n c a B : Nat} {A : Option Addr} (h : Src w g A n c a) (hb : Below B w w') (hB : g < B) : Src w' g A n c a := h.keep fun k hk => hb.block k (by omega)
theorem Src.wr {w w' : World} {g n c a lo hi : Nat} {A : Option Addr} (h : Src w g A n c a) (hw : Wr lo hi w w') (hl : g < lo) : Src w' g A n c a := h.keep fun k hk => hw.block k (by have := h.lt; omega) (by omega)
/-- The cells of a source. -/
theorem Src.cells {w : World} {g n c a : Nat} {A : Option Addr} (h : Src w g A n c a) : ∃ sd : Int, w.cell? ⟨g, 0, none⟩ = some (.slice A n c) ∧ w.cell? ⟨g, 1, none⟩ = some (.int .i64 a) ∧ w.cell? ⟨g, 2, none⟩ = some (.int .u64 sd) ∧ w.frozen? ⟨g, 1, none⟩ = false ∧ w.frozen? ⟨g, 2, none⟩ = false ∧
    Hid (∀ a' : Nat, Src (w.setCell ⟨g, 1, none⟩ (.int .i64 a')) g A n c a') ∧ Hid (∀ sd' : Int, Src (w.setCell ⟨g, 2, none⟩ (.int .u64 sd')) g A n c a) := by
  obtain ⟨sd, hs⟩ := h.at_
  have code : ∀ (off' : Nat) (u : Value) k, k < n → ∃ b off v, A = some ⟨b, off, none⟩ ∧ b < g ∧ (w.setCell ⟨g, off', none⟩ u).cell? ⟨b, off + k, none⟩ = some (.int .u8 v) ∧ 0 ≤ v ∧ v ≤ 255 := fun off' u k hk => by
    obtain ⟨b, off, v, h1, h2, h3, h4⟩ := h.code k hk
    refine ⟨b, off, v, h1, h2, ?_, h4⟩
    rw [World.cell?_setCell_other _ _ _ _ (by intro e; simp only [Addr.mk.injEq] at e; omega)]
    exact h3
  have f1 := heap_setCell_same w g 1 #[.slice A n c, .int .i64 a, .int .u64 sd] 175
  have f2 := heap_setCell_same w g 2 #[.slice A n c, .int .i64 a, .int .u64 sd] 175
  refine ⟨sd, ?_, ?_, ?_, ?_, ?_, fun a' => ⟨⟨sd, by simpa using f1 _ hs⟩, code 1 _, h.small⟩, fun sd' => ⟨⟨sd', by simpa using f2 _ hs⟩, code 2 _, h.small⟩⟩
  · exact (cell_of_row w g 0 _ _ (0, 0) hs).trans rfl
  · exact (cell_of_row w g 1 _ _ (0, 0) hs).trans rfl
  · exact (cell_of_row w g 2 _ _ (0, 0) hs).trans rfl
  · exact frozen_of_row w g 1 _ _ hs
  · exact frozen_of_row w g 2 _ _ hs

theorem Src.next {w : World} {g n c a : Nat} {A : Option Addr} (h : Src w g A n c a) (k : Nat) (sd : Int) : Src (((w.drewN k).setCell ⟨g, 1, none⟩ (.int .i64 ((a + 1 : Nat) : Int))).setCell ⟨g, 2, none⟩ (.int .u64 sd)) g A n c (a + 1) ∧
    Wr g (g + 1) w (((w.drewN k).setCell ⟨g, 1, none⟩ (.int .i64 ((a + 1 : Nat) : Int))).setCell ⟨g, 2, none⟩ (.int .u64 sd)) := by
  have h0 : Src (w.drewN k) g A n c a := h.keep fun _ _ => rfl
  obtain ⟨_, _, _, _, _, _, K1, _⟩ := h0.cells
  obtain ⟨_, _, _, _, _, _, _, K2⟩ := (K1.out (a + 1)).cells
  exact ⟨K2.out sd, (((Wr.refl g (g + 1) w).drewN k).trans (Wr.setCell _ _ (Nat.le_refl _) (Nat.lt_succ_self _))).trans (Wr.setCell _ _ (Nat.le_refl _) (Nat.lt_succ_self _))⟩
theorem u64_and (x : Int) : 0 ≤ wrap64 (bits .and .u64 x 255) ∧ wrap64 (bits .and .u64 x 255) ≤ 255 := by
  have h : (BitVec.ofInt 64 x &&& BitVec.ofInt 64 255).toNat ≤ 255 := by
    rw [BitVec.toNat_and]
    exact Nat.le_trans Nat.and_le_right (by decide)
  have e : bits .and .u64 x 255 = IntKind.u64.wrap ((BitVec.ofInt 64 x &&& BitVec.ofInt 64 255).toNat : Int) := rfl
  rw [e]
  generalize (BitVec.ofInt 64 x &&& BitVec.ofInt 64 255).toNat = y at h
  have e2 : IntKind.u64.wrap (y : Int) = y := by simp [IntKind.wrap, IntKind.bits, IntKind.signed]; omega
  rw [e2]
  unfold wrap64
  omega

set_option maxHeartbeats 2000000 in
theorem next_calls (g n c a : Nat) (A : Option Addr) (w : World) (h : Src w g A n c a) (ha : a ≤ 1099511627776) :
    Calls Tryz.prog 150 #[.pointer (some ⟨g, 0, none⟩)] w fun e w' => ∃ x : Int, e = .returned (.int .i64 x) ∧ 0 ≤ x ∧ x ≤ 255 ∧ Src w' g A n c (a + 1) ∧ Wr g (g + 1) w w' := by
  have hn := h.small
  have HS := hide h
  obtain ⟨sd, c0, c1, c2, f1, f2, K1, K2⟩ := h.cells
  clear h K1 K2
  by_cases hlt : a < n
  · obtain ⟨b, off, v, rfl, hb, hc, hv1, hv2⟩ := HS.out.code a hlt
    have i0 : (a : Int) < (n : Int) := by omega
    have i1 : (0 : Int) ≤ (a : Int) := by omega
    have i2 : (a : Int) + 1 ≤ (n : Int) := by omega
    go_enter Tryz.func150, Tryz.ntmps150
    go_wp2
    go_quiet (fail)
    obtain ⟨nq1, hnq⟩ : ∃ q, q = nq := ⟨_, rfl⟩
    rw [← hnq]
    clear hnq
    go_wp2
    go_quiet (fail)
    go_wp2
    generalize (IntKind.u64.wrap (IntKind.u64.wrap (IntKind.u64.wrap (sd * 6364136223846793005) + v) + 1442695040888963407)) = sd2
    obtain ⟨wz, hwz⟩ : ∃ wz, wz = ((w.drewN (nq1 + nq)).setCell ⟨g, 1, none⟩ (.int .i64 ((a : Int) + 1))).setCell ⟨g, 2, none⟩ (.int .u64 sd2) := ⟨_, rfl⟩
    have N2 := HS.out.next (nq1 + nq) sd2
    rw [show ((a + 1 : Nat) : Int) = (a : Int) + 1 by omega, ← hwz] at N2
    rw [← hwz]
    have N3 := hide N2
    obtain ⟨sd3, d0, d1, d2, _, _, _, _⟩ := N2.1.cells
    rw [show ((a + 1 : Nat) : Int) = (a : Int) + 1 by omega] at d1
    clear hwz N2 c0 c1 c2 f1 f2
    go_quiet (fail)
    go_wp2
    go_ret
    exact ⟨v, rfl, hv1, hv2, N3.out.1.keep fun _ _ => rfl, N3.out.2.drewN _⟩
  · have i2 : ¬ (a : Int) + 1 ≤ (n : Int) := by omega
    go_enter Tryz.func150, Tryz.ntmps150
    go_wp2
    go_quiet (fail)
    go_wp2
    generalize (IntKind.u64.wrap (IntKind.u64.wrap (IntKind.u64.wrap (sd * 6364136223846793005)) + 1442695040888963407)) = sd2
    obtain ⟨wz, hwz⟩ : ∃ wz, wz = ((w.drewN (nq)).setCell ⟨g, 1, none⟩ (.int .i64 ((a : Int) + 1))).setCell ⟨g, 2, none⟩ (.int .u64 sd2) := ⟨_, rfl⟩
    have N2 := HS.out.next (nq) sd2
    rw [show ((a + 1 : Nat) : Int) = (a : Int) + 1 by omega, ← hwz] at N2
    rw [← hwz]
    have N3 := hide N2
    obtain ⟨sd3, d0, d1, d2, _, _, _, _⟩ := N2.1.cells
    rw [show ((a + 1 : Nat) : Int) = (a : Int) + 1 by omega] at d1
    clear hwz N2 c0 c1 c2 f1 f2
    go_quiet (fail)
    go_wp2
    go_ret
    exact ⟨_, rfl, (u64_and _).1, (u64_and _).2, N3.out.1.keep fun _ _ => rfl, N3.out.2.drewN _⟩


/-- What a draw below n leaves. -/
def PickPost (g : Nat) (A : Option Addr) (n c a : Nat) (m : Int) (w : World) (e : Ending) (w' : World) : Prop :=
  ∃ (x : Nat) (a' : Nat), e = .returned (.int .i64 (x : Int)) ∧ ((x : Int) < m ∨ x = 0) ∧ a' ≤ a + 2 ∧ Src w' g A n c a' ∧ Wr g (g + 1) w w'

theorem rem_nat {x m : Int} (h0 : 0 ≤ x) (hm : ¬ m ≤ 1) : ∃ k : Nat, (k : Int) = x % m ∧ (k : Int) < m := by
  have h1 := Int.emod_nonneg x (show m ≠ 0 by omega)
  have h2 := Int.emod_lt_of_pos x (show 0 < m by omega)
  exact ⟨(x % m).toNat, by omega, by omega⟩

set_option maxHeartbeats 2000000 in
theorem pick_calls (g n c a : Nat) (A : Option Addr) (m : Int) (w : World) (h : Src w g A n c a) (ha : a ≤ 549755813888) (hm : I64 m) :
    Calls Tryz.prog 70 #[.pointer (some ⟨g, 0, none⟩), .int .i64 m] w (PickPost g A n c a m w) := by
  have HS := hide h
  by_cases h1 : m ≤ 1
  · clear h
    go_enter Tryz.func70, Tryz.ntmps70
    go_wp2
    go_ret
    exact ⟨0, a, rfl, .inr rfl, by omega, HS.out, Wr.refl _ _ _⟩
  · have N1 := hide (next_calls g n c a A w h (by omega))
    clear h
    have hm0 : m ≠ 0 := by omega
    go_enter Tryz.func70, Tryz.ntmps70
    go_wp2_with fail
    refine N1.out.mono ?_
    rintro e w1 ⟨x, rfl, hx1, hx2, s1, r1⟩
    have HS1 := hide (And.intro s1 r1)
    clear s1 r1 N1
    by_cases h2 : 200 < m
    · have N2 := hide (next_calls g n c (a + 1) A w1 HS1.out.1 (by omega))
      go_wp2_with fail
      refine N2.out.mono ?_
      rintro e w2 ⟨y, rfl, hy1, hy2, s2, r2⟩
      have HS2 := hide (And.intro s2 (HS1.out.2.trans r2))
      clear s2 r2 N2
      obtain ⟨k, hk, hkm⟩ := rem_nat (m := m) (show 0 ≤ x * 256 + y by omega) (by omega)
      have HK := hide (And.intro hk hkm)
      clear hk hkm
      go_wp2
      go_ret
      exact ⟨k, a + 2, by rw [HK.out.1]; rfl, .inl HK.out.2, Nat.le_refl _, HS2.out.1, HS2.out.2⟩
    · obtain ⟨k, hk, hkm⟩ := rem_nat (m := m) hx1 (by omega)
      have HK := hide (And.intro hk hkm)
      clear hk hkm
      go_wp2
      all_goals go_ret
      all_goals exact ⟨k, a + 1, by rw [HK.out.1]; rfl, .inl HK.out.2, by omega, HS1.out.1, HS1.out.2⟩

theorem one_calls (g n c a : Nat) (A : Option Addr) (m : Int) (w : World) (h : Src w g A n c a) (ha : a ≤ 549755813888) (hm : I64 m) :
    Calls Tryz.prog 83 #[.pointer (some ⟨g, 0, none⟩), .int .i64 m] w fun e w' => ∃ (b : Bool) (a' : Nat), e = .returned (.bool b) ∧ a' ≤ a + 2 ∧ Src w' g A n c a' ∧ Wr g (g + 1) w w' := by
  have P := hide (pick_calls g n c a A m w h ha hm)
  clear h
  go_enter Tryz.func83, Tryz.ntmps83
  go_wp2_with fail
  refine P.out.mono ?_
  rintro e w1 ⟨x, a', rfl, hx, ha', s1, r1⟩
  have HS := hide (And.intro ha' (And.intro s1 r1))
  clear s1 r1 ha' hx
  go_wp2
  go_ret
  exact ⟨_, a', rfl, HS.out.1, HS.out.2.1, HS.out.2.2⟩

set_option maxHeartbeats 1000000 in
theorem among_calls (g n c a lo hi l cap : Nat) (A B : Option Addr) (xs : List Int) (w : World) (h : Src w g A n c a) (ha : a ≤ 549755813888) (hf : FrI w lo hi 2 B l xs) (hlo : g < lo) (hl : 1 ≤ l) (hl2 : l ≤ 1000) :
    Calls Tryz.prog 84 #[.pointer (some ⟨g, 0, none⟩), .slice B l cap] w fun e w' => ∃ (x : Int) (a' : Nat), e = .returned (.int .i64 x) ∧ x ∈ xs ∧ I64 x ∧ a' ≤ a + 2 ∧ Src w' g A n c a' ∧ Wr g (g + 1) w w' := by
  have P := hide (pick_calls g n c a A l w h ha (by unfold I64; omega))
  have HF := hide hf
  clear h hf
  go_enter Tryz.func84, Tryz.ntmps84
  go_wp2_with fail
  refine P.out.mono ?_
  rintro e w1 ⟨x, a', rfl, hx, ha', s1, r1⟩
  have hxl : x < l := by omega
  obtain ⟨b, off, y, rfl, hb, hy, hc, hy1, hy2⟩ := (HF.out.wr r1 (.inr hlo)).rd.at hxl
  have HS := hide (And.intro ha' (And.intro s1 r1))
  clear s1 r1 ha' hx P
  have i0 : (0 : Int) ≤ (x : Int) := by omega
  have i1 : (x : Int) < (l : Int) := by omega
  go_wp2
  go_ret
  exact ⟨y, a', rfl, List.mem_of_getElem? hy.out, ⟨hy1, hy2⟩, HS.out.1, HS.out.2.1, HS.out.2.2⟩

/-- A source is made. -/
theorem l00From_calls (n c : Nat) (A : Option Addr) (bs : List Int) (w : World) (h : RdY w A n bs) (hn : n ≤ 1048576) :
    Calls Tryz.prog 68 #[.slice A n c] w fun e w' => e = .returned (.pointer (some ⟨w.heap.size, 0, none⟩)) ∧ Src w' w.heap.size A n c 0 ∧ Below w.heap.size w w' ∧ w'.heap.size = w.heap.size + 1 := by
  have HY := hide h
  clear h
  go_enter Tryz.func68, Tryz.ntmps68
  go_wp2
  go_ret
  refine ⟨rfl, ⟨⟨0, heap_alloc_new w _⟩, fun k hk => ?_, hn⟩, (Below.refl _ _).alloc (Nat.le_refl _) _, by simp⟩
  obtain ⟨b, off, u, hA, hb, hu, hc⟩ := HY.out.1.at1 hk
  have hk2 : k < bs.length := by rw [HY.out.len]; exact hk
  have hx := List.getElem?_eq_getElem hk2
  simp only [cY, List.getElem?_map, hx, Option.map_some, Option.some.injEq] at hu
  subst hu
  have := HY.out.2 _ (List.getElem_mem hk2)
  exact ⟨b, off, _, hA, hb, (World.cell?_alloc_lt w _ _ hb).trans hc, this.1, this.2⟩

end Go.Proofs.YtcclfmapbgdpdaaGreatDoor
