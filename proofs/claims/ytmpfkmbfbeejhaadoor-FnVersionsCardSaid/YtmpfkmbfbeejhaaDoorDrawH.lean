/- The draw of a history. -/
import Derived.Test.YtmpfkmbfbeejhaaDoorDraw27
import Derived.Test.YtmpfkmbfbeejhaaDoorHisL
import Derived.Test.YtmpfkmbfbeejhaaDoorGrow
namespace Go.Proofs.YtmpfkmbfbeejhaaDoor
open Go.RowKit
set_option linter.unusedVariables false

set_option maxHeartbeats 1000000 in
/-- One of some texts. -/
theorem text_calls (g n c a b cap : Nat) (A : Option Addr) (xs : List ByteArray) (w : World) (h : Src w g A n c a) (ha : a ≤ 549755813888) (hx : ∀ j s, xs[j]? = some s → w.cell? ⟨b, j, none⟩ = some (.string s)) (hb : b < w.heap.size) (hlo : g < b) (hl : 1 ≤ xs.length) (hl2 : xs.length ≤ 1000) :
    Calls Tryd.prog 49 #[.pointer (some ⟨g, 0, none⟩), .slice (some ⟨b, 0, none⟩) xs.length cap] w fun e w' => ∃ (s : ByteArray) (a' : Nat), e = .returned (.string s) ∧ s ∈ xs ∧ a' ≤ a + 2 ∧ Src w' g A n c a' ∧ Wr g (g + 1) w w' := by
  have P := hide (pick_calls g n c a A xs.length w h ha (by unfold I64; omega))
  have HX := hide hx
  obtain ⟨l, hl3⟩ : ∃ l, l = xs.length := ⟨_, rfl⟩
  have HL := hide hl3
  rw [← hl3] at P hl hl2 ⊢
  clear h hx hl3
  go_enter Tryd.func49, Tryd.ntmps49
  go_wp2_with fail
  refine P.out.mono ?_
  rintro e w1 ⟨x, a', rfl, hx, ha', s1, r1⟩
  have hxl : x < l := by omega
  have hx0 := List.getElem?_eq_getElem (l := xs) (i := x) (by rw [← HL.out]; exact hxl)
  obtain ⟨s, hs⟩ : ∃ s, s = xs[x]'(by rw [← HL.out]; exact hxl) := ⟨_, rfl⟩
  rw [← hs] at hx0
  have hc : w1.cell? ⟨b, x, none⟩ = some (.string s) := (r1.cell (p := ⟨b, x, none⟩) hb (.inr hlo)).trans (HX.out x s hx0)
  have HS := hide (And.intro ha' (And.intro s1 (And.intro r1 (List.mem_of_getElem? hx0))))
  clear s1 r1 ha' hx P hs hx0
  have i0 : (0 : Int) ≤ (x : Int) := by omega
  have i1 : (x : Int) < (l : Int) := by omega
  go_wp2
  go_ret
  exact ⟨s, a', rfl, HS.out.2.2.2, HS.out.1, HS.out.2.1, HS.out.2.2.1⟩

/-- A list of versions that is drawn: its row, and its states somewhere from lo on. -/
def GrR (w : World) (base lo : Nat) (v : Value) (m : Nat) (rs : List VerC) : Prop :=
  w.ownsRow base 48 4 v m (rs.map cV).flatten ∧ rs.length = m ∧ ∀ r ∈ rs, r.good ∧ Sm r.state ∧ ∃ p q, lo ≤ p ∧ q ≤ w.heap.size ∧ Fr w p q 57 2 r.A r.n (r.state.map cS).flatten
theorem GrR.nil {w : World} {base lo : Nat} {v : Value} (h : w.ownsRow base 48 4 v 0 []) : GrR w base lo v 0 [] := ⟨by simpa using h, rfl, by simp⟩
theorem GrR.below {w w' : World} {base lo m : Nat} {v : Value} {rs : List VerC} (h : GrR w base lo v m rs) (hb : Below w.heap.size w w') : GrR w' base lo v m rs :=
  ⟨own_below h.1 hb (Nat.le_refl _), h.2.1, fun r hr => by
    obtain ⟨h1, h2, p, q, h3, h4, h5⟩ := h.2.2 r hr
    exact ⟨h1, h2, p, q, h3, Nat.le_trans h4 hb.size, h5.below hb h4⟩⟩
theorem GrR.wr {w w' : World} {base lo m lo' hi' : Nat} {v : Value} {rs : List VerC} (h : GrR w base lo v m rs) (hw : Wr lo' hi' w w') (h1 : hi' ≤ base) (h2 : hi' ≤ lo) : GrR w' base lo v m rs :=
  ⟨own_wrv h.1 hw h1, h.2.1, fun r hr => by
    obtain ⟨k1, k2, p, q, h3, h4, h5⟩ := h.2.2 r hr
    exact ⟨k1, k2, p, q, h3, Nat.le_trans h4 hw.size, h5.wr hw (.inr (Nat.le_trans h2 h3))⟩⟩
theorem GrR.push {w2 w4 : World} {base lo m s0 s1 : Nat} {v v' : Value} {rs : List VerC} {r : VerC} (h : GrR w2 base lo v m rs) (hst : Fr w2 s0 s1 57 2 r.A r.n (r.state.map cS).flatten) (hs0 : lo ≤ s0) (hs1 : s1 ≤ w2.heap.size) (hg : r.good) (hsm : Sm r.state)
    (hown : w4.ownsRow base 48 4 v' (m + 1) ((rs.map cV).flatten ++ cV r)) (hgr : w2.grownBy w4 v.ownBlock) : GrR w4 base lo v' (m + 1) (rs ++ [r]) := by
  have hne : 57 ≠ 48 := by decide
  have hv : ∀ g, v.ownBlock = some g → ∃ cur, w2.heap[g]? = some (.cells cur 48 (0, 0)) := fun g hq => own_block h.1 hq
  have hz := hgr.size
  refine ⟨by simpa using hown, by rw [List.length_append, h.2.1]; rfl, fun x hx => ?_⟩
  rcases List.mem_append.1 hx with hx | hx
  · obtain ⟨k1, k2, p, q, h3, h4, h5⟩ := h.2.2 x hx
    exact ⟨k1, k2, p, q, h3, Nat.le_trans h4 hz, h5.kept_of hgr 48 hne hv⟩
  · have : x = r := by simpa using hx
    subst this
    exact ⟨hg, hsm, s0, s1, hs0, Nat.le_trans hs1 hz, hst.kept_of hgr 48 hne hv⟩
theorem GrR.rd {w : World} {base lo m c : Nat} {A : Option Addr} {rs : List VerC} (h : GrR w base lo (.slice A m c) m rs) : RdV w A m rs :=
  ⟨Rd.of_own h.1, h.2.1, fun r hr => by
    obtain ⟨k1, k2, p, q, h3, h4, h5⟩ := h.2.2 r hr
    exact ⟨k1.1, k1.2.1, k1.2.2.1, ⟨h5.rd, k1.2.2.2.1, k1.2.2.2.2.1⟩, k1.2.2.2.2.2⟩⟩
/-- The three memos. -/
def memS : List ByteArray := [⟨#[]⟩, ⟨#[110, 101, 119]⟩, ⟨#[97, 32, 98]⟩]
theorem memS_ok {s : ByteArray} (h : s ∈ memS) : memoB s = true ∧ s.size ≤ 3 := by
  unfold memS at h
  simp only [List.mem_cons, List.not_mem_nil, or_false] at h
  rcases h with rfl | rfl | rfl
  · exact ⟨by decide +kernel, by decide⟩
  · exact ⟨by decide +kernel, by decide⟩
  · exact ⟨by decide +kernel, by decide⟩

/-- What drawing a history leaves. -/
def HiPost (g : Nat) (A : Option Addr) (n c a : Nat) (w : World) (e : Ending) (w' : World) : Prop :=
  ∃ (A' : Option Addr) (m c' : Nat) (rs : List VerC) (a' : Nat), e = .returned (.slice A' m c') ∧ GrR w' w.heap.size w.heap.size (.slice A' m c') m rs ∧ histB (zV rs) = true ∧ m ≤ 5 ∧ a' ≤ a + 600 ∧ Src w' g A n c a' ∧ Wr g (g + 1) w w'

set_option maxHeartbeats 8000000 in
set_option maxRecDepth 100000 in
theorem l27Draw_calls (g n c a : Nat) (A : Option Addr) (w : World) (h : Src w g A n c a) (ha : a ≤ 68719476736) :
    Calls Tryd.prog 21 #[.pointer (some ⟨g, 0, none⟩)] w (HiPost g A n c a w) := by
  have hg := h.lt
  obtain ⟨w0, hw0⟩ : ∃ w0, w0 = w.alloc (.cells #[] 48) := ⟨_, rfl⟩
  have hb0 : Below w.heap.size w w0 := by rw [hw0]; exact (Below.refl _ _).alloc (Nat.le_refl _) _
  have hin := World.ownsRow_lit (base := w.heap.size) (e := 48) (size := 4) w #[] 0 (Nat.le_refl _) (by simp) rfl
  rw [← hw0] at hin
  have P := hide (pick_calls g n c a A 6 w0 (h.below hb0 hg) (by omega) (by unfold I64; omega))
  have HIN := hide (GrR.nil (lo := w.heap.size) hin)
  have HB0 := hide hb0
  clear hin hb0 h
  go_enter Tryd.func21, Tryd.ntmps21
  go_wp2_with fail
  rw [← hw0]
  clear hw0
  refine P.out.mono ?_
  rintro e w1 ⟨r0, a1, rfl, hr0, ha1, s1, r1⟩
  have hr5 : r0 ≤ 5 := by omega
  have HG1 := hide (HIN.out.wr r1 hg hg)
  have HF1 := hide (And.intro ha1 (And.intro s1 ((Wr.of_below HB0.out).trans r1)))
  clear hr0 ha1 s1 r1 P HIN HB0
  go_wp2_with fail
  go_loopw [3, 4, 5, 6, 7, 8] (fun v i _ _ _ _ wr => ∃ (r m : Nat) (rs : List VerC) (a' : Nat), m + r = r0 ∧ i = .int .i64 r ∧ Hid (GrR wr w.heap.size w.heap.size v m rs ∧ histB (zV rs) = true) ∧ Hid (a' ≤ a + 2 + 90 * m ∧ Src wr g A n c a' ∧ Wr g (g + 1) w wr)) (fun _ i _ _ _ _ _ => (intOf i).toNat)
  case atStart => exact ⟨r0, 0, [], a1, by omega, rfl, ⟨HG1.out, hist_nil⟩, by have := HF1.out.1; omega, HF1.out.2.1, HF1.out.2.2⟩
  case round =>
    clear HG1 HF1
    obtain ⟨r, m, rs, a', hmr, rfl, HG, HR⟩ := hrel
    obtain ⟨A3, c3, rfl⟩ := own_slice HG.out.1.1
    by_cases hr1 : 0 < r
    · obtain ⟨r', rfl⟩ : ∃ r', r = r' + 1 := ⟨r - 1, by omega⟩
      have P := hide (pick_calls g n c a' A ((m : Int) + 1) wr HR.out.2.1 (by have := HR.out; omega) (by unfold I64; omega))
      go_wp2_with fail
      refine P.out.mono ?_
      rintro e w2 ⟨pa, a2, rfl, hpa, ha2, s2, r2⟩
      have hpm : pa ≤ m := by omega
      have HG2 := hide (HG.out.1.wr r2 hg hg)
      have HF2 := hide (And.intro ha2 (And.intro s2 (HR.out.2.2.trans r2)))
      have D := hide (l27DrawState_calls g n c a2 A w2 s2 (by have := HR.out; omega))
      clear hpa ha2 s2 r2 P
      go_wp2_with fail
      refine D.out.mono ?_
      rintro e w3 ⟨A4, m4, c4, ss4, a3, rfl, hown4, hl4, hsm4, ha3, s3, r3⟩
      have hw23 := r3.size
      have hw2z := HF2.out.2.2.size
      have HG3 := hide (HG2.out.wr r3 hg hg)
      have HF3 := hide (And.intro ha3 (And.intro s3 (HF2.out.2.2.trans r3)))
      have HS3 : Hid (Fr w3 w.heap.size w3.heap.size 57 2 A4 m4 (ss4.map cS).flatten ∧ ss4.length = m4 ∧ Sm ss4) := ⟨(Fr.of_own hown4).mono hw2z (Nat.le_refl _), hl4, hsm4⟩
      clear hown4 hl4 hsm4 ha3 s3 r3 D HG2
      -- the parent's state, changed, or the new one
      by_cases hp0 : 0 < pa
      · obtain ⟨b, off, nu, pb, me0, Aq, nq, cq, st, hA, hbl, hx, hc0, hc1, hc2, hc3, _, _, _, _, _, hst, hnq⟩ := HG3.out.rd.at (show pa - 1 < m by omega)
        subst hA
        have hsmq := (HG3.out.2.2 _ (List.mem_of_getElem? hx.out)).2.1
        have C := hide (l27Changed_calls g n c a3 A Aq nq cq st w3 HF3.out.2.1 (by have := HR.out; have := HF2.out; have := HF3.out; omega) hst hsmq)
        have i1 : (pa : Int) - 1 = ((pa - 1 : Nat) : Int) := by omega
        obtain ⟨pb2, hpb⟩ : ∃ q, q = pa - 1 := ⟨_, rfl⟩
        rw [← hpb] at hc0 hc1 hc2 hc3 i1
        have i2 : (0 : Int) ≤ (pb2 : Int) := by omega
        have i3 : (pb2 : Int) < (m : Int) := by omega
        have i4 : (0 : Int) < (pa : Int) := by omega
        clear hx hst hsmq hc0 hc1 hc2 hbl hpb
        go_wp2_with fail
        refine C.out.mono ?_
        rintro e w5 ⟨A5, m5, c5, ss5, a5, rfl, hown5, hl5, hsm5, ha5, s5, r5⟩
        have hw5z := r5.size
        have hw3z := HF3.out.2.2.size
        have HG5 := hide (HG3.out.wr r5 hg hg)
        have HF5 := hide (And.intro ha5 (And.intro s5 (HF3.out.2.2.trans r5)))
        have HS5 : Hid (Fr w5 w.heap.size w5.heap.size 57 2 A5 m5 (ss5.map cS).flatten ∧ ss5.length = m5 ∧ Sm ss5) := ⟨(Fr.of_own hown5).mono hw3z (Nat.le_refl _), hl5, hsm5⟩
        clear hown5 hl5 hsm5 ha5 s5 r5 C HG3 HS3 hc3 i1 i2 i3
        obtain ⟨w6, hw6⟩ : ∃ w6, w6 = w5.alloc (.cells #[.int .i64 ((m : Int) + 1), .int .i64 (pa : Int), .string ⟨#[]⟩, .slice A5 m5 c5] 48) := ⟨_, rfl⟩
        obtain ⟨w7, hw7⟩ : ∃ w7, w7 = w6.alloc (.cells #[.string ⟨#[]⟩, .string ⟨#[110, 101, 119]⟩, .string ⟨#[97, 32, 98]⟩] 9) := ⟨_, rfl⟩
        have hz6 : w6.heap.size = w5.heap.size + 1 := by rw [hw6]; simp
        have hb6 : Below w5.heap.size w5 w6 := by rw [hw6]; exact (Below.refl _ _).alloc (Nat.le_refl _) _
        have hb7 : Below w6.heap.size w6 w7 := by rw [hw7]; exact (Below.refl _ _).alloc (Nat.le_refl _) _
        have hb67 := hb6.trans (hb7.mono hb6.size)
        have hgw : g < w5.heap.size := HF5.out.2.1.lt
        have hv7 : w7.heap[w5.heap.size]? = some (.cells #[.int .i64 ((m : Int) + 1), .int .i64 (pa : Int), .string ⟨#[]⟩, .slice A5 m5 c5] 48 (0, 0)) := by rw [hb7.block _ (by omega), hw6]; exact heap_alloc_new w5 _
        have T := hide (text_calls g n c a5 (w5.heap.size + 1) 3 A memS w7 (HF5.out.2.1.below hb67 hgw) (by have := HF2.out; have := HF3.out; have := HF5.out; have := HR.out; omega) (by
          intro j s hj
          rw [hw7, ← hz6]
          rcases j with _ | _ | _ | j <;> simp [memS] at hj <;> subst hj <;> simp) (by have := hb7.size; rw [hw7]; simp; omega) (by omega) (by simp [memS]) (by simp [memS]))
        have HB67 := hide (And.intro hb67 hv7)
        clear hb6 hb7 hb67 hv7
        go_wp2_with fail
        rw [← hw6, ← hw7]
        clear hw6 hw7 hz6
        refine T.out.mono ?_
        rintro e w8 ⟨me, a8, rfl, hme, ha8, s8, r8⟩
        have hwz7 : w5.heap.size < w7.heap.size := (Array.getElem?_eq_some_iff.1 HB67.out.2).1
        have hv8 := (r8.block w5.heap.size hwz7 (.inr hgw)).trans HB67.out.2
        obtain ⟨hme1, hme2⟩ := memS_ok hme
        obtain ⟨w9, hw9⟩ : ∃ w9, w9 = w8.setCell ⟨w5.heap.size, 2, none⟩ (.string me) := ⟨_, rfl⟩
        have hv9 := heap_setCell_same w8 w5.heap.size 2 #[.int .i64 ((m : Int) + 1), .int .i64 (pa : Int), .string ⟨#[]⟩, .slice A5 m5 c5] 48 (.string me) hv8
        rw [← hw9] at hv9
        have hb9 : Below w5.heap.size w8 w9 := by rw [hw9]; exact (Below.refl _ _).setCell (p := ⟨w5.heap.size, 2, none⟩) (Nat.le_refl _) _
        have HW9 : Hid (Wr g (g + 1) w5 w9) := ((Wr.of_below HB67.out.1).trans r8).thenB hb9 (Nat.le_refl _)
        have HG9 := hide (HG5.out.wr HW9.out hg hg)
        have HF9 := hide (And.intro ha8 (And.intro (s8.below hb9 hgw) ((HF5.out.2.2).trans HW9.out)))
        have HS9 := hide (And.intro (HS5.out.1.wr HW9.out (.inr hg)) HS5.out.2)
        have c82 : w8.cell? ⟨w5.heap.size, 2, none⟩ = some (.string ⟨#[]⟩) := (cell_of_row w8 w5.heap.size 2 _ _ (0, 0) hv8).trans rfl
        have f82 : w8.frozen? ⟨w5.heap.size, 2, none⟩ = false := frozen_of_row w8 w5.heap.size 2 _ _ hv8
        have d0 : w9.cell? ⟨w5.heap.size, 0, none⟩ = some (.int .i64 ((m : Int) + 1)) := (cell_of_row w9 w5.heap.size 0 _ _ (0, 0) hv9).trans rfl
        have d1 : w9.cell? ⟨w5.heap.size, 1, none⟩ = some (.int .i64 (pa : Int)) := (cell_of_row w9 w5.heap.size 1 _ _ (0, 0) hv9).trans rfl
        have d2 : w9.cell? ⟨w5.heap.size, 2, none⟩ = some (.string me) := (cell_of_row w9 w5.heap.size 2 _ _ (0, 0) hv9).trans rfl
        have d3 : w9.cell? ⟨w5.heap.size, 3, none⟩ = some (.slice A5 m5 c5) := (cell_of_row w9 w5.heap.size 3 _ _ (0, 0) hv9).trans rfl
        have HMM := hide (And.intro hme1 hme2)
        have hl9 : ss5.length = m5 := HS9.out.2.1
        have hm56 : m5 ≤ 6 := by rw [← hl9]; exact HS9.out.2.2.len
        have HL9 := hide hl9
        have hmr2 : m ≤ 4 := by omega
        have HGD : Hid ((⟨(m : Int) + 1, (pa : Int), me, A5, m5, c5, ss5⟩ : VerC).good) := ⟨by unfold I64; simp only; omega, by unfold I64; simp only; omega, by simp only; omega, hl9, HS9.out.2.2.fine, by simp only; omega⟩
        have hz9 : w.heap.size ≤ w9.heap.size := HF9.out.2.2.size
        clear hme ha8 s8 r8 hv8 hv9 hb9 T hme1 hme2 hl9 hwz7 HB67 HG5 HS5
        go_upto_region 12 with fail
        rw [← hw9]
        clear hw9 c82 f82
        go_wp2_with (at_builtin; refine appV rfl _ _ rfl w.heap.size (.slice (some ⟨b, off, none⟩) m c3) m _ ⟨(m : Int) + 1, (pa : Int), me, A5, m5, c5, ss5⟩ rfl HG9.out.1 rfl (by omega) hz9 ?_; intro v' w10 hown10 hgr10 hb10 hz10)
        have HG10 := hide (HG9.out.push (r := ⟨(m : Int) + 1, (pa : Int), me, A5, m5, c5, ss5⟩) HS9.out.1 (Nat.le_refl _) HW9.out.size HGD.out HS9.out.2.2 hown10 hgr10)
        have HF10 := hide (And.intro (HF9.out.2.1.below hb10 hg) (HF9.out.2.2.thenB hb10 (Nat.le_refl _)))
        have HH10 : Hid (histB (zV (rs ++ [⟨(m : Int) + 1, (pa : Int), me, A5, m5, c5, ss5⟩])) = true) := by
          have hzl : (zV rs).length = m := by unfold zV; rw [List.length_map]; exact HG.out.1.2.1
          have := hist_add (pa := (pa : Int)) (me := me) (st := ss5) HG.out.2 (by rw [hzl]; exact withinB_iff.2 ⟨by omega, by omega⟩) HMM.out.1 HS9.out.2.2.state (by rw [hzl]; omega)
          rw [hzl] at this
          unfold Hid
          rw [zV_snoc]
          exact this
        clear hown10 hgr10 hb10 d0 d1 d2 d3
        go_wp2
        go_roundw
        case rel => exact ⟨r', m + 1, _, a8, by omega, by go_num, ⟨HG10.out, HH10.out⟩, by have := HR.out; have := HF9.out; have := HF2.out; have := HF3.out; have := HF5.out; have := HR.out; omega, HF10.out.1, HF10.out.2⟩
        case measure => first | (simp [intOf]; done) | (simp [intOf]; omega)
      · have hp1 : pa = 0 := by omega
        subst hp1
        obtain ⟨w6, hw6⟩ : ∃ w6, w6 = w3.alloc (.cells #[.int .i64 ((m : Int) + 1), .int .i64 0, .string ⟨#[]⟩, .slice A4 m4 c4] 48) := ⟨_, rfl⟩
        obtain ⟨w7, hw7⟩ : ∃ w7, w7 = w6.alloc (.cells #[.string ⟨#[]⟩, .string ⟨#[110, 101, 119]⟩, .string ⟨#[97, 32, 98]⟩] 9) := ⟨_, rfl⟩
        have hz6 : w6.heap.size = w3.heap.size + 1 := by rw [hw6]; simp
        have hb6 : Below w3.heap.size w3 w6 := by rw [hw6]; exact (Below.refl _ _).alloc (Nat.le_refl _) _
        have hb7 : Below w6.heap.size w6 w7 := by rw [hw7]; exact (Below.refl _ _).alloc (Nat.le_refl _) _
        have hb67 := hb6.trans (hb7.mono hb6.size)
        have hgw : g < w3.heap.size := HF3.out.2.1.lt
        have hv7 : w7.heap[w3.heap.size]? = some (.cells #[.int .i64 ((m : Int) + 1), .int .i64 0, .string ⟨#[]⟩, .slice A4 m4 c4] 48 (0, 0)) := by rw [hb7.block _ (by omega), hw6]; exact heap_alloc_new w3 _
        have T := hide (text_calls g n c a3 (w3.heap.size + 1) 3 A memS w7 (HF3.out.2.1.below hb67 hgw) (by have := HF2.out; have := HF3.out; have := HR.out; omega) (by
          intro j s hj
          rw [hw7, ← hz6]
          rcases j with _ | _ | _ | j <;> simp [memS] at hj <;> subst hj <;> simp) (by have := hb7.size; rw [hw7]; simp; omega) (by omega) (by simp [memS]) (by simp [memS]))
        have HB67 := hide (And.intro hb67 hv7)
        clear hb6 hb7 hb67 hv7
        go_wp2_with fail
        rw [← hw6, ← hw7]
        clear hw6 hw7 hz6
        refine T.out.mono ?_
        rintro e w8 ⟨me, a8, rfl, hme, ha8, s8, r8⟩
        have hwz7 : w3.heap.size < w7.heap.size := (Array.getElem?_eq_some_iff.1 HB67.out.2).1
        have hv8 := (r8.block w3.heap.size hwz7 (.inr hgw)).trans HB67.out.2
        obtain ⟨hme1, hme2⟩ := memS_ok hme
        obtain ⟨w9, hw9⟩ : ∃ w9, w9 = w8.setCell ⟨w3.heap.size, 2, none⟩ (.string me) := ⟨_, rfl⟩
        have hv9 := heap_setCell_same w8 w3.heap.size 2 #[.int .i64 ((m : Int) + 1), .int .i64 0, .string ⟨#[]⟩, .slice A4 m4 c4] 48 (.string me) hv8
        rw [← hw9] at hv9
        have hb9 : Below w3.heap.size w8 w9 := by rw [hw9]; exact (Below.refl _ _).setCell (p := ⟨w3.heap.size, 2, none⟩) (Nat.le_refl _) _
        have HW9 : Hid (Wr g (g + 1) w3 w9) := ((Wr.of_below HB67.out.1).trans r8).thenB hb9 (Nat.le_refl _)
        have HG9 := hide (HG3.out.wr HW9.out hg hg)
        have HF9 := hide (And.intro ha8 (And.intro (s8.below hb9 hgw) ((HF3.out.2.2).trans HW9.out)))
        have HS9 := hide (And.intro (HS3.out.1.wr HW9.out (.inr hg)) HS3.out.2)
        have c82 : w8.cell? ⟨w3.heap.size, 2, none⟩ = some (.string ⟨#[]⟩) := (cell_of_row w8 w3.heap.size 2 _ _ (0, 0) hv8).trans rfl
        have f82 : w8.frozen? ⟨w3.heap.size, 2, none⟩ = false := frozen_of_row w8 w3.heap.size 2 _ _ hv8
        have d0 : w9.cell? ⟨w3.heap.size, 0, none⟩ = some (.int .i64 ((m : Int) + 1)) := (cell_of_row w9 w3.heap.size 0 _ _ (0, 0) hv9).trans rfl
        have d1 : w9.cell? ⟨w3.heap.size, 1, none⟩ = some (.int .i64 0) := (cell_of_row w9 w3.heap.size 1 _ _ (0, 0) hv9).trans rfl
        have d2 : w9.cell? ⟨w3.heap.size, 2, none⟩ = some (.string me) := (cell_of_row w9 w3.heap.size 2 _ _ (0, 0) hv9).trans rfl
        have d3 : w9.cell? ⟨w3.heap.size, 3, none⟩ = some (.slice A4 m4 c4) := (cell_of_row w9 w3.heap.size 3 _ _ (0, 0) hv9).trans rfl
        have HMM := hide (And.intro hme1 hme2)
        have hl9 : ss4.length = m4 := HS9.out.2.1
        have hm56 : m4 ≤ 6 := by rw [← hl9]; exact HS9.out.2.2.len
        have HL9 := hide hl9
        have hmr2 : m ≤ 4 := by omega
        have HGD : Hid ((⟨(m : Int) + 1, 0, me, A4, m4, c4, ss4⟩ : VerC).good) := ⟨by unfold I64; simp only; omega, by unfold I64; simp only; omega, by simp only; omega, hl9, HS9.out.2.2.fine, by simp only; omega⟩
        have hz9 : w.heap.size ≤ w9.heap.size := HF9.out.2.2.size
        clear hme ha8 s8 r8 hv8 hv9 hb9 T hme1 hme2 hl9 hwz7 HB67 HG3 HS3
        go_upto_region 12 with fail
        rw [← hw9]
        clear hw9 c82 f82
        go_wp2_with (at_builtin; refine appV rfl _ _ rfl w.heap.size (.slice A3 m c3) m _ ⟨(m : Int) + 1, 0, me, A4, m4, c4, ss4⟩ rfl HG9.out.1 rfl (by omega) hz9 ?_; intro v' w10 hown10 hgr10 hb10 hz10)
        have HG10 := hide (HG9.out.push (r := ⟨(m : Int) + 1, 0, me, A4, m4, c4, ss4⟩) HS9.out.1 (Nat.le_refl _) HW9.out.size HGD.out HS9.out.2.2 hown10 hgr10)
        have HF10 := hide (And.intro (HF9.out.2.1.below hb10 hg) (HF9.out.2.2.thenB hb10 (Nat.le_refl _)))
        have HH10 : Hid (histB (zV (rs ++ [⟨(m : Int) + 1, 0, me, A4, m4, c4, ss4⟩])) = true) := by
          have hzl : (zV rs).length = m := by unfold zV; rw [List.length_map]; exact HG.out.1.2.1
          have := hist_add (pa := 0) (me := me) (st := ss4) HG.out.2 (by rw [hzl]; exact withinB_iff.2 ⟨by omega, by omega⟩) HMM.out.1 HS9.out.2.2.state (by rw [hzl]; omega)
          rw [hzl] at this
          unfold Hid
          rw [zV_snoc]
          exact this
        clear hown10 hgr10 hb10 d0 d1 d2 d3
        go_wp2
        go_roundw
        case rel => exact ⟨r', m + 1, _, a8, by omega, by go_num, ⟨HG10.out, HH10.out⟩, by have := HR.out; have := HF9.out; have := HF2.out; have := HF3.out; have := HR.out; omega, HF10.out.1, HF10.out.2⟩
        case measure => first | (simp [intOf]; done) | (simp [intOf]; omega)
    · have hr0 : r = 0 := by omega
      subst hr0
      go_wp2
      go_ret
      exact ⟨A3, m, c3, rs, a', rfl, HG.out.1, HG.out.2, by omega, by have := HR.out; omega, HR.out.2.1, HR.out.2.2⟩

end Go.Proofs.YtmpfkmbfbeejhaaDoor
