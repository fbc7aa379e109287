/- Versions that the call has made: the laws' helpers toVersion and toVersionS. -/
import Derived.Test.YtlomloepdnojoaaDoorVer
namespace Go.Proofs.YtlomloepdnojoaaDoor
open Go.RowKit
set_option linter.unusedVariables false

theorem Tryd.infoVersion : (Tryd.prog.info? 77).map (fun i => (i.zero, i.size, i.bytes)) = some (some (.agg #[.int .i64 0, .int .i64 0, .string ⟨#[]⟩, .slice none 0 0]), 4, 56) := by kernel_rfl

theorem heap3 (w : World) (X Y Z : Obj) : (((w.alloc X).alloc Y).alloc Z).heap[w.heap.size + 1]? = some Y ∧ (((w.alloc X).alloc Y).alloc Z).heap[w.heap.size + 1 + 1]? = some Z := by
  have e : (((w.alloc X).alloc Y).alloc Z).heap = ((w.heap.push X).push Y).push Z := rfl
  rw [e]
  constructor
  · rw [Array.getElem?_push, if_neg (by simp), show w.heap.size + 1 = (w.heap.push X).size by simp, Array.getElem?_push_size]
  · rw [show w.heap.size + 1 + 1 = ((w.heap.push X).push Y).size by simp, Array.getElem?_push_size]

set_option maxHeartbeats 1000000 in
theorem toVersion_calls (nu pa : Int) (me : ByteArray) (Aq : Option Addr) (nq cq : Nat) (st : List SetZ) (w : World) (h : RdS w Aq nq st) (hn : nq ≤ 1048576) :
    Calls Tryd.prog 55 #[.agg #[.int .i64 nu, .int .i64 pa, .string me, .slice Aq nq cq]] w fun e w' => ∃ A' c', e = .returned (.agg #[.int .i64 nu, .int .i64 pa, .string me, .slice A' nq c']) ∧ Fr w' w.heap.size w'.heap.size 108 2 A' nq (st.map cS).flatten ∧ Below w.heap.size w w' := by
  go_enter Tryd.func55, Tryd.ntmps55
  go_wp2_with fail
  obtain ⟨w3, hw3⟩ : ∃ w3, w3 = (((w.alloc (.cells #[.int .i64 nu, .int .i64 pa, .string me, .slice Aq nq cq] 82)).alloc (.cells #[.int .i64 0, .int .i64 0, .string ⟨#[]⟩, .slice none 0 0] 77)).alloc (.cells #[.int .i64 nu, .int .i64 pa, .string me, .slice none 0 0] 77)) := ⟨_, rfl⟩
  rw [← hw3]
  have hz : w3.heap.size = w.heap.size + 1 + 1 + 1 := by rw [hw3]; simp
  have hB : Below w.heap.size w w3 := by
    rw [hw3]
    exact (((Below.refl _ _).alloc (Nat.le_refl _) _).alloc (by simp) _).alloc (by simp; omega) _
  have hr1 : w3.heap[w.heap.size + 1]? = some (.cells #[.int .i64 0, .int .i64 0, .string ⟨#[]⟩, .slice none 0 0] 77 (0, 0)) := by rw [hw3]; exact (heap3 _ _ _ _).1
  have hr2 : w3.heap[w.heap.size + 1 + 1]? = some (.cells #[.int .i64 nu, .int .i64 pa, .string me, .slice none 0 0] 77 (0, 0)) := by rw [hw3]; exact (heap3 _ _ _ _).2
  clear hw3
  refine (toSettingS_calls _ _ _ st _ (h.below hB (Nat.le_refl _)) hn).mono ?_
  rintro e w4 ⟨A', c', rfl, hown, hb4⟩
  have hk1 := (hb4.block (w.heap.size + 1) (by omega)).trans hr1
  have hk2 := (hb4.block (w.heap.size + 1 + 1) (by omega)).trans hr2
  have c10 := cell_of_row w4 (w.heap.size + 1) 0 _ _ _ hk1
  have c11 := cell_of_row w4 (w.heap.size + 1) 1 _ _ _ hk1
  have c12 := cell_of_row w4 (w.heap.size + 1) 2 _ _ _ hk1
  have c13 := cell_of_row w4 (w.heap.size + 1) 3 _ _ _ hk1
  have c20 := cell_of_row w4 (w.heap.size + 1 + 1) 0 _ _ _ hk2
  have c21 := cell_of_row w4 (w.heap.size + 1 + 1) 1 _ _ _ hk2
  have c22 := cell_of_row w4 (w.heap.size + 1 + 1) 2 _ _ _ hk2
  have c23 := cell_of_row w4 (w.heap.size + 1 + 1) 3 _ _ _ hk2
  have f10 := frozen_of_row w4 (w.heap.size + 1) 0 _ _ hk1
  have f11 := frozen_of_row w4 (w.heap.size + 1) 1 _ _ hk1
  have f12 := frozen_of_row w4 (w.heap.size + 1) 2 _ _ hk1
  have f13 := frozen_of_row w4 (w.heap.size + 1) 3 _ _ hk1
  have f23 := frozen_of_row w4 (w.heap.size + 1 + 1) 3 _ _ hk2
  simp at c10 c11 c12 c13 c20 c21 c22 c23
  have hF := hide (Fr.of_own hown)
  have hbx := hB.trans (hb4.mono hB.size)
  have hz4 := hb4.size
  clear hown hr1 hr2 hk1 hk2 h
  go_wp2
  refine bodyPost_ret (v := .agg #[.int .i64 nu, .int .i64 pa, .string me, .slice A' nq c']) (by simp [results, Tryd.results55, go_sem, *]) rfl ⟨A', c', rfl, ?_, ?_⟩
  · have w5 : Wr w.heap.size w3.heap.size w4 (((((w4.setCell ⟨w.heap.size + 1 + 1, 3, none⟩ (.slice A' nq c')).setCell ⟨w.heap.size + 1, 0, none⟩ (.int .i64 nu)).setCell ⟨w.heap.size + 1, 1, none⟩ (.int .i64 pa)).setCell ⟨w.heap.size + 1, 2, none⟩ (.string me)).setCell ⟨w.heap.size + 1, 3, none⟩ (.slice A' nq c')) :=
      ((((Wr.setCell _ _ (by omega) (by omega)).trans (Wr.setCell _ _ (by omega) (by omega))).trans (Wr.setCell _ _ (by omega) (by omega))).trans (Wr.setCell _ _ (by omega) (by omega))).trans (Wr.setCell _ _ (by omega) (by omega))
    exact (hF.out.wr w5 (.inr (Nat.le_refl _))).mono (by omega) w5.size
  · exact ((((hbx.setCell (by simp; omega) _).setCell (by simp) _).setCell (by simp) _).setCell (by simp) _).setCell (by simp) _

/-- A version's parts are in their types' ranges. -/
def VerC.good (r : VerC) : Prop := I64 r.number ∧ I64 r.parent ∧ r.memo.size ≤ 9223372036854775807 ∧ r.state.length = r.n ∧ (∀ s ∈ r.state, s.fine) ∧ r.n ≤ 9223372036854775807
/-- The states lie apart: the j-th between f j and f (j + 1). -/
def Apart (w : World) (f : Nat → Nat) (rs : List VerC) : Prop := (∀ j, f j ≤ f (j + 1)) ∧ ∀ j r, rs[j]? = some r → Fr w (f j) (f (j + 1)) 108 2 r.A r.n (r.state.map cS).flatten
/-- The states lie apart: the j-th between p j and q j. -/
def ApartP (w : World) (p q : Nat → Nat) (rs : List VerC) : Prop := (∀ j, p j ≤ q j) ∧ (∀ i j, i < rs.length → j < rs.length → i ≠ j → q i ≤ p j ∨ q j ≤ p i) ∧ ∀ j r, rs[j]? = some r → Fr w (p j) (q j) 108 2 r.A r.n (r.state.map cS).flatten
/-- A slice of versions of the call's own, with its states, between lo and hi. -/
def FrV (w : World) (lo hi : Nat) (A : Option Addr) (n : Nat) (rs : List VerC) : Prop :=
  rs.length = n ∧ (∀ r ∈ rs, r.good) ∧ ∃ a0 a1, lo ≤ a0 ∧ a1 ≤ hi ∧ Fr w a0 a1 77 4 A n (rs.map cV).flatten ∧ ∃ p q, ApartP w p q rs ∧ (∀ j, j < n → lo ≤ p j ∧ q j ≤ hi) ∧ ∀ j, j < n → q j ≤ a0 ∨ a1 ≤ p j

theorem mono_of_step {f : Nat → Nat} (h : ∀ j, f j ≤ f (j + 1)) : ∀ {i j : Nat}, i ≤ j → f i ≤ f j := by
  intro i j hij
  induction j with
  | zero => rw [show i = 0 by omega]; exact Nat.le_refl _
  | succ j ih =>
    rcases Nat.lt_or_ge i (j + 1) with h1 | h1
    · exact Nat.le_trans (ih (by omega)) (h j)
    · rw [show i = j + 1 by omega]; exact Nat.le_refl _

theorem Apart.toP {w : World} {f : Nat → Nat} {rs : List VerC} (h : Apart w f rs) : ApartP w f (fun j => f (j + 1)) rs := by
  refine ⟨h.1, fun i j _ _ hij => ?_, h.2⟩
  rcases Nat.lt_or_ge i j with h1 | h1
  · exact .inl (mono_of_step h.1 (i := i + 1) (j := j) (by omega))
  · exact .inr (mono_of_step h.1 (i := j + 1) (j := i) (by omega))

section
variable {w w' : World} {lo hi : Nat} {A : Option Addr} {n : Nat} {rs : List VerC}
theorem FrV.rd (h : FrV w lo hi A n rs) : RdV w A n rs := by
  obtain ⟨hl, hg, a0, a1, h0, h1, hF, p, q, ha, hf1, hd⟩ := h
  refine ⟨hF.rd, hl, fun r hr => ?_⟩
  obtain ⟨j, hj, he⟩ := List.mem_iff_getElem.1 hr
  have hx := hg r hr
  refine ⟨hx.1, hx.2.1, hx.2.2.1, ⟨(ha.2.2 j r (by rw [List.getElem?_eq_getElem hj, he])).rd, hx.2.2.2.1, hx.2.2.2.2.1⟩, hx.2.2.2.2.2⟩
theorem FrV.below {B : Nat} (h : FrV w lo hi A n rs) (hb : Below B w w') (hB : hi ≤ B) : FrV w' lo hi A n rs := by
  obtain ⟨hl, hg, a0, a1, h0, h1, hF, p, q, ha, hf1, hd⟩ := h
  refine ⟨hl, hg, a0, a1, h0, h1, hF.below hb (by omega), p, q, ⟨ha.1, ha.2.1, fun j r hr => (ha.2.2 j r hr).below hb ?_⟩, hf1, hd⟩
  have hj := (List.getElem?_eq_some_iff.1 hr).1
  have := (hf1 j (by omega)).2
  omega
theorem FrV.wr {lo' hi' : Nat} (h : FrV w lo hi A n rs) (hw : Wr lo' hi' w w') (hd : hi ≤ lo' ∨ hi' ≤ lo) : FrV w' lo hi A n rs := by
  obtain ⟨hl, hg, a0, a1, h0, h1, hF, p, q, ha, hf1, hd'⟩ := h
  refine ⟨hl, hg, a0, a1, h0, h1, hF.wr hw (by omega), p, q, ⟨ha.1, ha.2.1, fun j r hr => (ha.2.2 j r hr).wr hw ?_⟩, hf1, hd'⟩
  have hj := (List.getElem?_eq_some_iff.1 hr).1
  have h2 := hf1 j (by omega)
  omega
theorem FrV.mono {lo' hi' : Nat} (h : FrV w lo hi A n rs) (h1 : lo' ≤ lo) (h2 : hi ≤ hi') : FrV w lo' hi' A n rs := by
  obtain ⟨hl, hg, a0, a1, h0, h1', hF, p, q, ha, hf1, hd⟩ := h
  exact ⟨hl, hg, a0, a1, by omega, by omega, hF, p, q, ha, fun j hj => ⟨Nat.le_trans h1 (hf1 j hj).1, Nat.le_trans (hf1 j hj).2 h2⟩, hd⟩
theorem RdV.good (h : RdV w A n rs) : ∀ r ∈ rs, r.good := fun r hr => by
  have := h.2.2 r hr
  exact ⟨this.1, this.2.1, this.2.2.1, this.2.2.2.1.2.1, this.2.2.2.1.2.2, this.2.2.2.2⟩
end

theorem Fr.narrow {w : World} {lo hi lo' hi' b off : Nat} {e : TypeId} {size n : Nat} {cs : List Value} (h : Fr w lo hi e size (some ⟨b, off, none⟩) n cs) (h1 : lo' ≤ b) (h2 : b < hi') : Fr w lo' hi' e size (some ⟨b, off, none⟩) n cs := by
  refine ⟨h.1, fun hn => ?_⟩
  obtain ⟨b', off', cur, hA, _, _, hh, hc⟩ := h.2 hn
  injection hA with hA
  injection hA with hb ho
  subst hb ho
  exact ⟨b, off, cur, rfl, h1, h2, hh, hc⟩
theorem own_lt {w : World} {base : Nat} {e : TypeId} {size g n c : Nat} {cs : List Value} (h : w.ownsRow base e size (.slice (some ⟨g, 0, none⟩) n c) n cs) : g < w.heap.size := by
  rcases h.2 with ⟨hv, _⟩ | ⟨g', cap, cur, hv, hb, hh, _⟩
  · cases hv
  · injection hv with hv
    injection hv with hv
    injection hv with hv
    subst hv
    exact (Array.getElem?_eq_some_iff.1 hh).1
theorem flatV_snoc {rs : List VerC} {r : VerC} : ((rs ++ [r]).map cV).flatten = (rs.map cV).flatten ++ [.int .i64 r.number, .int .i64 r.parent, .string r.memo, .slice r.A r.n r.c] := by simp [cV]
/-- Four cells stored one behind the other. -/
theorem take_set_snoc4 {α : Type} {l : List α} {k : Nat} {u v x y : α} (h : k * 4 + 3 < l.length) : ((((l.set (k * 4) u).set (k * 4 + 1) v).set (k * 4 + 2) x).set (k * 4 + 3) y).take ((k + 1) * 4) = l.take (k * 4) ++ [u, v, x, y] := by
  have e : (k + 1) * 4 = k * 4 + 1 + 1 + 1 + 1 := by omega
  rw [e, take_set_snoc (by simpa using h), take_set_snoc (by simp; omega), take_set_snoc (by simp; omega), take_set_snoc (by omega)]
  simp

theorem apart_snoc {w2 w5 wr : World} {lo hi k : Nat} {f : Nat → Nat} {rs' : List VerC} {r : VerC} (hap : Apart wr f rs') (hl : rs'.length = k) (hf0 : hi ≤ f 0) (hfk : f k = wr.heap.size) (hfe : ∀ j, k ≤ j → f j = f k)
    (hb2 : Below wr.heap.size wr w2) (hF : Fr w2 wr.heap.size w2.heap.size 108 2 r.A r.n (r.state.map cS).flatten) (hw : Wr lo hi w2 w5) (hs : w5.heap.size = w2.heap.size) :
    ∃ f', Apart w5 f' (rs' ++ [r]) ∧ f' 0 = f 0 ∧ f' (k + 1) = w5.heap.size ∧ ∀ j, k + 1 ≤ j → f' j = f' (k + 1) := by
  have hz := hb2.size
  have hfb : ∀ j, f j ≤ wr.heap.size := fun j => by
    rcases Nat.lt_or_ge j k with h1 | h1
    · have := mono_of_step hap.1 (i := j) (j := k) (by omega)
      omega
    · rw [hfe j h1]; omega
  have hlo : ∀ j, hi ≤ f j := fun j => Nat.le_trans hf0 (mono_of_step hap.1 (Nat.zero_le _))
  refine ⟨fun j => if j ≤ k then f j else w5.heap.size, ⟨fun j => ?_, fun j q hq => ?_⟩, by simp, by dsimp only; rw [if_neg (by omega)], fun j hj => ?_⟩
  · dsimp only
    split <;> split
    · exact hap.1 j
    · have := hfb j; omega
    · omega
    · exact Nat.le_refl _
  · dsimp only
    rcases Nat.lt_or_ge j k with h1 | h1
    · rw [List.getElem?_append_left (by omega)] at hq
      rw [if_pos (by omega), if_pos (by omega)]
      have h2 := (hap.2 j q hq).below hb2 (hfb (j + 1))
      exact h2.wr hw (.inr (hlo j))
    · have hj := (List.getElem?_eq_some_iff.1 hq).1
      rw [List.length_append, List.length_singleton] at hj
      obtain rfl : j = k := by omega
      rw [List.getElem?_append_right (by omega)] at hq
      have : q = r := by simpa [hl] using hq.symm
      subst this
      rw [if_pos (Nat.le_refl _), if_neg (by omega), hfk, hs]
      exact hF.wr hw (.inr (by rw [← hfk]; exact hlo _))
  · dsimp only
    rw [if_neg (by omega), if_neg (by omega)]

set_option maxHeartbeats 2000000 in
theorem toVersionS_calls (A : Option Addr) (n c : Nat) (rs : List VerC) (w : World) (h : RdV w A n rs) (hn : n ≤ 1048576) (hq : ∀ r ∈ rs, r.n ≤ 1048576) :
    Calls Tryd.prog 12 #[.slice A n c] w fun e w' => ∃ A' c' rs', e = .returned (.slice A' n c') ∧ FrV w' w.heap.size w'.heap.size A' n rs' ∧ zV rs' = zV rs ∧ (∀ r ∈ rs', r.n ≤ 1048576) ∧ Below w.heap.size w w' := by
  obtain ⟨i0, hi, hz0, hz1, hz2⟩ := info_parts Tryd.infoVersion
  have HL := hide h.2.1
  have HQ := hide hq
  have HG := hide h.good
  clear hq
  go_enter Tryd.func12, Tryd.ntmps12
  go_wp2_with (refine wpList_make_full _ rfl _ _ 24 rfl w.heap.size 77 i0 (.agg #[.int .i64 0, .int .i64 0, .string ⟨#[]⟩, .slice none 0 0]) 4 Tryd.underlying24 hi hz0 hz1 .i64 .i64 _ _ n rfl rfl rfl rfl (by rw [hz2]; omega) (by unfold maxLen; omega) (Nat.le_refl _) ?_; intro w1 hown1 hgr1)
  have hb1 : Below w.heap.size w w1 := (Below.refl _ _).grown hgr1 (Nat.le_refl _) (fun k hk => by cases hk)
  have hz1 : w.heap.size ≤ w1.heap.size := hb1.size
  go_loopw [4] (fun i wr => ∃ (k : Nat), k ≤ n ∧ i = .int .i64 k ∧ Hid (∃ (cur : List Value) (rs' : List VerC) (f : Nat → Nat), wr.ownsRow w.heap.size 77 4 (.slice (some ⟨w.heap.size, 0, none⟩) n n) n cur ∧ cur.take (k * 4) = (rs'.map cV).flatten ∧ rs'.length = k ∧ zV rs' = zV (rs.take k) ∧ (∀ r ∈ rs', r.good ∧ r.n ≤ 1048576) ∧ Apart wr f rs' ∧ f 0 = w1.heap.size ∧ f k = wr.heap.size ∧ (∀ j, k ≤ j → f j = f k)) ∧ Wr w.heap.size w1.heap.size w1 wr) (fun i _ => n - (intOf i).toNat)
  case atStart => exact ⟨0, Nat.zero_le _, rfl, ⟨_, [], fun _ => w1.heap.size, hown1, by simp, rfl, rfl, by simp, ⟨fun _ => Nat.le_refl _, by simp⟩, rfl, rfl, fun _ _ => rfl⟩, Wr.refl _ _ _⟩
  case round =>
    obtain ⟨k, hk, rfl, HH, hb⟩ := hrel
    have hbw := Wr.below hb1 hb (Nat.le_refl _) hz1
    have hz := hb.size
    by_cases hlt : k < n
    · obtain ⟨b, off, nu, pa, me, Aq, nq, cq, st, rfl, hbl, hx, hc, hc2, hc3, hc4, hn1, hn2, hp1, hp2, hme, hst, hnq⟩ := (h.below hbw (Nat.le_refl _)).at hlt
      have hm := HQ.out _ (List.mem_of_getElem? hx.out)
      simp only at hm
      go_wp2_with fail
      refine (toVersion_calls _ _ _ _ _ _ st _ hst hm).mono ?_
      rintro e w2 ⟨A', c', rfl, hF, hb2⟩
      obtain ⟨cur, rs', f, hown, hcur, hrl, hzv, hgood, hap, hf0, hfk, hfe⟩ := HH.out
      have ho2 := own_below hown hb2 (Nat.le_refl _)
      have HF := hide (And.intro hF (And.intro hcur (And.intro hrl (And.intro hzv (And.intro hgood (And.intro hap (And.intro hf0 (And.intro hfk hfe))))))))
      have hcl := hide hown.1
      have hglt := own_lt hown1
      clear hown hcur hrl hzv hgood hap hf0 hfk hfe hF
      obtain ⟨v0, q1, q2, hst0⟩ := own_store (k := k * 4) ho2 (by omega)
      obtain ⟨v1, q3, q4, _⟩ := own_store (k := k * 4 + 1) ho2 (by omega)
      obtain ⟨v2, q5, q6, _⟩ := own_store (k := k * 4 + 2) ho2 (by omega)
      obtain ⟨v3, q7, q8, _⟩ := own_store (k := k * 4 + 3) ho2 (by omega)
      obtain ⟨_, _, _, hst1⟩ := own_store (k := k * 4 + 1) (hst0.out (.int .i64 nu)) (by omega)
      obtain ⟨_, _, _, hst2⟩ := own_store (k := k * 4 + 2) (hst1.out (.int .i64 pa)) (by omega)
      obtain ⟨_, _, _, hst3⟩ := own_store (k := k * 4 + 3) (hst2.out (.string me)) (by omega)
      have hsz : ((((w2.setCell ⟨w.heap.size, k * 4, none⟩ (.int .i64 nu)).setCell ⟨w.heap.size, k * 4 + 1, none⟩ (.int .i64 pa)).setCell ⟨w.heap.size, k * 4 + 2, none⟩ (.string me)).setCell ⟨w.heap.size, k * 4 + 3, none⟩ (.slice A' nq c')).heap.size = w2.heap.size := by simp
      have hw5 : Wr w.heap.size w1.heap.size w2 ((((w2.setCell ⟨w.heap.size, k * 4, none⟩ (.int .i64 nu)).setCell ⟨w.heap.size, k * 4 + 1, none⟩ (.int .i64 pa)).setCell ⟨w.heap.size, k * 4 + 2, none⟩ (.string me)).setCell ⟨w.heap.size, k * 4 + 3, none⟩ (.slice A' nq c')) :=
        (((Wr.setCell _ _ (Nat.le_refl _) hglt).trans (Wr.setCell _ _ (Nat.le_refl _) hglt)).trans (Wr.setCell _ _ (Nat.le_refl _) hglt)).trans (Wr.setCell _ _ (Nat.le_refl _) hglt)
      have H5 := hide (And.intro hsz hw5)
      clear ho2 hsz hw5
      go_wp2
      go_roundw
      case rel =>
        obtain ⟨hF, hcur, hrl, hzv, hgood, hap, hf0, hfk, hfe⟩ := HF.out
        obtain ⟨f', hap', hf0', hfk', hfe'⟩ := apart_snoc (r := ⟨nu, pa, me, A', nq, c', st⟩) hap hrl (by omega) hfk hfe hb2 hF H5.out.2 H5.out.1
        refine ⟨k + 1, by omega, by go_num, ⟨_, rs' ++ [⟨nu, pa, me, A', nq, c', st⟩], f', hst3.out (.slice A' nq c'), ?_, by simp [hrl], ?_, ?_, hap', hf0'.trans hf0, hfk', hfe'⟩, (hb.trans (Wr.of_below hb2)).trans H5.out.2⟩
        · rw [take_set_snoc4 (by rw [hcl.out]; omega), hcur, flatV_snoc]
        · rw [take_snoc hx.out]
          simp only [zV, List.map_append] at hzv ⊢
          rw [hzv]
          rfl
        · intro r hr
          rcases List.mem_append.1 hr with hr | hr
          · exact hgood r hr
          · simp at hr
            subst hr
            have hg := HG.out _ (List.mem_of_getElem? hx.out)
            exact ⟨hg, hm⟩
      case measure => simp [intOf]; omega
    · have hkn : k = n := by omega
      subst hkn
      have H1 := hide hown1
      clear hown1
      go_wp2
      go_ret
      obtain ⟨cur, rs', f, hown, hcur, hrl, hzv, hgood, hap, hf0, hfk, hfe⟩ := HH.out
      have hglt := own_lt H1.out
      rw [List.take_of_length_le (by rw [hown.1]; omega)] at hcur
      rw [List.take_of_length_le (by rw [HL.out]; omega)] at hzv
      subst hcur
      exact ⟨_, _, rs', rfl, ⟨hrl, fun r hr => (hgood r hr).1, w.heap.size, w1.heap.size, Nat.le_refl _, hb.size, (Fr.of_own hown).narrow (Nat.le_refl _) hglt, f, _, hap.toP, fun j hj => ⟨by have := mono_of_step hap.1 (i := 0) (j := j) (by omega); omega, by have := mono_of_step hap.1 (i := j + 1) (j := k) (by omega); omega⟩, fun j _ => .inr (by rw [← hf0]; exact mono_of_step hap.1 (Nat.zero_le _))⟩, hzv, fun r hr => (hgood r hr).2, hbw⟩

end Go.Proofs.YtlomloepdnojoaaDoor
