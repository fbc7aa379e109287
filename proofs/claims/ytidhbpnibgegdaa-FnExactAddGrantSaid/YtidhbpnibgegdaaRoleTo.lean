/- Roles that the call has made: the laws' helpers toRole, toRoleS and markRoleS. -/
import Derived.Test.YtidhbpnibgegdaaRole
namespace Go.Proofs.Ytidhbpnibgegdaa
open Go.RowKit
set_option linter.unusedVariables false

theorem Try.infoRole : (Try.prog.info? 70).map (fun i => (i.zero, i.size, i.bytes)) = some (some (.agg #[.string ⟨#[]⟩, .slice none 0 0]), 2, 40) := by kernel_rfl

theorem heap3 (w : World) (X Y Z : Obj) : (((w.alloc X).alloc Y).alloc Z).heap[w.heap.size + 1]? = some Y ∧ (((w.alloc X).alloc Y).alloc Z).heap[w.heap.size + 1 + 1]? = some Z := by
  have e : (((w.alloc X).alloc Y).alloc Z).heap = ((w.heap.push X).push Y).push Z := rfl
  rw [e]
  constructor
  · rw [Array.getElem?_push, if_neg (by simp), show w.heap.size + 1 = (w.heap.push X).size by simp, Array.getElem?_push_size]
  · rw [show w.heap.size + 1 + 1 = ((w.heap.push X).push Y).size by simp, Array.getElem?_push_size]

set_option maxHeartbeats 1000000 in
theorem toRole_calls (nm : ByteArray) (Aq : Option Addr) (nq cq : Nat) (us : List ByteArray) (w : World) (h : RdK kB w Aq nq us) (hn : nq ≤ 1048576) :
    Calls Try.prog 55 #[.agg #[.string nm, .slice Aq nq cq]] w fun e w' => ∃ A' c', e = .returned (.agg #[.string nm, .slice A' nq c']) ∧ Fr w' w.heap.size w'.heap.size 9 1 A' nq (cK kB us) ∧ Below w.heap.size w w' := by
  go_enter Try.func55, Try.ntmps55
  go_wp2_with fail
  obtain ⟨w3, hw3⟩ : ∃ w3, w3 = (((w.alloc (.cells #[.string nm, .slice Aq nq cq] 69)).alloc (.cells #[.string ⟨#[]⟩, .slice none 0 0] 70)).alloc (.cells #[.string nm, .slice none 0 0] 70)) := ⟨_, rfl⟩
  rw [← hw3]
  have hz : w3.heap.size = w.heap.size + 1 + 1 + 1 := by rw [hw3]; simp
  have hB : Below w.heap.size w w3 := by
    rw [hw3]
    exact (((Below.refl _ _).alloc (Nat.le_refl _) _).alloc (by simp) _).alloc (by simp; omega) _
  have hr1 : w3.heap[w.heap.size + 1]? = some (.cells #[.string ⟨#[]⟩, .slice none 0 0] 70 (0, 0)) := by rw [hw3]; exact (heap3 _ _ _ _).1
  have hr2 : w3.heap[w.heap.size + 1 + 1]? = some (.cells #[.string nm, .slice none 0 0] 70 (0, 0)) := by rw [hw3]; exact (heap3 _ _ _ _).2
  clear hw3
  refine (toStringS_calls _ _ _ us _ (h.below hB (Nat.le_refl _)) hn).mono ?_
  rintro e w4 ⟨A', c', rfl, hown, hb4⟩
  have hk1 := (hb4.block (w.heap.size + 1) (by omega)).trans hr1
  have hk2 := (hb4.block (w.heap.size + 1 + 1) (by omega)).trans hr2
  have c10 := cell_of_row w4 (w.heap.size + 1) 0 _ _ _ hk1
  have c11 := cell_of_row w4 (w.heap.size + 1) 1 _ _ _ hk1
  have c20 := cell_of_row w4 (w.heap.size + 1 + 1) 0 _ _ _ hk2
  have c21 := cell_of_row w4 (w.heap.size + 1 + 1) 1 _ _ _ hk2
  have f10 := frozen_of_row w4 (w.heap.size + 1) 0 _ _ hk1
  have f11 := frozen_of_row w4 (w.heap.size + 1) 1 _ _ hk1
  have f21 := frozen_of_row w4 (w.heap.size + 1 + 1) 1 _ _ hk2
  simp at c10 c11 c20 c21
  have hF := hide (Fr.of_own hown)
  have hbx := hB.trans (hb4.mono hB.size)
  have hz4 := hb4.size
  clear hown hr1 hr2 hk1 hk2 h
  go_wp2
  refine bodyPost_ret (v := .agg #[.string nm, .slice A' nq c']) (by simp [results, Try.results55, go_sem, *]) rfl ⟨A', c', rfl, ?_, ?_⟩
  · have w5 : Wr w.heap.size w3.heap.size w4 (((w4.setCell ⟨w.heap.size + 1 + 1, 1, none⟩ (.slice A' nq c')).setCell ⟨w.heap.size + 1, 0, none⟩ (.string nm)).setCell ⟨w.heap.size + 1, 1, none⟩ (.slice A' nq c')) :=
      ((Wr.setCell _ _ (by omega) (by omega)).trans (Wr.setCell _ _ (by omega) (by omega))).trans (Wr.setCell _ _ (by omega) (by omega))
    exact (hF.out.wr w5 (.inr (Nat.le_refl _))).mono (by omega) w5.size
  · exact ((hbx.setCell (by simp; omega) _).setCell (by simp) _).setCell (by simp) _

/-- A role's parts are in their types' ranges. -/
def RoleC.good (r : RoleC) : Prop := r.name.size ≤ 9223372036854775807 ∧ r.under.length = r.n ∧ (∀ s ∈ r.under, s.size ≤ 9223372036854775807) ∧ r.n ≤ 9223372036854775807
/-- The names lie apart: the j-th between f j and f (j + 1). -/
def Apart (w : World) (f : Nat → Nat) (rs : List RoleC) : Prop := (∀ j, f j ≤ f (j + 1)) ∧ ∀ j r, rs[j]? = some r → Fr w (f j) (f (j + 1)) 9 1 r.A r.n (cK kB r.under)
/-- The names lie apart: the j-th between p j and q j. -/
def ApartP (w : World) (p q : Nat → Nat) (rs : List RoleC) : Prop := (∀ j, p j ≤ q j) ∧ (∀ i j, i < rs.length → j < rs.length → i ≠ j → q i ≤ p j ∨ q j ≤ p i) ∧ ∀ j r, rs[j]? = some r → Fr w (p j) (q j) 9 1 r.A r.n (cK kB r.under)
/-- A slice of roles of the call's own, with its names, between lo and hi. -/
def FrR (w : World) (lo hi : Nat) (A : Option Addr) (n : Nat) (rs : List RoleC) : Prop :=
  rs.length = n ∧ (∀ r ∈ rs, r.good) ∧ ∃ a0 a1, lo ≤ a0 ∧ a1 ≤ hi ∧ Fr w a0 a1 70 2 A n (rs.map cR).flatten ∧ ∃ p q, ApartP w p q rs ∧ (∀ j, j < n → lo ≤ p j ∧ q j ≤ hi) ∧ ∀ j, j < n → q j ≤ a0 ∨ a1 ≤ p j

theorem mono_of_step {f : Nat → Nat} (h : ∀ j, f j ≤ f (j + 1)) : ∀ {i j : Nat}, i ≤ j → f i ≤ f j := by
  intro i j hij
  induction j with
  | zero => rw [show i = 0 by omega]; exact Nat.le_refl _
  | succ j ih =>
    rcases Nat.lt_or_ge i (j + 1) with h1 | h1
    · exact Nat.le_trans (ih (by omega)) (h j)
    · rw [show i = j + 1 by omega]; exact Nat.le_refl _

theorem Apart.toP {w : World} {f : Nat → Nat} {rs : List RoleC} (h : Apart w f rs) : ApartP w f (fun j => f (j + 1)) rs := by
  refine ⟨h.1, fun i j _ _ hij => ?_, h.2⟩
  rcases Nat.lt_or_ge i j with h1 | h1
  · exact .inl (mono_of_step h.1 (i := i + 1) (j := j) (by omega))
  · exact .inr (mono_of_step h.1 (i := j + 1) (j := i) (by omega))

section
variable {w w' : World} {lo hi : Nat} {A : Option Addr} {n : Nat} {rs : List RoleC}
theorem FrR.rd (h : FrR w lo hi A n rs) : RdR w A n rs := by
  obtain ⟨hl, hg, a0, a1, h0, h1, hF, p, q, ha, hf1, hd⟩ := h
  refine ⟨hF.rd, hl, fun r hr => ?_⟩
  obtain ⟨j, hj, he⟩ := List.mem_iff_getElem.1 hr
  have hx := hg r hr
  exact ⟨hx.1, ⟨(ha.2.2 j r (by rw [List.getElem?_eq_getElem hj, he])).rd, hx.2.1, hx.2.2.1⟩, hx.2.2.2⟩
theorem FrR.below {B : Nat} (h : FrR w lo hi A n rs) (hb : Below B w w') (hB : hi ≤ B) : FrR w' lo hi A n rs := by
  obtain ⟨hl, hg, a0, a1, h0, h1, hF, p, q, ha, hf1, hd⟩ := h
  refine ⟨hl, hg, a0, a1, h0, h1, hF.below hb (by omega), p, q, ⟨ha.1, ha.2.1, fun j r hr => (ha.2.2 j r hr).below hb ?_⟩, hf1, hd⟩
  have hj := (List.getElem?_eq_some_iff.1 hr).1
  have := (hf1 j (by omega)).2
  omega
theorem FrR.wr {lo' hi' : Nat} (h : FrR w lo hi A n rs) (hw : Wr lo' hi' w w') (hd : hi ≤ lo' ∨ hi' ≤ lo) : FrR w' lo hi A n rs := by
  obtain ⟨hl, hg, a0, a1, h0, h1, hF, p, q, ha, hf1, hd'⟩ := h
  refine ⟨hl, hg, a0, a1, h0, h1, hF.wr hw (by omega), p, q, ⟨ha.1, ha.2.1, fun j r hr => (ha.2.2 j r hr).wr hw ?_⟩, hf1, hd'⟩
  have hj := (List.getElem?_eq_some_iff.1 hr).1
  have h2 := hf1 j (by omega)
  omega
theorem FrR.mono {lo' hi' : Nat} (h : FrR w lo hi A n rs) (h1 : lo' ≤ lo) (h2 : hi ≤ hi') : FrR w lo' hi' A n rs := by
  obtain ⟨hl, hg, a0, a1, h0, h1', hF, p, q, ha, hf1, hd⟩ := h
  exact ⟨hl, hg, a0, a1, by omega, by omega, hF, p, q, ha, fun j hj => ⟨Nat.le_trans h1 (hf1 j hj).1, Nat.le_trans (hf1 j hj).2 h2⟩, hd⟩
theorem RdR.good (h : RdR w A n rs) : ∀ r ∈ rs, r.good := fun r hr => by
  have := h.2.2 r hr
  exact ⟨this.1, this.2.1.2.1, this.2.1.2.2, this.2.2⟩
end

theorem Fr.narrow {w : World} {lo hi lo' hi' b off : Nat} {e : TypeId} {size n : Nat} {cs : List Value} (h : Fr w lo hi e size (some ⟨b, off, none⟩) n cs) (h1 : lo' ≤ b) (h2 : b < hi') : Fr w lo' hi' e size (some ⟨b, off, none⟩) n cs := by
  refine ⟨h.1, fun hn => ?_⟩
  obtain ⟨b', off', cur, hA, _, _, hh, hc⟩ := h.2 hn
  injection hA with hA
  injection hA with hb ho
  subst hb ho
  exact ⟨b, off, cur, rfl, h1, h2, hh, hc⟩
theorem own_lt {w : World} {base : Nat} {e : TypeId} {size g n c : Nat} {cs : List Value} (h : w.ownsRow base e size (.slice (some ⟨g, 0, none⟩) n c) n cs) : g < w.heap.size := by
  rcases h.2 with ⟨hv, _⟩ | ⟨g', cap, cur, hv, hb, hh, _⟩
  · cases hv
  · injection hv with hv
    injection hv with hv
    injection hv with hv
    subst hv
    exact (Array.getElem?_eq_some_iff.1 hh).1
theorem flatR_snoc {rs : List RoleC} {r : RoleC} : ((rs ++ [r]).map cR).flatten = (rs.map cR).flatten ++ [.string r.name, .slice r.A r.n r.c] := by simp [cR]
theorem apart_snoc {w2 w5 wr : World} {lo hi k : Nat} {f : Nat → Nat} {rs' : List RoleC} {r : RoleC} (hap : Apart wr f rs') (hl : rs'.length = k) (hf0 : hi ≤ f 0) (hfk : f k = wr.heap.size) (hfe : ∀ j, k ≤ j → f j = f k)
    (hb2 : Below wr.heap.size wr w2) (hF : Fr w2 wr.heap.size w2.heap.size 9 1 r.A r.n (cK kB r.under)) (hw : Wr lo hi w2 w5) (hs : w5.heap.size = w2.heap.size) :
    ∃ f', Apart w5 f' (rs' ++ [r]) ∧ f' 0 = f 0 ∧ f' (k + 1) = w5.heap.size ∧ ∀ j, k + 1 ≤ j → f' j = f' (k + 1) := by
  have hz := hb2.size
  have hfb : ∀ j, f j ≤ wr.heap.size := fun j => by
    rcases Nat.lt_or_ge j k with h1 | h1
    · have := mono_of_step hap.1 (i := j) (j := k) (by omega)
      omega
    · rw [hfe j h1]; omega
  have hlo : ∀ j, hi ≤ f j := fun j => Nat.le_trans hf0 (mono_of_step hap.1 (Nat.zero_le _))
  refine ⟨fun j => if j ≤ k then f j else w5.heap.size, ⟨fun j => ?_, fun j q hq => ?_⟩, by simp, by dsimp only; rw [if_neg (by omega)], fun j hj => ?_⟩
  · dsimp only
    split <;> split
    · exact hap.1 j
    · have := hfb j; omega
    · omega
    · exact Nat.le_refl _
  · dsimp only
    rcases Nat.lt_or_ge j k with h1 | h1
    · rw [List.getElem?_append_left (by omega)] at hq
      rw [if_pos (by omega), if_pos (by omega)]
      have h2 := (hap.2 j q hq).below hb2 (hfb (j + 1))
      exact h2.wr hw (.inr (hlo j))
    · have hj := (List.getElem?_eq_some_iff.1 hq).1
      rw [List.length_append, List.length_singleton] at hj
      obtain rfl : j = k := by omega
      rw [List.getElem?_append_right (by omega)] at hq
      have : q = r := by simpa [hl] using hq.symm
      subst this
      rw [if_pos (Nat.le_refl _), if_neg (by omega), hfk, hs]
      exact hF.wr hw (.inr (by rw [← hfk]; exact hlo _))
  · dsimp only
    rw [if_neg (by omega), if_neg (by omega)]

set_option maxHeartbeats 2000000 in
theorem toRoleS_calls (A : Option Addr) (n c : Nat) (rs : List RoleC) (w : World) (h : RdR w A n rs) (hn : n ≤ 1048576) (hq : ∀ r ∈ rs, r.n ≤ 1048576) :
    Calls Try.prog 16 #[.slice A n c] w fun e w' => ∃ A' c' rs', e = .returned (.slice A' n c') ∧ FrR w' w.heap.size w'.heap.size A' n rs' ∧ zR rs' = zR rs ∧ (∀ r ∈ rs', r.n ≤ 1048576) ∧ Below w.heap.size w w' := by
  obtain ⟨i0, hi, hz0, hz1, hz2⟩ := info_parts Try.infoRole
  have HL := hide h.2.1
  have HQ := hide hq
  have HG := hide h.good
  clear hq
  go_enter Try.func16, Try.ntmps16
  go_wp2_with (refine wpList_make_full _ rfl _ _ 25 rfl w.heap.size 70 i0 (.agg #[.string ⟨#[]⟩, .slice none 0 0]) 2 Try.underlying25 hi hz0 hz1 .i64 .i64 _ _ n rfl rfl rfl rfl (by rw [hz2]; omega) (by unfold maxLen; omega) (Nat.le_refl _) ?_; intro w1 hown1 hgr1)
  have hb1 : Below w.heap.size w w1 := (Below.refl _ _).grown hgr1 (Nat.le_refl _) (fun k hk => by cases hk)
  have hz1 : w.heap.size ≤ w1.heap.size := hb1.size
  go_loopw [4] (fun i wr => ∃ (k : Nat), k ≤ n ∧ i = .int .i64 k ∧ Hid (∃ (cur : List Value) (rs' : List RoleC) (f : Nat → Nat), wr.ownsRow w.heap.size 70 2 (.slice (some ⟨w.heap.size, 0, none⟩) n n) n cur ∧ cur.take (k * 2) = (rs'.map cR).flatten ∧ rs'.length = k ∧ zR rs' = zR (rs.take k) ∧ (∀ r ∈ rs', r.good ∧ r.n ≤ 1048576) ∧ Apart wr f rs' ∧ f 0 = w1.heap.size ∧ f k = wr.heap.size ∧ (∀ j, k ≤ j → f j = f k)) ∧ Wr w.heap.size w1.heap.size w1 wr) (fun i _ => n - (intOf i).toNat)
  case atStart => exact ⟨0, Nat.zero_le _, rfl, ⟨_, [], fun _ => w1.heap.size, hown1, by simp, rfl, rfl, by simp, ⟨fun _ => Nat.le_refl _, by simp⟩, rfl, rfl, fun _ _ => rfl⟩, Wr.refl _ _ _⟩
  case round =>
    obtain ⟨k, hk, rfl, HH, hb⟩ := hrel
    have hbw := Wr.below hb1 hb (Nat.le_refl _) hz1
    have hz := hb.size
    by_cases hlt : k < n
    · obtain ⟨b, off, nm, Aq, nq, cq, us, rfl, hbl, hx, hc, hc2, hme, hst, hnq⟩ := (h.below hbw (Nat.le_refl _)).at hlt
      have hm := HQ.out _ (List.mem_of_getElem? hx.out)
      simp only at hm
      go_wp2_with fail
      refine (toRole_calls _ _ _ _ us _ hst hm).mono ?_
      rintro e w2 ⟨A', c', rfl, hF, hb2⟩
      obtain ⟨cur, rs', f, hown, hcur, hrl, hzv, hgood, hap, hf0, hfk, hfe⟩ := HH.out
      have ho2 := own_below hown hb2 (Nat.le_refl _)
      have HF := hide (And.intro hF (And.intro hcur (And.intro hrl (And.intro hzv (And.intro hgood (And.intro hap (And.intro hf0 (And.intro hfk hfe))))))))
      have hcl := hide hown.1
      have hglt := own_lt hown1
      clear hown hcur hrl hzv hgood hap hf0 hfk hfe hF
      obtain ⟨v0, q1, q2, hst0⟩ := own_store (k := k * 2) ho2 (by omega)
      obtain ⟨v1, q3, q4, _⟩ := own_store (k := k * 2 + 1) ho2 (by omega)
      obtain ⟨_, _, _, hst1⟩ := own_store (k := k * 2 + 1) (hst0.out (.string nm)) (by omega)
      have hsz : ((w2.setCell ⟨w.heap.size, k * 2, none⟩ (.string nm)).setCell ⟨w.heap.size, k * 2 + 1, none⟩ (.slice A' nq c')).heap.size = w2.heap.size := by simp
      have hw5 : Wr w.heap.size w1.heap.size w2 ((w2.setCell ⟨w.heap.size, k * 2, none⟩ (.string nm)).setCell ⟨w.heap.size, k * 2 + 1, none⟩ (.slice A' nq c')) :=
        (Wr.setCell _ _ (Nat.le_refl _) hglt).trans (Wr.setCell _ _ (Nat.le_refl _) hglt)
      have H5 := hide (And.intro hsz hw5)
      clear ho2 hsz hw5
      go_wp2
      go_roundw
      case rel =>
        obtain ⟨hF, hcur, hrl, hzv, hgood, hap, hf0, hfk, hfe⟩ := HF.out
        obtain ⟨f', hap', hf0', hfk', hfe'⟩ := apart_snoc (r := ⟨nm, A', nq, c', us⟩) hap hrl (by omega) hfk hfe hb2 hF H5.out.2 H5.out.1
        refine ⟨k + 1, by omega, by go_num, ⟨_, rs' ++ [⟨nm, A', nq, c', us⟩], f', hst1.out (.slice A' nq c'), ?_, by simp [hrl], ?_, ?_, hap', hf0'.trans hf0, hfk', hfe'⟩, (hb.trans (Wr.of_below hb2)).trans H5.out.2⟩
        · rw [take_set_snoc2 (by rw [hcl.out]; omega), hcur, flatR_snoc]
        · rw [take_snoc hx.out]
          simp only [zR, List.map_append] at hzv ⊢
          rw [hzv]
          rfl
        · intro r hr
          rcases List.mem_append.1 hr with hr | hr
          · exact hgood r hr
          · simp at hr
            subst hr
            have hg := HG.out _ (List.mem_of_getElem? hx.out)
            exact ⟨hg, hm⟩
      case measure => simp [intOf]; omega
    · have hkn : k = n := by omega
      subst hkn
      have H1 := hide hown1
      clear hown1
      go_wp2
      go_ret
      obtain ⟨cur, rs', f, hown, hcur, hrl, hzv, hgood, hap, hf0, hfk, hfe⟩ := HH.out
      have hglt := own_lt H1.out
      rw [List.take_of_length_le (by rw [hown.1]; omega)] at hcur
      rw [List.take_of_length_le (by rw [HL.out]; omega)] at hzv
      subst hcur
      exact ⟨_, _, rs', rfl, ⟨hrl, fun r hr => (hgood r hr).1, w.heap.size, w1.heap.size, Nat.le_refl _, hb.size, (Fr.of_own hown).narrow (Nat.le_refl _) hglt, f, _, hap.toP, fun j hj => ⟨by have := mono_of_step hap.1 (i := 0) (j := j) (by omega); omega, by have := mono_of_step hap.1 (i := j + 1) (j := k) (by omega); omega⟩, fun j _ => .inr (by rw [← hf0]; exact mono_of_step hap.1 (Nat.zero_le _))⟩, hzv, fun r hr => (hgood r hr).2, hbw⟩

/-! ### by their plain values -/
/-- A slice of roles that reads, plainly, as vs. -/
def RdRz (w : World) (A : Option Addr) (n : Nat) (vs : List RoleZ) : Prop := ∃ rs, RdR w A n rs ∧ zR rs = vs
/-- A slice of roles of the call's own that reads, plainly, as vs. -/
def FrRz (w : World) (lo hi : Nat) (A : Option Addr) (n : Nat) (vs : List RoleZ) : Prop := ∃ rs, FrR w lo hi A n rs ∧ zR rs = vs
/-- The lists of names are no longer than what the laws let by. -/
def ShortR (vs : List RoleZ) : Prop := ∀ v ∈ vs, v.under.length ≤ 1048576

section
variable {w w' : World} {lo hi : Nat} {A : Option Addr} {n : Nat} {vs : List RoleZ}
theorem RdRz.below {B : Nat} (h : RdRz w A n vs) (hb : Below B w w') (hB : w.heap.size ≤ B) : RdRz w' A n vs := by
  obtain ⟨rs, h, e⟩ := h
  exact ⟨rs, h.below hb hB, e⟩
theorem RdRz.drewN (h : RdRz w A n vs) (k : Nat) : RdRz (w.drewN k) A n vs := h
theorem RdRz.len (h : RdRz w A n vs) : vs.length = n := by
  obtain ⟨rs, h, rfl⟩ := h
  rw [zR_len]
  exact h.2.1
theorem RdRz.at {k : Nat} (h : RdRz w A n vs) (hk : k < n) :
    ∃ b off nm Aq nq cq us, A = some ⟨b, off, none⟩ ∧ b < w.heap.size ∧ Hid (vs[k]? = some ⟨nm, us⟩) ∧ w.cell? ⟨b, off + k * 2, none⟩ = some (.string nm) ∧ w.cell? ⟨b, off + k * 2 + 1, none⟩ = some (.slice Aq nq cq)
      ∧ nm.size ≤ 9223372036854775807 ∧ RdK kB w Aq nq us ∧ nq ≤ 9223372036854775807 := by
  obtain ⟨rs, h, rfl⟩ := h
  obtain ⟨b, off, nm, Aq, nq, cq, us, hA, hbl, hx, hc, hc2, hme, hst, hnq⟩ := h.at hk
  exact ⟨b, off, nm, Aq, nq, cq, us, hA, hbl, zR_at hx.out, hc, hc2, hme, hst, hnq⟩
theorem FrRz.rd (h : FrRz w lo hi A n vs) : RdRz w A n vs := by
  obtain ⟨rs, h, e⟩ := h
  exact ⟨rs, h.rd, e⟩
theorem FrRz.below {B : Nat} (h : FrRz w lo hi A n vs) (hb : Below B w w') (hB : hi ≤ B) : FrRz w' lo hi A n vs := by
  obtain ⟨rs, h, e⟩ := h
  exact ⟨rs, h.below hb hB, e⟩
theorem FrRz.wr {lo' hi' : Nat} (h : FrRz w lo hi A n vs) (hw : Wr lo' hi' w w') (hd : hi ≤ lo' ∨ hi' ≤ lo) : FrRz w' lo hi A n vs := by
  obtain ⟨rs, h, e⟩ := h
  exact ⟨rs, h.wr hw hd, e⟩
theorem FrRz.mono {lo' hi' : Nat} (h : FrRz w lo hi A n vs) (h1 : lo' ≤ lo) (h2 : hi ≤ hi') : FrRz w lo' hi' A n vs := by
  obtain ⟨rs, h, e⟩ := h
  exact ⟨rs, h.mono h1 h2, e⟩
theorem ShortR.of {rs : List RoleC} (h : RdR w A n rs) (hs : ShortR (zR rs)) : ∀ r ∈ rs, r.n ≤ 1048576 := fun r hr => by
  have h1 := (h.2.2 r hr).2.1.2.1
  have h2 := hs r.z (List.mem_map.2 ⟨r, hr, rfl⟩)
  simp only [RoleC.z] at h2
  omega
end

theorem szRoleSz_calls (A : Option Addr) (n c : Nat) (vs : List RoleZ) (l : Int) (w : World) (h : RdRz w A n vs) (h0 : 0 ≤ l) (h1 : l ≤ 1048576) (hn : n ≤ 9223372036854775807) :
    Calls Try.prog 14 #[.slice A n c, .int .i64 l] w (SzPost l ((n : Int) ≤ l ∧ ∀ v ∈ vs, (v.name.size : Int) ≤ l ∧ (v.under.length : Int) ≤ l) w) := by
  obtain ⟨rs, h, rfl⟩ := h
  refine (szRoleS_calls A n c rs l w h h0 h1 hn).mono ?_
  rintro e w' ⟨r, he, ha, hb, hf, hw⟩
  refine ⟨r, he, ha, hb, fun hr => ⟨(hf hr).1, fun v hv => ?_⟩, hw⟩
  obtain ⟨q, hq, rfl⟩ := List.mem_map.1 hv
  have h2 := (hf hr).2 q hq
  have h3 := (h.2.2 q hq).2.1.2.1
  refine ⟨h2.1, ?_⟩
  have := h2.2
  simp only [RoleC.z]
  omega
theorem toRoleSz_calls (A : Option Addr) (n c : Nat) (vs : List RoleZ) (w : World) (h : RdRz w A n vs) (hn : n ≤ 1048576) (hs : ShortR vs) :
    Calls Try.prog 16 #[.slice A n c] w fun e w' => ∃ A' c', e = .returned (.slice A' n c') ∧ FrRz w' w.heap.size w'.heap.size A' n vs ∧ Below w.heap.size w w' := by
  obtain ⟨rs, h, rfl⟩ := h
  refine (toRoleS_calls A n c rs w h hn (hs.of h)).mono ?_
  rintro e w' ⟨A', c', rs', he, hf, hz, _, hb⟩
  exact ⟨A', c', he, ⟨rs', hf, hz⟩, hb⟩
theorem eqRoleSz_calls (A A' : Option Addr) (n n' c c' : Nat) (vs ts : List RoleZ) (w : World) (h : RdRz w A n vs) (h' : RdRz w A' n' ts) (hn : n ≤ 1048576) (hn' : n' ≤ 1048576) (hs : ShortR vs) (hs' : ShortR ts) :
    Calls Try.prog 18 #[.slice A n c, .slice A' n' c'] w fun e w' => e = .returned (.bool (decide (vs = ts))) ∧ Below w.heap.size w w' := by
  obtain ⟨rs, h, rfl⟩ := h
  obtain ⟨rs', h', rfl⟩ := h'
  exact eqRoleS_calls A A' n n' c c' rs rs' w h h' hn hn' (hs.of h) (hs'.of h')

/-! ### markRoleS: it writes only between lo and hi -/
/-- Writes among a list of roles of the call's own leave its shape: the slices of the names stay where they are; those from j on still read. -/
def ShapeR (w : World) (a0 a1 : Nat) (f g : Nat → Nat) (A : Option Addr) (n : Nat) (rs : List RoleC) (j : Nat) : Prop :=
  (∃ cur, Fr w a0 a1 70 2 A n cur ∧ ∀ i r, rs[i]? = some r → cur[i * 2 + 1]? = some (.slice r.A r.n r.c)) ∧ ∀ i r, j ≤ i → rs[i]? = some r → Fr w (f i) (g i) 9 1 r.A r.n (cK kB r.under)
theorem flatR_at {rs : List RoleC} {i : Nat} {r : RoleC} (h : rs[i]? = some r) : ((rs.map cR).flatten)[i * 2 + 1]? = some (.slice r.A r.n r.c) := by
  rw [flatten_at (s := 2) cR_len (q := i) (k := 1) (r := cR r) (by rw [List.getElem?_map, h]; rfl) (by omega)]
  rfl

set_option maxHeartbeats 4000000 in
theorem markRoleSR_calls (A : Option Addr) (n c : Nat) (lo hi : Nat) (rs : List RoleC) (k : Nat) (w : World) (h : FrR w lo hi A n rs) (hn : n ≤ 1048576) (hq : ∀ r ∈ rs, r.n ≤ 1048576) (hk : 1 ≤ k) (hk2 : k ≤ 1099511627776) (hhi : hi ≤ w.heap.size) :
    Calls Try.prog 22 #[.slice A n c, .int .i64 k] w fun e w' => ∃ k' : Nat, e = .returned (.int .i64 k') ∧ k ≤ k' ∧ k' ≤ k + 1048577 * n ∧ Wr lo hi w w' := by
  obtain ⟨hl, hg, a0, a1, h0, h1, hF, f, g, ha, hf1, hd⟩ := h
  have HL := hide hl
  have HQ := hide hq
  have HG := hide hg
  have HM := hide ha.2.1
  rw [hl] at HM
  have HS := hide (show ShapeR w a0 a1 f g A n rs 0 from ⟨⟨_, hF, fun i r hr => flatR_at hr⟩, fun i r _ hr => ha.2.2 i r hr⟩)
  have HD := hide hd
  have HB := hide (And.intro h0 (And.intro h1 hf1))
  clear hq hF ha hf1 hd hg h0 h1 hl
  go_enter Try.func22, Try.ntmps22
  go_wp2
  go_loopw [1, 5] (fun q i wr => ∃ (j m : Nat), j ≤ n ∧ i = .int .i64 j ∧ q = .int .i64 m ∧ k ≤ m ∧ m ≤ k + 1048577 * j ∧ Hid (ShapeR wr a0 a1 f g A n rs j ∧ hi ≤ wr.heap.size) ∧ Wr lo hi w wr) (fun _ i _ => n - (intOf i).toNat)
  case atStart => exact ⟨0, k, Nat.zero_le _, rfl, rfl, Nat.le_refl _, by omega, ⟨HS.out, hhi⟩, Wr.refl _ _ _⟩
  case round =>
    obtain ⟨j, m, hj, rfl, rfl, hm1, hm2, HF, hw⟩ := hrel
    by_cases hlt : j < n
    · obtain ⟨⟨⟨cur, hF, hcs⟩, hst⟩, hhi2⟩ := HF.out
      have hjl : j < rs.length := by rw [HL.out]; exact hlt
      obtain ⟨⟨nm, Aq, nq, cq, us⟩, hx⟩ : ∃ r, rs[j]? = some r := ⟨_, List.getElem?_eq_getElem hjl⟩
      have hFs := hst j _ (Nat.le_refl _) hx
      have hc3 := hcs j _ hx
      have hnq := HQ.out _ (List.mem_of_getElem? hx)
      have hgd := HG.out _ (List.mem_of_getElem? hx)
      simp only at hFs hc3 hnq
      have hm1' := (HB.out.2.2 j hlt).1
      have hm2' := (HB.out.2.2 j hlt).2
      have hdj := HD.out j hlt
      obtain ⟨hb1, hb2, _⟩ := HB.out
      obtain ⟨b, off, rfl⟩ := hF.addr (by omega)
      have HK := hide (And.intro hcs (And.intro hst (And.intro hx (And.intro hFs (And.intro hc3 (And.intro hm1' (And.intro hm2' (And.intro hdj (And.intro hb1 (And.intro hb2 (And.intro hF hgd)))))))))))
      clear hcs hst hx hFs hc3 hm1' hm2' hdj hb1 hb2 hF hgd
      go_wp2_with fail
      refine (markText_z m _ _ (by omega) (by omega) (by omega)).mono ?_
      rintro e w2 ⟨rfl, hb2⟩
      obtain ⟨hcs, hst, hx, hFs, hc3, hm1', hm2', hdj, hb1, hb2', hF, hgd⟩ := HK.out
      have hB := HB.out
      have F2 := hF.below hb2 (by omega)
      have hw2 : Wr a0 a1 wr w2 := Wr.of_below hb2
      have hz2 := Nat.le_trans hhi2 hb2.size
      obtain ⟨v2, q5, q6, hl, hh, hs2⟩ := F2.put (j := j * 2) (by omega)
      have F3 := hs2.out (.string (mT m))
      have hw3 := hw2.trans (Wr.setCell w2 (off := off + j * 2) (.string (mT m)) hl hh)
      have hz3 : hi ≤ (w2.setCell ⟨b, off + j * 2, none⟩ (.string (mT m))).heap.size := by simpa using hz2
      have hcell3 : (w2.setCell ⟨b, off + j * 2, none⟩ (.string (mT m))).cell? ⟨b, off + j * 2 + 1, none⟩ = some (.slice Aq nq cq) := by
        obtain ⟨b', off', hA, _, hr⟩ := F3.rd.2 (by omega)
        obtain ⟨rfl, rfl⟩ : b = b' ∧ off = off' := by injection hA with hA; injection hA; exact ⟨‹_›, ‹_›⟩
        rw [show off + j * 2 + 1 = off + (j * 2 + 1) by omega]
        refine hr _ _ ?_
        rw [List.getElem?_set_ne (by omega)]
        exact hc3
      have FSa := hFs.wr hw3 (by omega)
      have FSK : FrK kB (w2.setCell ⟨b, off + j * 2, none⟩ (.string (mT m))) (f j) (g j) 9 Aq nq us := ⟨FSa, hgd.2.1, hgd.2.2.1⟩
      have HX := hide (And.intro F3 (And.intro hw3 (And.intro hz3 FSK)))
      clear F2 F3 hw2 hw3 hz2 hz3 FSa FSK hcs hst hx hFs hc3 hm1' hm2' hdj hb1 hb2' hF hgd hB
      go_wp2_with fail
      have hfh : g j ≤ (w2.setCell ⟨b, off + j * 2, none⟩ (.string (mT m))).heap.size := by
        have h1 := HX.out.2.2.1
        have h2 := HB.out
        have h3 := (h2.2.2 j hlt).2
        omega
      refine (markStringS_calls _ _ _ _ _ _ _ _ HX.out.2.2.2 hnq (by omega) (by omega) hfh).mono ?_
      rintro e w4 ⟨rfl, FS4, hw4, hz4⟩
      have HW := hide (And.intro hw4 hz4)
      clear FS4 hw4 hfh hz4
      go_wp2
      go_roundw
      case rel =>
        obtain ⟨F3, hw3, hz3, _⟩ := HX.out
        obtain ⟨hw4, hz4⟩ := HW.out
        obtain ⟨hcs, hst, hx, hFs, hc3, hm1', hm2', hdj, hb1, hb2', hF1, _⟩ := HK.out
        refine ⟨j + 1, m + 1 + nq, by omega, by go_num, by go_num, by omega, by omega, ⟨⟨⟨_, F3.wr hw4 (by omega), ?_⟩, ?_⟩, Nat.le_trans hz3 hz4⟩, (hw.trans (hw3.mono hb1 hb2')).trans (hw4.mono (by omega) (by omega))⟩
        · intro i r hr
          rw [List.getElem?_set_ne (by omega)]
          exact hcs i r hr
        · intro i r hi' hr
          have hi := (List.getElem?_eq_some_iff.1 hr).1
          rw [HL.out] at hi
          have hc' := hst i r (by omega) hr
          have hdi := HD.out i hi
          refine (hc'.wr hw3 (by omega)).wr hw4 ?_
          exact HM.out i j hi hlt (by omega)
      case measure => simp [intOf]; omega
    · have hjn : j = n := by omega
      subst hjn
      go_wp2
      go_ret
      exact ⟨m, rfl, hm1, hm2, hw⟩

theorem markRoleSz_calls (A : Option Addr) (n c : Nat) (lo hi : Nat) (vs : List RoleZ) (k : Int) (w : World) (h : FrRz w lo hi A n vs) (hn : n ≤ 1048576) (hs : ShortR vs) (hk : 1 ≤ k) (hk2 : k ≤ 1099511627776) (hhi : hi ≤ w.heap.size) :
    Calls Try.prog 22 #[.slice A n c, .int .i64 k] w fun e w' => ∃ k' : Int, e = .returned (.int .i64 k') ∧ k ≤ k' ∧ k' ≤ k + 1099512676352 ∧ Wr lo hi w w' := by
  obtain ⟨rs, h, rfl⟩ := h
  obtain ⟨k0, rfl⟩ : ∃ k0 : Nat, k = (k0 : Int) := ⟨k.toNat, by omega⟩
  refine (markRoleSR_calls A n c lo hi rs k0 w h hn (hs.of h.rd) (by omega) (by omega) hhi).mono ?_
  rintro e w' ⟨k', rfl, h1, h2, hw⟩
  exact ⟨k', rfl, by omega, by omega, hw⟩

end Go.Proofs.Ytidhbpnibgegdaa
