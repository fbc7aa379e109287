/- Plain: the changes from one state to another lead there. -/
import Derived.Test.YtmpfkmbfbeejhaaDoorMg
import Derived.Test.YtmpfkmbfbeejhaaDoorDiff
import Derived.Test.YtmpfkmbfbeejhaaDoorChgOk
namespace Go.Proofs.YtmpfkmbfbeejhaaDoor
open Go.RowKit
set_option linter.unusedVariables false

theorem mem_set_self (ss : List SetZ) (e : SetZ) : e ∈ setZ ss e := by
  induction ss with
  | nil => simp [setZ]
  | cons s ss ih =>
    rw [setZ]
    split
    · simp
    · split
      · simp
      · exact List.mem_cons_of_mem _ ih
theorem mem_set_old {ss : List SetZ} {e x : SetZ} (h : x ∈ ss) (hx : x.name ≠ e.name) : x ∈ setZ ss e := by
  induction ss with
  | nil => simp at h
  | cons s ss ih =>
    rw [setZ]
    split
    · exact List.mem_cons_of_mem _ h
    · split
      · next h1 =>
        rcases List.mem_cons.1 h with rfl | h
        · exact absurd h1 hx
        · exact List.mem_cons_of_mem _ h
      · rcases List.mem_cons.1 h with rfl | h
        · simp
        · exact List.mem_cons_of_mem _ (ih h)
theorem val_set {ss : List SetZ} {e : SetZ} (h : SortP ss) (nm : ByteArray) : valZ (setZ ss e) nm = if e.name = nm then e.value else valZ ss nm := by
  have hs := sort_setZ (e := e) h
  split
  · next he => rw [← he]; exact sortP_val hs (mem_set_self ss e)
  · next he =>
    cases hg : getZ ss nm with
    | none =>
      have h0 := getZ_none.1 hg
      rw [val_no h0]
      refine val_no ?_
      rw [has_setZ, h0, decide_eq_false he]; rfl
    | some s =>
      obtain ⟨h1, h2⟩ := getZ_name hg
      rw [← h1, sortP_val h h2]
      exact sortP_val hs (mem_set_old h2 (by rw [h1]; exact fun e' => he e'.symm))
theorem val_del {ss : List SetZ} {x : ByteArray} (h : SortP ss) (nm : ByteArray) : valZ (delZ ss x) nm = if x = nm then -1 else valZ ss nm := by
  have hs : SortP (delZ ss x) := List.Pairwise.sublist List.filter_sublist h
  split
  · next he =>
    subst he
    refine val_no ?_
    rw [← Bool.not_eq_true, hasZ_iff]
    rintro ⟨s, hs, h1⟩
    have := (List.mem_filter.1 hs).2
    rw [h1] at this
    simp at this
  · next he =>
    cases hg : getZ ss nm with
    | none =>
      have h0 := getZ_none.1 hg
      rw [val_no h0]
      refine val_no ?_
      rw [← Bool.not_eq_true, hasZ_iff] at h0 ⊢
      rintro ⟨s, hs, h1⟩
      exact h0 ⟨s, (List.mem_filter.1 hs).1, h1⟩
    | some s =>
      obtain ⟨h1, h2⟩ := getZ_name hg
      rw [← h1, sortP_val h h2]
      exact sortP_val hs (List.mem_filter.2 ⟨h2, by rw [h1]; simpa using fun e => he e.symm⟩)
theorem app_drops : ∀ {D ss : List SetZ} {rest : List ChangeZ}, SortP ss → (∀ d ∈ D, d ∈ ss) → D.Pairwise (fun a b => a.name ≠ b.name) → appZ ss (D.map (chOf 2) ++ rest) = appZ (D.foldl (fun s d => delZ s d.name) ss) rest
  | [], ss, rest, _, _, _ => rfl
  | d :: D, ss, rest, hs, hd, hp => by
    rw [List.pairwise_cons] at hp
    have hg := sortP_get hs (hd d (by simp))
    have hc : chgC ss (chOf 2 d) = 0 := by
      unfold chgC chOf
      simp only
      rw [if_neg (by decide), hg]
      simp
    rw [List.map_cons, List.cons_append, appZ, if_pos hc, List.foldl_cons]
    have e : chgL ss (chOf 2 d) = delZ ss d.name := by
      unfold chgL chOf
      simp only
      rw [if_neg (by decide)]
    rw [e]
    refine app_drops (List.Pairwise.sublist List.filter_sublist hs) (fun x hx => List.mem_filter.2 ⟨hd x (by simp [hx]), ?_⟩) hp.2
    have := hp.1 x hx
    simpa using fun e => this e.symm
theorem drops_val : ∀ {D ss : List SetZ} (nm : ByteArray), SortP ss → SortP (D.foldl (fun s d => delZ s d.name) ss) ∧ valZ (D.foldl (fun s d => delZ s d.name) ss) nm = if ∃ d ∈ D, d.name = nm then -1 else valZ ss nm
  | [], ss, nm, h => ⟨h, by simp⟩
  | d :: D, ss, nm, h => by
    have hs : SortP (delZ ss d.name) := List.Pairwise.sublist List.filter_sublist h
    obtain ⟨h1, h2⟩ := drops_val (D := D) nm hs
    refine ⟨h1, ?_⟩
    rw [List.foldl_cons, h2, val_del h]
    by_cases h3 : ∃ x ∈ D, x.name = nm
    · rw [if_pos h3, if_pos (by obtain ⟨x, hx, e⟩ := h3; exact ⟨x, by simp [hx], e⟩)]
    · rw [if_neg h3]
      by_cases h4 : d.name = nm
      · rw [if_pos h4, if_pos ⟨d, by simp, h4⟩]
      · rw [if_neg h4, if_neg]
        rintro ⟨x, hx, e⟩
        rcases List.mem_cons.1 hx with rfl | hx
        · exact h4 e
        · exact h3 ⟨x, hx, e⟩
theorem drops_mem : ∀ {D ss : List SetZ} {x : SetZ}, x ∈ D.foldl (fun s d => delZ s d.name) ss → x ∈ ss
  | [], ss, x, h => h
  | d :: D, ss, x, h => (List.mem_filter.1 (drops_mem (D := D) h)).1
theorem names_short {ss b : List SetZ} (h : SortP ss) (hb : ∀ s ∈ ss, hasZ b s.name = true) : ss.length ≤ b.length := by
  have hn : (ss.map SetZ.name).Nodup := sortB_nodup (by unfold SortB; exact List.pairwise_map.2 h)
  have := nodup_len (xs := ss.map SetZ.name) (ys := b.map SetZ.name) hn (by
    intro x hx
    obtain ⟨s, hs, rfl⟩ := List.mem_map.1 hx
    obtain ⟨t, ht, e⟩ := hasZ_iff.1 (hb s hs)
    exact List.mem_map.2 ⟨t, ht, e⟩)
  simpa using this
theorem app_puts {b : List SetZ} (hl : b.length ≤ 24) : ∀ {P ss : List SetZ}, SortP ss → (∀ s ∈ ss, hasZ b s.name = true) → (∀ p ∈ P, hasZ b p.name = true) → appZ ss (P.map (chOf 1)) = (P.foldl setZ ss, 0)
  | [], ss, _, _, _ => rfl
  | p :: P, ss, hs, hb, hp => by
    have hs' := sort_setZ (e := p) hs
    have hb' : ∀ s ∈ setZ ss p, hasZ b s.name = true := by
      intro s hm
      rcases mem_setZ hm with rfl | hm
      · exact hp _ (by simp)
      · exact hb s hm
    have hlen := names_short hs' hb'
    have hc : chgC ss (chOf 1 p) = 0 := by
      unfold chgC chOf
      simp only
      rw [if_pos (by trivial), if_neg (by show ¬ 24 < (setZ ss p).length; omega)]
    rw [List.map_cons, appZ, if_pos hc, List.foldl_cons]
    have e : chgL ss (chOf 1 p) = setZ ss p := by
      unfold chgL chOf
      simp only
      rw [if_pos (by trivial)]
    rw [e]
    exact app_puts hl hs' hb' (fun x hx => hp x (by simp [hx]))
theorem puts_val : ∀ {P ss : List SetZ} (nm : ByteArray), SortP ss → P.Pairwise (fun a b => a.name ≠ b.name) → SortP (P.foldl setZ ss) ∧ ((∀ p ∈ P, p.name = nm → valZ (P.foldl setZ ss) nm = p.value) ∧ ((∀ p ∈ P, p.name ≠ nm) → valZ (P.foldl setZ ss) nm = valZ ss nm))
  | [], ss, nm, h, _ => ⟨h, by simp, by simp⟩
  | p :: P, ss, nm, h, hp => by
    rw [List.pairwise_cons] at hp
    have hs' := sort_setZ (e := p) h
    obtain ⟨h1, h2, h3⟩ := puts_val (P := P) nm hs' hp.2
    rw [List.foldl_cons]
    refine ⟨h1, fun x hx e => ?_, fun hn => ?_⟩
    · rcases List.mem_cons.1 hx with rfl | hx
      · rw [h3 (fun y hy e' => hp.1 y hy (by rw [e, e'])), val_set h, if_pos e]
      · exact h2 x hx e
    · rw [h3 (fun y hy => hn y (by simp [hy])), val_set h, if_neg (hn p (by simp))]
theorem puts_mem : ∀ {P ss : List SetZ} {x : SetZ}, x ∈ P.foldl setZ ss → x ∈ ss ∨ x ∈ P
  | [], ss, x, h => .inl h
  | p :: P, ss, x, h => by
    rcases puts_mem (P := P) h with h | h
    · rcases mem_setZ h with rfl | h
      · exact .inr (by simp)
      · exact .inl h
    · exact .inr (by simp [h])
theorem names_ne {ss : List SetZ} (h : SortP ss) : ss.Pairwise (fun a b => a.name ≠ b.name) := h.imp fun h => less_ne h
theorem apC_ok2 {ss : List SetZ} {cs : List ChangeZ} (h1 : stateB ss = true) (h2 : cs.all chgB = true) : apC ss cs = (appZ ss cs).2 ∧ apV ss cs = (appZ ss cs).1 := by unfold apC apV; rw [h1, h2]; exact ⟨rfl, rfl⟩
/-- The changes lead from one state to the other. -/
theorem app_diff {a b : List SetZ} (h1 : stateB a = true) (h2 : stateB b = true) : apC a (difR a b) = 0 ∧ apV a (difR a b) = b := by
  have sa := sortP_of h1
  have sb := sortP_of h2
  have hok : (difR a b).all chgB = true := by
    rw [(dif_ok h1 h2).2, List.all_append, Bool.and_eq_true, List.all_eq_true, List.all_eq_true]
    constructor
    · intro c hc
      obtain ⟨s, hs, rfl⟩ := List.mem_map.1 hc
      have := state_mem h1 (List.mem_of_mem_take (List.mem_filter.1 hs).1)
      unfold chgB chOf
      rw [Bool.and_eq_true]
      exact ⟨rfl, this⟩
    · intro c hc
      obtain ⟨s, hs, rfl⟩ := List.mem_map.1 hc
      have := state_mem h2 (List.mem_of_mem_take (List.mem_filter.1 hs).1)
      unfold chgB chOf
      rw [Bool.and_eq_true]
      exact ⟨rfl, this⟩
  have e0 := apC_ok2 h1 hok
  rw [(dif_ok h1 h2).2] at e0
  rw [(dif_ok h1 h2).2]
  have eD : dropK a b a.length = (a.filter (fun s => !hasZ b s.name)).map (chOf 2) := by unfold dropK; rw [List.take_of_length_le (Nat.le_refl _)]
  have eP : putK a b b.length = (b.filter (fun s => !decide (s ∈ a))).map (chOf 1) := by unfold putK; rw [List.take_of_length_le (Nat.le_refl _)]
  rw [eD, eP] at e0 ⊢
  generalize hD : a.filter (fun s => !hasZ b s.name) = D at *
  generalize hP : b.filter (fun s => !decide (s ∈ a)) = P at *
  have mD : ∀ d, d ∈ D ↔ d ∈ a ∧ hasZ b d.name = false := by intro d; rw [← hD, List.mem_filter]; simp
  have mP : ∀ p, p ∈ P ↔ p ∈ b ∧ p ∉ a := by intro p; rw [← hP, List.mem_filter]; simp
  have pD : D.Pairwise (fun a b => a.name ≠ b.name) := by rw [← hD]; exact List.Pairwise.sublist List.filter_sublist (names_ne sa)
  have pP : P.Pairwise (fun a b => a.name ≠ b.name) := by rw [← hP]; exact List.Pairwise.sublist List.filter_sublist (names_ne sb)
  rw [app_drops sa (fun d hd => ((mD d).1 hd).1) pD] at e0
  have sD := (drops_val (D := D) (ss := a) ⟨#[]⟩ sa).1
  have hin : ∀ s ∈ D.foldl (fun s d => delZ s d.name) a, hasZ b s.name = true := by
    intro s hs
    rcases b_cases (hasZ b s.name) with h | h
    · have hv := (drops_val (D := D) s.name sa).2
      rw [if_pos ⟨s, (mD s).2 ⟨drops_mem hs, h⟩, rfl⟩, sortP_val sD hs] at hv
      have := state_pos h1 s (drops_mem hs)
      omega
    · exact h
  have hpb : ∀ p ∈ P, hasZ b p.name = true := fun p hp => hasZ_iff.2 ⟨p, ((mP p).1 hp).1, rfl⟩
  rw [app_puts (state_len h2) sD hin hpb] at e0
  rw [e0.1, e0.2]
  refine ⟨rfl, ?_⟩
  refine state_ext (puts_val ⟨#[]⟩ sD pP).1 sb (fun s hs => ?_) (state_pos h2) fun nm => ?_
  · rcases puts_mem hs with h | h
    · exact state_pos h1 s (drops_mem h)
    · exact state_pos h2 s ((mP s).1 h).1
  · obtain ⟨_, v1, v2⟩ := puts_val nm sD pP
    by_cases hx : ∃ p ∈ P, p.name = nm
    · obtain ⟨p, hp, e⟩ := hx
      rw [v1 p hp e, ← e, sortP_val sb ((mP p).1 hp).1]
    · rw [v2 (fun p hp e => hx ⟨p, hp, e⟩), (drops_val (D := D) nm sa).2]
      rcases b_cases (hasZ b nm) with h | h
      · rw [val_no h]
        split
        · rfl
        · next hc =>
          refine val_no ?_
          rw [← Bool.not_eq_true, hasZ_iff]
          rintro ⟨s, hs, e⟩
          exact hc ⟨s, (mD s).2 ⟨hs, by rw [e]; exact h⟩, e⟩
      · obtain ⟨s, hs, e⟩ := hasZ_iff.1 h
        rw [if_neg (by rintro ⟨d, hd, e'⟩; have := ((mD d).1 hd).2; rw [e', h] at this; cases this)]
        have hsa : s ∈ a := by
          by_cases hc : s ∈ a
          · exact hc
          · exact absurd ⟨s, (mP s).2 ⟨hs, hc⟩, e⟩ hx
        rw [← e, sortP_val sa hsa, sortP_val sb hs]
end Go.Proofs.YtmpfkmbfbeejhaaDoor
