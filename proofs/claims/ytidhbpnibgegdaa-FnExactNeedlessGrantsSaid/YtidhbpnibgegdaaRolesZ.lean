/- Roles, plainly: which is found, which lie under one, which are valid. -/
import Derived.Test.YtidhbpnibgegdaaStrZ
import Derived.Test.YtidhbpnibgegdaaName
namespace Go.Proofs.Ytidhbpnibgegdaa
open Go.RowKit
set_option linter.unusedVariables false

/-- A role, plainly. -/
structure RoleZ where
  name : ByteArray
  under : List ByteArray
theorem roleZ_iff {a b : RoleZ} : a = b ↔ a.name = b.name ∧ a.under = b.under := by cases a; cases b; simp
instance : DecidableEq RoleZ := fun a b => decidable_of_iff _ roleZ_iff.symm
def namesR (rs : List RoleZ) : List ByteArray := rs.map RoleZ.name

/-! ### finding -/
/-- The index of the first role of a name, or how many there are. -/
def findN (rs : List RoleZ) (nm : ByteArray) : Nat := rs.findIdx (fun r => decide (r.name = nm))
def hasR (rs : List RoleZ) (nm : ByteArray) : Bool := decide (findN rs nm < rs.length)
/-- The index of the first role of a name, or -1. -/
def findI (rs : List RoleZ) (nm : ByteArray) : Int := if findN rs nm < rs.length then (findN rs nm : Int) else -1
theorem hasR_iff {rs : List RoleZ} {nm : ByteArray} : hasR rs nm = true ↔ findN rs nm < rs.length := by simp [hasR]
theorem hasR_not {rs : List RoleZ} {nm : ByteArray} : hasR rs nm = false ↔ rs.length ≤ findN rs nm := by simp [hasR]
theorem findI_yes {rs : List RoleZ} {nm : ByteArray} (h : hasR rs nm = true) : findI rs nm = (findN rs nm : Int) := by
  unfold findI; rw [if_pos (hasR_iff.1 h)]
theorem findI_no {rs : List RoleZ} {nm : ByteArray} (h : hasR rs nm = false) : findI rs nm = -1 := by
  unfold findI; rw [if_neg (by have := hasR_not.1 h; omega)]
theorem findI_neg (rs : List RoleZ) (nm : ByteArray) : decide (findI rs nm < 0) = !hasR rs nm := by
  rcases b_cases (hasR rs nm) with h | h
  · rw [findI_no h, h]; rfl
  · rw [findI_yes h, h]; simp
theorem findI_ge (rs : List RoleZ) (nm : ByteArray) : decide (0 ≤ findI rs nm) = hasR rs nm := by
  rcases b_cases (hasR rs nm) with h | h
  · rw [findI_no h, h]; rfl
  · rw [findI_yes h, h]; simp
theorem find_here {rs : List RoleZ} {nm : ByteArray} {k : Nat} {r : RoleZ} (hr : rs[k]? = some r) (hn : r.name = nm) (h : ∀ s ∈ rs.take k, s.name ≠ nm) : findN rs nm = k := by
  obtain ⟨hk, he⟩ := List.getElem?_eq_some_iff.1 hr
  unfold findN
  rw [List.findIdx_eq hk]
  refine ⟨by rw [he]; simpa using hn, fun j hj => ?_⟩
  have hm : rs[j] ∈ rs.take k := by
    rw [List.mem_take_iff_getElem]
    exact ⟨j, by omega, rfl⟩
  simpa using h _ hm
theorem find_none {rs : List RoleZ} {nm : ByteArray} (h : ∀ s ∈ rs, s.name ≠ nm) : findN rs nm = rs.length := by
  unfold findN
  rw [List.findIdx_eq_length]
  intro x hx
  simpa using h x hx
theorem find_name {rs : List RoleZ} {nm : ByteArray} (h : hasR rs nm = true) : ∃ r, rs[findN rs nm]? = some r ∧ r.name = nm := by
  have hk := hasR_iff.1 h
  refine ⟨rs[findN rs nm], List.getElem?_eq_getElem hk, ?_⟩
  have hk' : rs.findIdx (fun r => decide (r.name = nm)) < rs.length := hk
  have := List.findIdx_getElem (xs := rs) (p := fun r => decide (r.name = nm)) (w := hk')
  exact of_decide_eq_true this
theorem has_of_mem {rs : List RoleZ} {r : RoleZ} (h : r ∈ rs) : hasR rs r.name = true := by
  rw [hasR_iff]
  unfold findN
  exact List.findIdx_lt_length_of_exists ⟨r, h, by simp⟩
theorem has_mem {rs : List RoleZ} {nm : ByteArray} : hasR rs nm = true ↔ nm ∈ namesR rs := by
  constructor
  · intro h
    obtain ⟨r, hr, rfl⟩ := find_name h
    exact List.mem_map_of_mem (List.mem_of_getElem? hr)
  · intro h
    obtain ⟨r, hr, rfl⟩ := List.mem_map.1 h
    exact has_of_mem hr
/-- Names that rise are found where they stand. -/
theorem find_at {rs : List RoleZ} (hs : SortB (namesR rs)) {k : Nat} {r : RoleZ} (hr : rs[k]? = some r) : findN rs r.name = k := by
  refine find_here hr rfl fun s hm e => ?_
  obtain ⟨j, hj, hjk⟩ := List.mem_take_iff_getElem.1 hm
  obtain ⟨hk, he⟩ := List.getElem?_eq_some_iff.1 hr
  have h1 := List.pairwise_iff_getElem.1 hs j k (by simp [namesR]; omega) (by simpa [namesR] using hk) (by omega)
  simp only [namesR, List.getElem_map] at h1
  rw [hjk, he, e] at h1
  rw [strLess_irrefl] at h1
  cases h1

/-! ### who lies under whom -/
/-- j lies directly under i. -/
def Ed (rs : List RoleZ) (i j : Nat) : Prop := ∃ r u, rs[i]? = some r ∧ u ∈ r.under ∧ findN rs u = j ∧ j < rs.length
/-- j lies under i, directly or over others. -/
inductive Rc (rs : List RoleZ) : Nat → Nat → Prop
  | one {i j : Nat} : Ed rs i j → Rc rs i j
  | more {i j k : Nat} : Rc rs i j → Ed rs j k → Rc rs i k
theorem Rc.lt {rs : List RoleZ} {i j : Nat} (h : Rc rs i j) : j < rs.length := by
  cases h with
  | one e => obtain ⟨_, _, _, _, _, h⟩ := e; exact h
  | more _ e => obtain ⟨_, _, _, _, _, h⟩ := e; exact h
theorem Rc.trans {rs : List RoleZ} {i j k : Nat} (h : Rc rs i j) (h' : Rc rs j k) : Rc rs i k := by
  induction h' with
  | one e => exact .more h e
  | more _ e ih => exact .more ih e

/-- Each of some names is marked. -/
def markZ (rs : List RoleZ) (us : List ByteArray) (out : List Bool) : List Bool := us.foldl (fun o u => o.set (findN rs u) true) out
def undersAt (rs : List RoleZ) (i : Nat) : List ByteArray := match rs[i]? with | some r => r.under | none => []
/-- One role's names are marked, if it is marked itself. -/
def rowZ (rs : List RoleZ) (t i : Nat) (out : List Bool) : List Bool := if i = t ∨ out[i]? = some true then markZ rs (undersAt rs i) out else out
/-- The first k roles, one after the other. -/
def passZ (rs : List RoleZ) (t : Nat) (out : List Bool) : Nat → List Bool
  | 0 => out
  | k + 1 => rowZ rs t k (passZ rs t out k)
/-- So many turns. -/
def turnsZ (rs : List RoleZ) (t : Nat) : Nat → List Bool
  | 0 => List.replicate rs.length false
  | k + 1 => passZ rs t (turnsZ rs t k) rs.length
/-- What lies under the role at t. -/
def underB (rs : List RoleZ) (t : Nat) : List Bool := turnsZ rs t rs.length

theorem set_true {o : List Bool} {m j : Nat} : (o.set m true)[j]? = some true ↔ o[j]? = some true ∨ (j = m ∧ j < o.length) := by
  rw [List.getElem?_set]
  by_cases h : m = j
  · subst h
    by_cases h2 : m < o.length
    · simp [h2]
    · simp [h2]
  · rw [if_neg h]
    constructor
    · exact .inl
    · rintro (h' | ⟨h', _⟩)
      · exact h'
      · exact absurd h'.symm h
theorem mark_snoc {rs : List RoleZ} {us : List ByteArray} {u : ByteArray} {out : List Bool} : markZ rs (us ++ [u]) out = (markZ rs us out).set (findN rs u) true := by simp [markZ]
theorem mark_len (rs : List RoleZ) (us : List ByteArray) (out : List Bool) : (markZ rs us out).length = out.length := by
  induction us generalizing out with
  | nil => rfl
  | cons u us ih =>
    show (markZ rs us (out.set (findN rs u) true)).length = _
    rw [ih]; simp
theorem mark_true {rs : List RoleZ} {us : List ByteArray} {out : List Bool} {j : Nat} : (markZ rs us out)[j]? = some true ↔ out[j]? = some true ∨ (j < out.length ∧ ∃ u ∈ us, findN rs u = j) := by
  induction us generalizing out with
  | nil => simp [markZ]
  | cons u us ih =>
    show (markZ rs us (out.set (findN rs u) true))[j]? = some true ↔ _
    rw [ih, set_true, List.length_set]
    constructor
    · rintro ((h | ⟨h1, h2⟩) | ⟨h1, v, hv, h2⟩)
      · exact .inl h
      · exact .inr ⟨h2, u, by simp, h1.symm⟩
      · exact .inr ⟨h1, v, by simp [hv], h2⟩
    · rintro (h | ⟨h1, v, hv, h2⟩)
      · exact .inl (.inl h)
      · rcases List.mem_cons.1 hv with rfl | hv
        · exact .inl (.inr ⟨h2.symm, h1⟩)
        · exact .inr ⟨h1, v, hv, h2⟩

/-- All that is marked in the first is marked in the second. -/
def LeB (a b : List Bool) : Prop := a.length = b.length ∧ ∀ j : Nat, a[j]? = some true → b[j]? = some true
theorem LeB.refl (a : List Bool) : LeB a a := ⟨rfl, fun _ h => h⟩
theorem LeB.trans {a b c : List Bool} (h : LeB a b) (h' : LeB b c) : LeB a c := ⟨h.1.trans h'.1, fun j hj => h'.2 j (h.2 j hj)⟩
theorem row_le (rs : List RoleZ) (t i : Nat) (out : List Bool) : LeB out (rowZ rs t i out) := by
  unfold rowZ
  split
  · exact ⟨(mark_len _ _ _).symm, fun j h => mark_true.2 (.inl h)⟩
  · exact LeB.refl _
theorem pass_le (rs : List RoleZ) (t : Nat) (out : List Bool) {i k : Nat} (h : i ≤ k) : LeB (passZ rs t out i) (passZ rs t out k) := by
  induction k with
  | zero => rw [show i = 0 by omega]; exact LeB.refl _
  | succ k ih =>
    rcases Nat.lt_or_ge i (k + 1) with h1 | h1
    · exact (ih (by omega)).trans (row_le _ _ _ _)
    · rw [show i = k + 1 by omega]; exact LeB.refl _
theorem turns_len (rs : List RoleZ) (t : Nat) : ∀ k, (turnsZ rs t k).length = rs.length
  | 0 => by simp [turnsZ]
  | k + 1 => by
    have h := (pass_le rs t (turnsZ rs t k) (Nat.zero_le rs.length)).1
    simp only [passZ] at h
    rw [turnsZ, ← h, turns_len rs t k]
theorem under_len (rs : List RoleZ) (t : Nat) : (underB rs t).length = rs.length := turns_len _ _ _
theorem pass_len (rs : List RoleZ) (t k i : Nat) : (passZ rs t (turnsZ rs t k) i).length = rs.length := by
  have h := (pass_le rs t (turnsZ rs t k) (Nat.zero_le i)).1
  simp only [passZ] at h
  rw [← h, turns_len]

/-- Only what lies under t is marked. -/
def SoundB (rs : List RoleZ) (t : Nat) (out : List Bool) : Prop := ∀ j : Nat, out[j]? = some true → Rc rs t j
theorem row_sound {rs : List RoleZ} {t i : Nat} {out : List Bool} (hl : out.length = rs.length) (h : SoundB rs t out) : SoundB rs t (rowZ rs t i out) := by
  unfold rowZ
  split
  · rename_i hc
    intro j hj
    rcases mark_true.1 hj with hj | ⟨hjl, u, hu, hf⟩
    · exact h j hj
    · unfold undersAt at hu
      split at hu
      · rename_i r hr
        have he : Ed rs i j := ⟨r, u, hr, hu, hf, by omega⟩
        rcases hc with rfl | hc
        · exact .one he
        · exact .more (h i hc) he
      · simp at hu
  · exact h
theorem pass_sound {rs : List RoleZ} {t : Nat} {out : List Bool} (hl : out.length = rs.length) (h : SoundB rs t out) (k : Nat) : SoundB rs t (passZ rs t out k) := by
  induction k with
  | zero => exact h
  | succ k ih =>
    refine row_sound ?_ ih
    have := (pass_le rs t out (Nat.zero_le k)).1
    simp only [passZ] at this
    omega
theorem turns_sound (rs : List RoleZ) (t : Nat) : ∀ k, SoundB rs t (turnsZ rs t k)
  | 0 => by
    intro j hj
    rw [turnsZ, List.getElem?_replicate] at hj
    split at hj <;> simp at hj
  | k + 1 => pass_sound (turns_len _ _ _) (turns_sound rs t k) _

/-- All that lies directly under what is marked is marked. -/
def ClosedB (rs : List RoleZ) (t : Nat) (out : List Bool) : Prop := ∀ i j : Nat, (i = t ∨ out[i]? = some true) → Ed rs i j → out[j]? = some true
theorem closed_all {rs : List RoleZ} {t : Nat} {out : List Bool} (hl : out.length = rs.length) (h : passZ rs t out rs.length = out) : ClosedB rs t out := by
  rintro i j hi ⟨r, u, hr, hu, hf, hj⟩
  have hil := (List.getElem?_eq_some_iff.1 hr).1
  have h0 := pass_le rs t out (Nat.zero_le i)
  simp only [passZ] at h0
  have h1 := pass_le rs t out (show i + 1 ≤ rs.length by omega)
  rw [h] at h1
  refine h1.2 j ?_
  have hc : i = t ∨ (passZ rs t out i)[i]? = some true := hi.imp_right fun h => h0.2 i h
  simp only [passZ, rowZ]
  rw [if_pos hc]
  refine mark_true.2 (.inr ⟨by rw [← h0.1]; omega, u, ?_, hf⟩)
  simp [undersAt, hr, hu]
theorem leB_cons {x y : Bool} {a b : List Bool} (h : LeB (x :: a) (y :: b)) : (x = true → y = true) ∧ LeB a b := by
  refine ⟨fun hx => ?_, by have := h.1; simpa using this, fun j hj => ?_⟩
  · have := h.2 0 (by simpa using hx)
    simpa using this
  · have := h.2 (j + 1) (by simpa using hj)
    simpa using this
theorem leB_count : ∀ {a b : List Bool}, LeB a b → a.countP id ≤ b.countP id ∧ (a.countP id = b.countP id → a = b)
  | [], [], _ => ⟨Nat.le_refl _, fun _ => rfl⟩
  | [], y :: b, h => by have := h.1; simp at this
  | x :: a, [], h => by have := h.1; simp at this
  | x :: a, y :: b, h => by
    obtain ⟨h1, h2⟩ := leB_cons h
    obtain ⟨h3, h4⟩ := leB_count h2
    cases x <;> cases y
    · refine ⟨by simpa using h3, fun e => ?_⟩
      rw [h4 (by simpa using e)]
    · refine ⟨by simp; omega, fun e => ?_⟩
      simp at e
      omega
    · exact absurd (h1 rfl) (by simp)
    · refine ⟨by simpa using h3, fun e => ?_⟩
      rw [h4 (by simpa using e)]
theorem turns_grow (rs : List RoleZ) (t : Nat) : ∀ k, passZ rs t (turnsZ rs t k) rs.length = turnsZ rs t k ∨ k ≤ (turnsZ rs t k).countP id
  | 0 => .inr (Nat.zero_le _)
  | k + 1 => by
    have hp := pass_le rs t (turnsZ rs t k) (Nat.zero_le rs.length)
    simp only [passZ] at hp
    rcases turns_grow rs t k with h | h
    · left
      rw [turnsZ, h, h]
    · obtain ⟨h1, h2⟩ := leB_count hp
      by_cases he : (turnsZ rs t k).countP id = (passZ rs t (turnsZ rs t k) rs.length).countP id
      · left
        have := h2 he
        rw [turnsZ, ← this, ← this]
      · right
        rw [turnsZ]
        omega
theorem under_closed (rs : List RoleZ) (t : Nat) : ClosedB rs t (underB rs t) := by
  rcases turns_grow rs t rs.length with h | h
  · exact closed_all (turns_len _ _ _) h
  · have hl := turns_len rs t rs.length
    have hall : ∀ x ∈ turnsZ rs t rs.length, id x = true := by
      have h1 := List.countP_le_length (p := id) (l := turnsZ rs t rs.length)
      exact List.countP_eq_length.1 (by omega)
    rintro i j _ ⟨_, _, _, _, _, hj⟩
    have hj' : j < (turnsZ rs t rs.length).length := by omega
    show (turnsZ rs t rs.length)[j]? = some true
    rw [List.getElem?_eq_getElem hj']
    exact congrArg some (hall _ (List.getElem_mem hj'))
theorem under_iff {rs : List RoleZ} {t j : Nat} : (underB rs t)[j]? = some true ↔ Rc rs t j := by
  constructor
  · exact turns_sound rs t _ j
  · intro h
    induction h with
    | one e => exact under_closed rs _ _ _ (.inl rfl) e
    | more _ e ih => exact under_closed rs _ _ _ (.inr ih) e

/-! ### the names of those that are marked -/
def pickR (rs : List RoleZ) (out : List Bool) : List ByteArray := ((rs.zip out).filter (fun p => p.2)).map (fun p => p.1.name)
theorem pick_mem {rs : List RoleZ} {out : List Bool} {x : ByteArray} : x ∈ pickR rs out ↔ ∃ (j : Nat) (r : RoleZ), rs[j]? = some r ∧ out[j]? = some true ∧ r.name = x := by
  unfold pickR
  rw [List.mem_map]
  constructor
  · rintro ⟨⟨r, b⟩, hp, rfl⟩
    obtain ⟨hp, hb⟩ := List.mem_filter.1 hp
    obtain ⟨j, hj⟩ := List.mem_iff_getElem?.1 hp
    rw [List.getElem?_zip_eq_some] at hj
    refine ⟨j, r, hj.1, ?_, rfl⟩
    rw [hj.2]
    exact congrArg some hb
  · rintro ⟨j, r, hr, ho, rfl⟩
    refine ⟨(r, true), List.mem_filter.2 ⟨?_, rfl⟩, rfl⟩
    exact List.mem_of_getElem? (i := j) (List.getElem?_zip_eq_some.2 ⟨hr, ho⟩)
theorem pick_sort {rs : List RoleZ} {out : List Bool} (h : SortB (namesR rs)) : SortB (pickR rs out) := by
  unfold SortB pickR
  unfold SortB namesR at h
  rw [List.pairwise_map] at h ⊢
  refine List.Pairwise.filter _ ?_
  refine List.pairwise_iff_getElem.2 fun i j hi hj hij => ?_
  simp only [List.length_zip] at hi hj
  rw [List.getElem_zip, List.getElem_zip]
  exact List.pairwise_iff_getElem.1 h i j (by omega) (by omega) hij
theorem zip_snoc {α β : Type} {xs : List α} {ys : List β} {k : Nat} {x : α} {y : β} (hx : xs[k]? = some x) (hy : ys[k]? = some y) : (xs.zip ys).take (k + 1) = (xs.zip ys).take k ++ [(x, y)] :=
  take_snoc (List.getElem?_zip_eq_some.2 ⟨hx, hy⟩)
/-- What the first k roles give. -/
def pickK (rs : List RoleZ) (out : List Bool) (k : Nat) : List ByteArray := (((rs.zip out).take k).filter (fun p => p.2)).map (fun p => p.1.name)
theorem pickK_snoc {rs : List RoleZ} {out : List Bool} {k : Nat} {r : RoleZ} {b : Bool} (hr : rs[k]? = some r) (hb : out[k]? = some b) : pickK rs out (k + 1) = pickK rs out k ++ (if b = true then [r.name] else []) := by
  unfold pickK
  rw [zip_snoc hr hb, List.filter_append, List.map_append]
  cases b <;> rfl
theorem pickK_all {rs : List RoleZ} {out : List Bool} {k : Nat} (h : rs.length ≤ k) : pickK rs out k = pickR rs out := by
  unfold pickK pickR
  rw [List.take_of_length_le (by rw [List.length_zip]; omega)]
theorem pickK_len (rs : List RoleZ) (out : List Bool) (k : Nat) : (pickK rs out k).length ≤ k := by
  unfold pickK
  rw [List.length_map]
  exact Nat.le_trans (List.length_filter_le _ _) (by rw [List.length_take]; omega)
/-- The names of all under one. -/
def underZ (rs : List RoleZ) (nm : ByteArray) : List ByteArray := pickR rs (underB rs (findN rs nm))
theorem underZ_mem {rs : List RoleZ} (hs : SortB (namesR rs)) {nm x : ByteArray} : x ∈ underZ rs nm ↔ hasR rs x = true ∧ Rc rs (findN rs nm) (findN rs x) := by
  unfold underZ
  rw [pick_mem]
  constructor
  · rintro ⟨j, r, hr, ho, rfl⟩
    rw [find_at hs hr]
    exact ⟨has_of_mem (List.mem_of_getElem? hr), under_iff.1 ho⟩
  · rintro ⟨hx, hr⟩
    obtain ⟨r, hr', hn⟩ := find_name hx
    exact ⟨_, r, hr', under_iff.2 hr, hn⟩

/-! ### going from name to name -/
/-- What the walk over a growing list has when so many of it are done: each name once, each lies under; all that lies under those that are done is there. -/
def QueI (rs : List RoleZ) (nm : ByteArray) (all done : List ByteArray) : Prop :=
  all.Nodup ∧ (∀ x ∈ all, hasR rs x = true ∧ Rc rs (findN rs nm) (findN rs x)) ∧ ∀ q ∈ done, ∀ r, rs[findN rs q]? = some r → ∀ u ∈ r.under, u ∈ all
theorem que_start (rs : List RoleZ) (nm : ByteArray) : QueI rs nm [] [] := ⟨by simp, by simp, by simp⟩
theorem que_len {rs : List RoleZ} {nm : ByteArray} {all done : List ByteArray} (h : QueI rs nm all done) : all.length ≤ rs.length := by
  have := nodup_len h.1 (ys := namesR rs) (fun x hx => has_mem.1 (h.2.1 x hx).1)
  simpa [namesR] using this
theorem que_push {rs : List RoleZ} {nm : ByteArray} {all done : List ByteArray} (h : QueI rs nm all done) {q u : ByteArray} {r : RoleZ} (hq : q = nm ∨ q ∈ all) (hr : rs[findN rs q]? = some r) (hu : u ∈ r.under) (hh : hasR rs u = true) (hn : u ∉ all) : QueI rs nm (all ++ [u]) done := by
  refine ⟨?_, ?_, ?_⟩
  · rw [List.nodup_append]
    refine ⟨h.1, by simp, ?_⟩
    intro a ha b hb
    simp only [List.mem_singleton] at hb
    subst hb
    rintro rfl
    exact hn ha
  · intro x hx
    rcases List.mem_append.1 hx with hx | hx
    · exact h.2.1 x hx
    · simp only [List.mem_singleton] at hx
      subst hx
      refine ⟨hh, ?_⟩
      have he : Ed rs (findN rs q) (findN rs x) := ⟨r, x, hr, hu, rfl, hasR_iff.1 hh⟩
      rcases hq with rfl | hq
      · exact .one he
      · exact .more (h.2.1 q hq).2 he
  · intro q' hq' r' hr' u' hu'
    exact List.mem_append_left _ (h.2.2 q' hq' r' hr' u' hu')
theorem que_next {rs : List RoleZ} {nm : ByteArray} {all done : List ByteArray} (h : QueI rs nm all done) {q : ByteArray} {r : RoleZ} (hr : rs[findN rs q]? = some r) (hu : ∀ u ∈ r.under, u ∈ all) : QueI rs nm all (done ++ [q]) := by
  refine ⟨h.1, h.2.1, fun q' hq' r' hr' => ?_⟩
  rcases List.mem_append.1 hq' with hq' | hq'
  · exact h.2.2 q' hq' r' hr'
  · simp only [List.mem_singleton] at hq'
    subst hq'
    rw [hr] at hr'
    injection hr' with hr'
    subst hr'
    exact hu
/-- At the end of the walk all that lie under are there. -/
theorem que_end {rs : List RoleZ} (hs : SortB (namesR rs)) {nm : ByteArray} {all : List ByteArray} (h : QueI rs nm all (nm :: all)) (x : ByteArray) : x ∈ all ↔ x ∈ underZ rs nm := by
  rw [underZ_mem hs]
  refine ⟨fun hx => h.2.1 x hx, ?_⟩
  rintro ⟨hx, hr⟩
  have key : ∀ i j, Rc rs i j → i = findN rs nm → ∀ y, hasR rs y = true → findN rs y = j → y ∈ all := by
    intro i j hij
    induction hij with
    | one e =>
      rintro rfl y hy hf
      obtain ⟨r, u, hr, hu, hfu, hlt⟩ := e
      have hmem := h.2.2 nm (by simp) r hr u hu
      have huh : hasR rs u = true := by rw [hasR_iff, hfu]; exact hlt
      obtain ⟨ry, hry, hny⟩ := find_name hy
      obtain ⟨ru, hru, hnu⟩ := find_name huh
      rw [hf] at hry
      rw [hfu] at hru
      rw [hry] at hru
      injection hru with hru
      subst hru
      rw [← hny, hnu]
      exact hmem
    | more hij e ih =>
      rintro rfl y hy hf
      obtain ⟨r, u, hr, hu, hfu, hlt⟩ := e
      have hq := ih rfl r.name (has_of_mem (List.mem_of_getElem? hr)) (find_at hs hr)
      have hmem := h.2.2 r.name (by simp [hq]) r (by rw [find_at hs hr]; exact hr) u hu
      have huh : hasR rs u = true := by rw [hasR_iff, hfu]; exact hlt
      obtain ⟨ry, hry, hny⟩ := find_name hy
      obtain ⟨ru, hru, hnu⟩ := find_name huh
      rw [hf] at hry
      rw [hfu] at hru
      rw [hry] at hru
      injection hru with hru
      subst hru
      rw [← hny, hnu]
      exact hmem
  exact key _ _ hr rfl x hx rfl

/-! ### valid roles -/
def namesB (xs : List ByteArray) : Bool := xs.all nameB && (List.range xs.length).all (upB xs)
theorem namesB_iff {xs : List ByteArray} : namesB xs = true ↔ (∀ x ∈ xs, nameB x = true) ∧ SortB xs := by
  unfold namesB
  rw [Bool.and_eq_true, List.all_eq_true, List.all_eq_true]
  refine and_congr_right fun _ => ⟨fun h => ?_, fun h k hk => sortB_up h (List.mem_range.1 hk)⟩
  have key : ∀ k, k ≤ xs.length → SortB (xs.take k) := by
    intro k
    induction k with
    | zero => intro _; simp [SortB]
    | succ k ih =>
      intro hk
      exact sortB_take (List.getElem?_eq_getElem (by omega)) (ih (by omega)) (h k (List.mem_range.2 (by omega)))
  have := key xs.length (Nat.le_refl _)
  rwa [List.take_of_length_le (Nat.le_refl _)] at this
/-- All but that no role lies under itself. -/
def RolesOk (rs : List RoleZ) : Prop := rs.length ≤ 12 ∧ namesB (namesR rs) = true ∧ ∀ r ∈ rs, namesB r.under = true ∧ ∀ u ∈ r.under, hasR rs u = true
def noLoop (rs : List RoleZ) (k : Nat) : Bool := !((underB rs k).getD k false)
def rolesB (rs : List RoleZ) : Bool := decide (rs.length ≤ 12) && namesB (namesR rs) && (rs.all fun r => namesB r.under && r.under.all (hasR rs)) && (List.range rs.length).all (noLoop rs)
theorem rolesB_iff {rs : List RoleZ} : rolesB rs = true ↔ RolesOk rs ∧ ∀ k, k < rs.length → noLoop rs k = true := by
  unfold rolesB RolesOk
  simp only [Bool.and_eq_true, decide_eq_true_eq, List.all_eq_true, List.mem_range, and_assoc]
theorem RolesOk.sort {rs : List RoleZ} (h : RolesOk rs) : SortB (namesR rs) := (namesB_iff.1 h.2.1).2
theorem roles_ok {rs : List RoleZ} (h : rolesB rs = true) : RolesOk rs := (rolesB_iff.1 h).1
theorem roles_sort {rs : List RoleZ} (h : rolesB rs = true) : SortB (namesR rs) := (roles_ok h).sort
theorem roles_len {rs : List RoleZ} (h : rolesB rs = true) : rs.length ≤ 12 := (roles_ok h).1
theorem roles_under {rs : List RoleZ} (h : RolesOk rs) {r : RoleZ} (hr : r ∈ rs) {u : ByteArray} (hu : u ∈ r.under) : hasR rs u = true := (h.2.2 r hr).2 u hu
/-- The program's own test of a loop. -/
theorem noLoop_name {rs : List RoleZ} (h : RolesOk rs) {k : Nat} {r : RoleZ} (hr : rs[k]? = some r) : noLoop rs k = !inB (underZ rs r.name) r.name := by
  unfold noLoop
  congr 1
  rw [Bool.eq_iff_iff, inB_iff, underZ_mem h.sort, find_at h.sort hr]
  have hk := (List.getElem?_eq_some_iff.1 hr).1
  have hu : k < (underB rs k).length := by rw [under_len]; exact hk
  constructor
  · intro hb
    refine ⟨has_of_mem (List.mem_of_getElem? hr), under_iff.1 ?_⟩
    rw [List.getD, List.getElem?_eq_getElem hu] at hb
    rw [List.getElem?_eq_getElem hu]
    exact congrArg some hb
  · rintro ⟨_, hb⟩
    rw [List.getD, under_iff.2 hb]
    rfl

end Go.Proofs.Ytidhbpnibgegdaa
