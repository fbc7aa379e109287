/- Grants and rights, plainly. -/
import Derived.Test.YtidhbpnibgegdaaRolesZ
import Derived.Test.YtidhbpnibgegdaaStGrant
import Derived.Test.YtidhbpnibgegdaaAct
namespace Go.Proofs.Ytidhbpnibgegdaa
open Go.RowKit
set_option linter.unusedVariables false

/-! ### the order of grants -/
def gLess (a b : GrantZ) : Bool := if a.role = b.role then (if a.object = b.object then decide (a.action < b.action) else strLess a.object b.object) else strLess a.role b.role
theorem gLess_irrefl (a : GrantZ) : gLess a a = false := by simp [gLess]
theorem gLess_trans {a b c : GrantZ} (h : gLess a b = true) (h' : gLess b c = true) : gLess a c = true := by
  unfold gLess at *
  by_cases e1 : a.role = b.role
  · rw [if_pos e1] at h
    by_cases e2 : b.role = c.role
    · rw [if_pos e2] at h'
      rw [if_pos (e1.trans e2)]
      by_cases o1 : a.object = b.object
      · rw [if_pos o1] at h
        by_cases o2 : b.object = c.object
        · rw [if_pos o2] at h'
          rw [if_pos (o1.trans o2)]
          simp only [decide_eq_true_eq] at *
          omega
        · rw [if_neg o2] at h'
          rw [if_neg (fun e => o2 (o1.symm.trans e)), o1]
          exact h'
      · rw [if_neg o1] at h
        by_cases o2 : b.object = c.object
        · rw [if_pos o2] at h'
          rw [if_neg (fun e => o1 (e.trans o2.symm)), ← o2]
          exact h
        · rw [if_neg o2] at h'
          have := strLess_trans h h'
          rw [if_neg (less_ne this)]
          exact this
    · rw [if_neg e2] at h'
      rw [if_neg (fun e => e2 (e1.symm.trans e)), e1]
      exact h'
  · rw [if_neg e1] at h
    by_cases e2 : b.role = c.role
    · rw [if_pos e2] at h'
      rw [if_neg (fun e => e1 (e.trans e2.symm)), ← e2]
      exact h
    · rw [if_neg e2] at h'
      have := strLess_trans h h'
      rw [if_neg (less_ne this)]
      exact this
theorem gLess_total {a b : GrantZ} (h : gLess a b = false) (h' : gLess b a = false) : a = b := by
  unfold gLess at *
  rw [GrantZ_iff]
  by_cases e1 : a.role = b.role
  · rw [if_pos e1] at h
    rw [if_pos e1.symm] at h'
    by_cases o1 : a.object = b.object
    · rw [if_pos o1] at h
      rw [if_pos o1.symm] at h'
      simp only [decide_eq_false_iff_not] at *
      exact ⟨e1, o1, by omega⟩
    · rw [if_neg o1] at h
      rw [if_neg (fun e => o1 e.symm)] at h'
      exact absurd (strLess_total h h') o1
  · rw [if_neg e1] at h
    rw [if_neg (fun e => e1 e.symm)] at h'
    exact absurd (strLess_total h h') e1
theorem gLess_asymm {a b : GrantZ} (h : gLess a b = true) : gLess b a = false := by
  rcases b_cases (gLess b a) with e | e
  · exact e
  · have := gLess_trans h e
    rw [gLess_irrefl] at this
    cases this
theorem gLess_ne {a b : GrantZ} (h : gLess a b = true) : a ≠ b := by rintro rfl; rw [gLess_irrefl] at h; cases h
def SortG (gs : List GrantZ) : Prop := gs.Pairwise (fun a b => gLess a b = true)
def gZero : GrantZ := ⟨⟨#[]⟩, ⟨#[]⟩, 0⟩
def upG (gs : List GrantZ) : Nat → Bool
  | 0 => true
  | k + 1 => gLess (gs.getD k gZero) (gs.getD (k + 1) gZero)
theorem upG_at {gs : List GrantZ} {k : Nat} {a b : GrantZ} (h1 : gs[k]? = some a) (h2 : gs[k + 1]? = some b) : upG gs (k + 1) = gLess a b := by
  simp [upG, List.getD, h1, h2]
theorem sortG_take {gs : List GrantZ} {k : Nat} {x : GrantZ} (hx : gs[k]? = some x) (h : SortG (gs.take k)) (hu : upG gs k = true) : SortG (gs.take (k + 1)) := by
  rw [take_snoc hx]
  unfold SortG at *
  rw [List.pairwise_append]
  refine ⟨h, by simp, fun a ha b hb => ?_⟩
  simp only [List.mem_singleton] at hb
  subst hb
  cases k with
  | zero => simp at ha
  | succ k =>
    have hk := (List.getElem?_eq_some_iff.1 hx).1
    have hy : gs[k]? = some gs[k] := List.getElem?_eq_getElem (by omega)
    rw [upG_at hy hx] at hu
    rw [take_snoc hy] at h ha
    rw [List.pairwise_append] at h
    rcases List.mem_append.1 ha with ha | ha
    · exact gLess_trans (h.2.2 a ha _ (by simp)) hu
    · simp only [List.mem_singleton] at ha
      subst ha
      exact hu
theorem sortG_up {gs : List GrantZ} (h : SortG gs) {k : Nat} (hk : k < gs.length) : upG gs k = true := by
  cases k with
  | zero => rfl
  | succ k =>
    rw [upG_at (List.getElem?_eq_getElem (by omega)) (List.getElem?_eq_getElem hk)]
    exact List.pairwise_iff_getElem.1 h k (k + 1) (by omega) hk (by omega)

/-! ### valid grants -/
def grantB (rs : List RoleZ) (x : GrantZ) : Bool := hasR rs x.role && nameB x.object && isActB x.action
def stepG (rs : List RoleZ) (gs : List GrantZ) (k : Nat) : Bool := grantB rs (gs.getD k gZero) && upG gs k
def grantsB (rs : List RoleZ) (gs : List GrantZ) : Bool := rolesB rs && decide (gs.length ≤ 48) && (List.range gs.length).all (stepG rs gs)
theorem stepG_at {rs : List RoleZ} {gs : List GrantZ} {k : Nat} {x : GrantZ} (hx : gs[k]? = some x) : stepG rs gs k = (grantB rs x && upG gs k) := by
  unfold stepG
  rw [List.getD, hx]
  rfl
theorem grants_roles {rs : List RoleZ} {gs : List GrantZ} (h : grantsB rs gs = true) : rolesB rs = true := by
  unfold grantsB at h
  simp only [Bool.and_eq_true] at h
  exact h.1.1
theorem grants_len {rs : List RoleZ} {gs : List GrantZ} (h : grantsB rs gs = true) : gs.length ≤ 48 := by
  unfold grantsB at h
  simp only [Bool.and_eq_true, decide_eq_true_eq] at h
  exact h.1.2
theorem grants_step {rs : List RoleZ} {gs : List GrantZ} (h : grantsB rs gs = true) {k : Nat} (hk : k < gs.length) : stepG rs gs k = true := by
  unfold grantsB at h
  simp only [Bool.and_eq_true, List.all_eq_true, List.mem_range] at h
  exact h.2 k hk
theorem grants_sort {rs : List RoleZ} {gs : List GrantZ} (h : grantsB rs gs = true) : SortG gs := by
  have key : ∀ k, k ≤ gs.length → SortG (gs.take k) := by
    intro k
    induction k with
    | zero => intro _; simp [SortG]
    | succ k ih =>
      intro hk
      have hx : gs[k]? = some gs[k] := List.getElem?_eq_getElem (by omega)
      have := grants_step h (k := k) (by omega)
      rw [stepG_at hx, Bool.and_eq_true] at this
      exact sortG_take hx (ih (by omega)) this.2
  have := key gs.length (Nat.le_refl _)
  rwa [List.take_of_length_le (Nat.le_refl _)] at this
theorem grants_one {rs : List RoleZ} {gs : List GrantZ} (h : grantsB rs gs = true) {x : GrantZ} (hx : x ∈ gs) : grantB rs x = true := by
  obtain ⟨k, hk, rfl⟩ := List.mem_iff_getElem.1 hx
  have := grants_step h hk
  rw [stepG_at (List.getElem?_eq_getElem hk), Bool.and_eq_true] at this
  exact this.1
theorem grants_has {rs : List RoleZ} {gs : List GrantZ} (h : grantsB rs gs = true) {x : GrantZ} (hx : x ∈ gs) : hasR rs x.role = true := by
  have := grants_one h hx
  unfold grantB at this
  simp only [Bool.and_eq_true] at this
  exact this.1.1

/-! ### rights -/
/-- Has the role at t the right, by this grant? -/
def byG (rs : List RoleZ) (t : Nat) (o : ByteArray) (a : Int) (x : GrantZ) : Bool :=
  (decide (findN rs x.role = t) || (underB rs t).getD (findN rs x.role) false) && decide (x.object = o) && decide (a ≤ x.action)
def mayB (rs : List RoleZ) (gs : List GrantZ) (t : Nat) (o : ByteArray) (a : Int) : Bool := gs.any (byG rs t o a)
def hasG (rs : List RoleZ) (gs : List GrantZ) (nm o : ByteArray) (a : Int) : Bool := isActB a && mayB rs gs (findN rs nm) o a
theorem under_getD {rs : List RoleZ} {t j : Nat} : (underB rs t).getD j false = true ↔ Rc rs t j := by
  rw [← under_iff, List.getD]
  cases h : (underB rs t)[j]? with
  | none => simp
  | some b => cases b <;> simp
/-- The program's own test: the role is one of those below. -/
theorem below_iff {rs : List RoleZ} (hs : SortB (namesR rs)) {nm x : ByteArray} (hn : hasR rs nm = true) (hx : hasR rs x = true) :
    inB (underZ rs nm ++ [nm]) x = (decide (findN rs x = findN rs nm) || (underB rs (findN rs nm)).getD (findN rs x) false) := by
  rw [Bool.eq_iff_iff, inB_iff, Bool.or_eq_true, decide_eq_true_iff, under_getD, List.mem_append, underZ_mem hs, List.mem_singleton]
  constructor
  · rintro (⟨_, h⟩ | rfl)
    · exact .inr h
    · exact .inl rfl
  · rintro (h | h)
    · right
      obtain ⟨r, hr, rfl⟩ := find_name hx
      obtain ⟨r', hr', rfl⟩ := find_name hn
      rw [h, hr'] at hr
      injection hr with hr
      rw [hr]
    · exact .inl ⟨hx, h⟩

/-! ### the objects, in order -/
/-- A name at its place, once. -/
def putZ (nm : ByteArray) : List ByteArray → List ByteArray
  | [] => [nm]
  | x :: xs => if strLess x nm = true then x :: putZ nm xs else if x = nm then x :: xs else nm :: x :: xs
theorem mem_putZ {nm x : ByteArray} : ∀ {xs : List ByteArray}, x ∈ putZ nm xs ↔ x = nm ∨ x ∈ xs
  | [] => by simp [putZ]
  | y :: xs => by
    unfold putZ
    split
    · rw [List.mem_cons, mem_putZ, List.mem_cons]
      constructor
      · rintro (h | h | h)
        · exact .inr (.inl h)
        · exact .inl h
        · exact .inr (.inr h)
      · rintro (h | h | h)
        · exact .inr (.inl h)
        · exact .inl h
        · exact .inr (.inr h)
    · split
      · rename_i h
        subst h
        rw [List.mem_cons]
        constructor
        · exact .inr
        · rintro (h | h)
          · exact .inl h
          · exact h
      · rw [List.mem_cons]
theorem sort_putZ {nm : ByteArray} : ∀ {xs : List ByteArray}, SortB xs → SortB (putZ nm xs)
  | [], _ => by simp [putZ, SortB]
  | y :: xs, h => by
    have h' := h
    unfold SortB at h'
    rw [List.pairwise_cons] at h'
    unfold putZ
    split
    · rename_i hy
      unfold SortB
      rw [List.pairwise_cons]
      refine ⟨fun z hz => ?_, sort_putZ h'.2⟩
      rcases mem_putZ.1 hz with rfl | hz
      · exact hy
      · exact h'.1 z hz
    · split
      · exact h
      · rename_i h1 h2
        have hl : strLess nm y = true := not_less (by simpa using h1) h2
        unfold SortB
        rw [List.pairwise_cons]
        refine ⟨fun z hz => ?_, h⟩
        rcases List.mem_cons.1 hz with rfl | hz
        · exact hl
        · exact strLess_trans hl (h'.1 z hz)
theorem putZ_len (nm : ByteArray) : ∀ (xs : List ByteArray), (putZ nm xs).length ≤ xs.length + 1
  | [] => by simp [putZ]
  | x :: xs => by
    have := putZ_len nm xs
    unfold putZ
    split
    · simp only [List.length_cons]; omega
    · split <;> simp
/-- Where the name is, or would stand: all before it are less. -/
theorem putZ_at {nm : ByteArray} {pre post : List ByteArray} (h : ∀ x ∈ pre, strLess x nm = true) : putZ nm (pre ++ post) = pre ++ putZ nm post := by
  induction pre with
  | nil => rfl
  | cons x pre ih =>
    rw [List.cons_append, List.cons_append]
    conv => lhs; unfold putZ
    rw [if_pos (h x (by simp)), ih (fun y hy => h y (by simp [hy]))]
theorem putZ_same {nm : ByteArray} {post : List ByteArray} : putZ nm (nm :: post) = nm :: post := by
  unfold putZ
  rw [if_neg (by rw [strLess_irrefl]; simp), if_pos rfl]
theorem putZ_more {nm y : ByteArray} {post : List ByteArray} (h : strLess y nm = false) (hne : y ≠ nm) : putZ nm (y :: post) = nm :: y :: post := by
  conv => lhs; unfold putZ
  rw [if_neg (by rw [h]; simp), if_neg hne]
def objZ (gs : List GrantZ) : List ByteArray := gs.foldl (fun l x => putZ x.object l) []
theorem objZ_snoc {gs : List GrantZ} {k : Nat} {x : GrantZ} (h : gs[k]? = some x) : objZ (gs.take (k + 1)) = putZ x.object (objZ (gs.take k)) := by
  unfold objZ
  rw [take_snoc h, List.foldl_append]
  rfl
theorem objZ_all {gs : List GrantZ} : SortB (objZ gs) ∧ (∀ o, o ∈ objZ gs ↔ ∃ x ∈ gs, x.object = o) ∧ (objZ gs).length ≤ gs.length := by
  unfold objZ
  have key : ∀ (gs : List GrantZ) (l : List ByteArray), SortB l → SortB (gs.foldl (fun l x => putZ x.object l) l) ∧ (∀ o, o ∈ gs.foldl (fun l x => putZ x.object l) l ↔ o ∈ l ∨ ∃ x ∈ gs, x.object = o) ∧ (gs.foldl (fun l x => putZ x.object l) l).length ≤ l.length + gs.length := by
    intro gs
    induction gs with
    | nil => intro l hl; exact ⟨hl, by simp, by simp⟩
    | cons g gs ih =>
      intro l hl
      obtain ⟨h1, h2, h3⟩ := ih (putZ g.object l) (sort_putZ hl)
      refine ⟨h1, fun o => ?_, ?_⟩
      · rw [List.foldl_cons, h2, mem_putZ]
        constructor
        · rintro ((h | h) | ⟨x, hx, h⟩)
          · exact .inr ⟨g, by simp, h.symm⟩
          · exact .inl h
          · exact .inr ⟨x, by simp [hx], h⟩
        · rintro (h | ⟨x, hx, h⟩)
          · exact .inl (.inr h)
          · rcases List.mem_cons.1 hx with rfl | hx
            · exact .inl (.inl h.symm)
            · exact .inr ⟨x, hx, h⟩
      · rw [List.foldl_cons]
        have := putZ_len g.object l
        simp only [List.length_cons]
        omega
  obtain ⟨h1, h2, h3⟩ := key gs [] (by simp [SortB])
  exact ⟨h1, fun o => by rw [h2]; simp, by simpa using h3⟩

/-- The rights of a role over one object, for the actions below a. -/
def actsZ (p : Int → Bool) (nm o : ByteArray) (k : Nat) : List GrantZ := ((List.range k).filter (fun i : Nat => p ((i : Int) + 1))).map (fun i : Nat => (⟨nm, o, (i : Int) + 1⟩ : GrantZ))
theorem actsZ_snoc (p : Int → Bool) (nm o : ByteArray) (k : Nat) : actsZ p nm o (k + 1) = actsZ p nm o k ++ (if p ((k : Int) + 1) = true then [⟨nm, o, (k : Int) + 1⟩] else []) := by
  unfold actsZ
  rw [List.range_succ, List.filter_append, List.map_append]
  cases h : p ((k : Int) + 1) <;> simp [h]
theorem actsZ_len (p : Int → Bool) (nm o : ByteArray) (k : Nat) : (actsZ p nm o k).length ≤ k := by
  unfold actsZ
  rw [List.length_map]
  exact Nat.le_trans (List.length_filter_le _ _) (by simp)
def rightsZ (rs : List RoleZ) (gs : List GrantZ) (nm : ByteArray) : List GrantZ := (objZ gs).flatMap fun o => actsZ (mayB rs gs (findN rs nm) o) nm o 3
theorem flatMap_snoc {α β : Type} {f : α → List β} {xs : List α} {k : Nat} {x : α} (h : xs[k]? = some x) : (xs.take (k + 1)).flatMap f = (xs.take k).flatMap f ++ f x := by
  rw [take_snoc h]; simp
theorem rights_len (rs : List RoleZ) (gs : List GrantZ) (nm : ByteArray) (k : Nat) : (((objZ gs).take k).flatMap fun o => actsZ (mayB rs gs (findN rs nm) o) nm o 3).length ≤ 3 * k := by
  have key : ∀ l : List ByteArray, (l.flatMap fun o => actsZ (mayB rs gs (findN rs nm) o) nm o 3).length ≤ 3 * l.length := by
    intro l
    induction l with
    | nil => simp
    | cons x l ih =>
      have := actsZ_len (mayB rs gs (findN rs nm) x) nm x 3
      rw [List.flatMap_cons, List.length_append, List.length_cons]
      omega
  have := key ((objZ gs).take k)
  have h2 := List.length_take_le k (objZ gs)
  omega
/-- The names of the roles for which something holds. -/
def whoZ (rs : List RoleZ) (q : ByteArray → Bool) : List ByteArray := (namesR rs).filter q
theorem whoZ_snoc {rs : List RoleZ} {q : ByteArray → Bool} {k : Nat} {r : RoleZ} (h : rs[k]? = some r) : whoZ (rs.take (k + 1)) q = whoZ (rs.take k) q ++ (if q r.name = true then [r.name] else []) := by
  unfold whoZ namesR
  rw [take_snoc h, List.map_append, List.filter_append]
  cases hq : q r.name <;> simp [hq]
theorem whoZ_len (rs : List RoleZ) (q : ByteArray → Bool) : (whoZ rs q).length ≤ rs.length := by
  unfold whoZ namesR
  exact Nat.le_trans (List.length_filter_le _ _) (by simp)

/-! ### two lists of rights -/
theorem mem_rights {rs : List RoleZ} {gs : List GrantZ} {nm : ByteArray} {x : GrantZ} : x ∈ rightsZ rs gs nm ↔ x.role = nm ∧ (1 ≤ x.action ∧ x.action ≤ 3) ∧ mayB rs gs (findN rs nm) x.object x.action = true := by
  unfold rightsZ
  rw [List.mem_flatMap]
  constructor
  · rintro ⟨o, ho, hx⟩
    unfold actsZ at hx
    obtain ⟨i, hi, rfl⟩ := List.mem_map.1 hx
    obtain ⟨hi, hp⟩ := List.mem_filter.1 hi
    have := List.mem_range.1 hi
    exact ⟨rfl, ⟨by show (1 : Int) ≤ (i : Int) + 1; omega, by show (i : Int) + 1 ≤ 3; omega⟩, hp⟩
  · rintro ⟨rfl, ⟨h1, h2⟩, hm⟩
    refine ⟨x.object, ?_, ?_⟩
    · rw [objZ_all.2.1]
      unfold mayB at hm
      obtain ⟨g, hg, hb⟩ := List.any_eq_true.1 hm
      unfold byG at hb
      simp only [Bool.and_eq_true, decide_eq_true_eq] at hb
      exact ⟨g, hg, hb.1.2⟩
    · unfold actsZ
      refine List.mem_map.2 ⟨(x.action - 1).toNat, List.mem_filter.2 ⟨List.mem_range.2 (by omega), ?_⟩, ?_⟩
      · rw [show (((x.action - 1).toNat : Nat) : Int) + 1 = x.action by omega]
        exact hm
      · rw [show (((x.action - 1).toNat : Nat) : Int) + 1 = x.action by omega]
theorem rights_sort (rs : List RoleZ) (gs : List GrantZ) (nm : ByteArray) : SortG (rightsZ rs gs nm) := by
  unfold rightsZ
  have key : ∀ l : List ByteArray, SortB l → SortG (l.flatMap fun o => actsZ (mayB rs gs (findN rs nm) o) nm o 3) := by
    intro l
    induction l with
    | nil => intro _; simp [SortG]
    | cons o l ih =>
      intro hl
      unfold SortB at hl
      rw [List.pairwise_cons] at hl
      unfold SortG
      rw [List.flatMap_cons, List.pairwise_append]
      refine ⟨?_, ih hl.2, ?_⟩
      · unfold actsZ
        rw [List.pairwise_map]
        refine List.Pairwise.filter _ ?_
        refine List.pairwise_lt_range.imp ?_
        intro i j hij
        simp [gLess]
        omega
      · intro a ha b hb
        obtain ⟨o', ho', hb⟩ := List.mem_flatMap.1 hb
        unfold actsZ at ha hb
        obtain ⟨i, _, rfl⟩ := List.mem_map.1 ha
        obtain ⟨j, _, rfl⟩ := List.mem_map.1 hb
        have h1 := hl.1 o' ho'
        simp [gLess, less_ne h1, h1]
  exact key _ objZ_all.1
theorem sortG_ext : ∀ {xs ys : List GrantZ}, SortG xs → SortG ys → (∀ x, x ∈ xs ↔ x ∈ ys) → xs = ys
  | [], [], _, _, _ => rfl
  | [], y :: ys, _, _, h => by have := (h y).2 (by simp); simp at this
  | x :: xs, [], _, _, h => by have := (h x).1 (by simp); simp at this
  | x :: xs, y :: ys, h1, h2, h => by
    unfold SortG at h1 h2
    rw [List.pairwise_cons] at h1 h2
    have hxy : x = y := by
      rcases List.mem_cons.1 ((h x).1 (by simp)) with e | e
      · exact e
      · rcases List.mem_cons.1 ((h y).2 (by simp)) with e' | e'
        · exact e'.symm
        · have := gLess_trans (h1.1 y e') (h2.1 x e)
          rw [gLess_irrefl] at this
          cases this
    subst hxy
    rw [sortG_ext h1.2 h2.2 (fun z => ?_)]
    constructor
    · intro hz
      rcases List.mem_cons.1 ((h z).1 (by simp [hz])) with rfl | e
      · have := h1.1 z hz
        rw [gLess_irrefl] at this
        cases this
      · exact e
    · intro hz
      rcases List.mem_cons.1 ((h z).2 (by simp [hz])) with rfl | e
      · have := h2.1 z hz
        rw [gLess_irrefl] at this
        cases this
      · exact e
theorem byG_up {rs : List RoleZ} {t u : Nat} {o : ByteArray} {a : Int} {x : GrantZ} (h : byG rs u o a x = true) (hu : u = t ∨ Rc rs t u) : byG rs t o a x = true := by
  unfold byG at *
  simp only [Bool.and_eq_true, Bool.or_eq_true, decide_eq_true_eq, under_getD] at *
  refine ⟨⟨?_, h.1.2⟩, h.2⟩
  rcases hu with rfl | hu
  · exact h.1.1
  · rcases h.1.1 with e | e
    · rw [e]; exact .inr hu
    · exact .inr (hu.trans e)
/-- A grant is needless if its own role has its right without it: then so has each role each right. -/
theorem needless_iff {rs : List RoleZ} {gs less : List GrantZ} {g : GrantZ} (hok : rolesB rs = true) (hg : g ∈ gs) (hsub : ∀ x ∈ less, x ∈ gs) (hall : ∀ x ∈ gs, x = g ∨ x ∈ less) (hgb : grantB rs g = true) :
    mayB rs less (findN rs g.role) g.object g.action = true ↔ ∀ r ∈ rs, rightsZ rs gs r.name = rightsZ rs less r.name := by
  constructor
  · intro hm r hr
    refine sortG_ext (rights_sort _ _ _) (rights_sort _ _ _) fun x => ?_
    rw [mem_rights, mem_rights]
    refine and_congr_right fun hx => and_congr_right fun hx2 => ?_
    unfold mayB
    rw [List.any_eq_true, List.any_eq_true]
    constructor
    · rintro ⟨y, hy, hb⟩
      rcases hall y hy with rfl | hy
      · unfold mayB at hm
        obtain ⟨z, hz, hzb⟩ := List.any_eq_true.1 hm
        refine ⟨z, hz, ?_⟩
        have hb' := hb
        unfold byG at hb'
        simp only [Bool.and_eq_true, Bool.or_eq_true, decide_eq_true_eq, under_getD] at hb'
        have h1 := byG_up (t := findN rs r.name) hzb hb'.1.1
        unfold byG at h1 ⊢
        simp only [Bool.and_eq_true, Bool.or_eq_true, decide_eq_true_eq, under_getD] at h1 ⊢
        exact ⟨⟨h1.1.1, h1.1.2.trans hb'.1.2⟩, Int.le_trans hb'.2 h1.2⟩
      · exact ⟨y, hy, hb⟩
    · rintro ⟨y, hy, hb⟩
      exact ⟨y, hsub y hy, hb⟩
  · intro h
    unfold grantB at hgb
    simp only [Bool.and_eq_true, isActB_iff] at hgb
    obtain ⟨r, hr, hn⟩ := find_name hgb.1.1
    have h1 := h r (List.mem_of_getElem? hr)
    have hx : g ∈ rightsZ rs gs r.name := by
      rw [mem_rights]
      refine ⟨hn.symm, hgb.2, ?_⟩
      unfold mayB
      refine List.any_eq_true.2 ⟨g, hg, ?_⟩
      unfold byG
      simp [hn]
    rw [h1, mem_rights] at hx
    rw [← hn]
    exact hx.2.2

end Go.Proofs.Ytidhbpnibgegdaa
