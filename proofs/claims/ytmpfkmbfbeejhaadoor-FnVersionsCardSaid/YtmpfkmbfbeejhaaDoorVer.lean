/- Versions and lists of versions: what they read as, and the laws' helpers on them. -/
import Derived.Test.YtmpfkmbfbeejhaaDoorRows
import Derived.Test.YtmpfkmbfbeejhaaDoorMg
import Derived.Deep.RegionHeld3
namespace Go.Proofs.YtmpfkmbfbeejhaaDoor
open Go.RowKit
set_option linter.unusedVariables false

/-- A version, plainly. -/
structure VerZ where
  number : Int
  parent : Int
  memo : ByteArray
  state : List SetZ
/-- A version in memory: its state is a slice. -/
structure VerC where
  number : Int
  parent : Int
  memo : ByteArray
  A : Option Addr
  n : Nat
  c : Nat
  state : List SetZ
def VerC.z (r : VerC) : VerZ := ⟨r.number, r.parent, r.memo, r.state⟩
theorem verZ_iff {a b : VerZ} : a = b ↔ a.number = b.number ∧ a.parent = b.parent ∧ a.memo = b.memo ∧ a.state = b.state := by
  cases a; cases b; simp
instance : DecidableEq VerZ := fun a b => decidable_of_iff (a.number = b.number ∧ a.parent = b.parent ∧ a.memo = b.memo ∧ a.state = b.state) verZ_iff.symm
def cV (r : VerC) : List Value := [.int .i64 r.number, .int .i64 r.parent, .string r.memo, .slice r.A r.n r.c]
/-- The version's parts are in their types' ranges, and its state reads. -/
def VerC.fine (w : World) (r : VerC) : Prop := I64 r.number ∧ I64 r.parent ∧ r.memo.size ≤ 9223372036854775807 ∧ RdS w r.A r.n r.state ∧ r.n ≤ 9223372036854775807
/-- A slice of versions that reads as rs. -/
def RdV (w : World) (A : Option Addr) (n : Nat) (rs : List VerC) : Prop := Rd w A n 4 (rs.map cV).flatten ∧ rs.length = n ∧ ∀ r ∈ rs, r.fine w
/-- What the versions are, plainly. -/
def zV (rs : List VerC) : List VerZ := rs.map VerC.z

section
variable {w w' : World} {A : Option Addr} {n : Nat} {rs : List VerC}
theorem cV_len {rs : List VerC} : ∀ x ∈ rs.map cV, x.length = 4 := by
  intro x hx
  obtain ⟨s, _, rfl⟩ := List.mem_map.1 hx
  rfl
theorem VerC.fine.below {r : VerC} {B : Nat} (h : r.fine w) (hb : Below B w w') (hB : w.heap.size ≤ B) : r.fine w' := ⟨h.1, h.2.1, h.2.2.1, h.2.2.2.1.below hb hB, h.2.2.2.2⟩
theorem RdV.below {B : Nat} (h : RdV w A n rs) (hb : Below B w w') (hB : w.heap.size ≤ B) : RdV w' A n rs := ⟨h.1.below hb hB, h.2.1, fun r hr => (h.2.2 r hr).below hb hB⟩
theorem zV_at {k : Nat} {r : VerC} (h : rs[k]? = some r) : (zV rs)[k]? = some r.z := by simp [zV, h]
theorem zV_len (rs : List VerC) : (zV rs).length = rs.length := by simp [zV]
theorem RdV.at {k : Nat} (h : RdV w A n rs) (hk : k < n) :
    ∃ b off nu pa me Aq nq cq st, A = some ⟨b, off, none⟩ ∧ b < w.heap.size ∧ Hid (rs[k]? = some ⟨nu, pa, me, Aq, nq, cq, st⟩) ∧ w.cell? ⟨b, off + k * 4, none⟩ = some (.int .i64 nu) ∧ w.cell? ⟨b, off + k * 4 + 1, none⟩ = some (.int .i64 pa) ∧ w.cell? ⟨b, off + k * 4 + 2, none⟩ = some (.string me) ∧ w.cell? ⟨b, off + k * 4 + 3, none⟩ = some (.slice Aq nq cq)
      ∧ -9223372036854775808 ≤ nu ∧ nu ≤ 9223372036854775807 ∧ -9223372036854775808 ≤ pa ∧ pa ≤ 9223372036854775807 ∧ me.size ≤ 9223372036854775807 ∧ RdS w Aq nq st ∧ nq ≤ 9223372036854775807 := by
  obtain ⟨b, off, r, e, hb, hr, hc⟩ := h.1.row cV_len hk (by rw [List.length_map, h.2.1])
  have hkl : k < rs.length := by rw [h.2.1]; exact hk
  have hx := List.getElem?_eq_getElem hkl
  rw [List.getElem?_map, hx] at hr
  simp only [Option.map_some, Option.some.injEq] at hr
  subst hr
  have hf := h.2.2 _ (List.getElem_mem hkl)
  exact ⟨b, off, _, _, _, _, _, _, _, e, hb, hx, hc 0 _ rfl, hc 1 _ rfl, hc 2 _ rfl, hc 3 _ rfl, hf.1.1, hf.1.2, hf.2.1.1, hf.2.1.2, hf.2.2.1, hf.2.2.2.1, hf.2.2.2.2⟩
end

/-- What is known of a version whose size was counted. -/
def small (l : Int) (me : ByteArray) (nq : Nat) : Prop := (me.size : Int) ≤ l ∧ (nq : Int) ≤ l

/-- Are two versions alike? -/
def eqVB (nu pa : Int) (me : ByteArray) (st : List SetZ) (nu' pa' : Int) (me' : ByteArray) (st' : List SetZ) : Bool := decide ((⟨nu, pa, me, st⟩ : VerZ) = ⟨nu', pa', me', st'⟩)
section
variable {nu pa nu' pa' : Int} {me me' : ByteArray} {st st' : List SetZ}
theorem eqVB_nu (h : nu ≠ nu') : eqVB nu pa me st nu' pa' me' st' = false := decide_eq_false (by rw [verZ_iff]; exact fun q => h q.1)
theorem eqVB_pa (h : pa ≠ pa') : eqVB nu pa me st nu' pa' me' st' = false := decide_eq_false (by rw [verZ_iff]; exact fun q => h q.2.1)
theorem eqVB_me (h : me ≠ me') : eqVB nu pa me st nu' pa' me' st' = false := decide_eq_false (by rw [verZ_iff]; exact fun q => h q.2.2.1)
theorem eqVB_st : eqVB nu pa me st nu pa me st' = decide (st = st') := by
  unfold eqVB
  rw [decide_eq_decide, verZ_iff]
  simp
theorem eqVB_true (h : eqVB nu pa me st nu' pa' me' st' = true) : (⟨nu, pa, me, st⟩ : VerZ) = ⟨nu', pa', me', st'⟩ := of_decide_eq_true h
theorem eqVB_false (h : eqVB nu pa me st nu' pa' me' st' = false) : (⟨nu, pa, me, st⟩ : VerZ) ≠ ⟨nu', pa', me', st'⟩ := of_decide_eq_false h
end

end Go.Proofs.YtmpfkmbfbeejhaaDoor
