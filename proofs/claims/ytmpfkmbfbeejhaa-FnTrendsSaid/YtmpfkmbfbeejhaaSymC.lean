/- symMerge of the stable sort, over int64: the whole, by induction on the rows' lengths. -/
import Derived.Test.YtmpfkmbfbeejhaaSymGa
import Derived.Test.YtmpfkmbfbeejhaaSymGb
namespace Go.Proofs.Ytmpfkmbfbeejhaa
open Go.Shelf Go.RowKit Go.Lib Go.Sort
set_option linter.unusedVariables false
variable {α : Type} [Inhabited α]

theorem one_of {α : Type} {L : List α} (h0 : L ≠ []) (h : ¬ 2 ≤ L.length) : ∃ x, L = [x] := by
  match L, h0 with
  | [x], _ => exact ⟨x, rfl⟩
  | x :: y :: r, _ => simp at h
/-- Two rows beside each other, each in order, become one. -/
theorem symMerge_calls (enc : α → Value) (cf : α → α → Int) (g : Nat) (cb : Array Value) (blk off cap : Nat) (d0 : Array α) (w0 : World) (T E : α → α → Prop) (H : Told enc cf g cb blk off d0 w0 T E) :
    ∀ N, Sub enc g cb blk off cap w0 T E d0.size N := by
  intro N
  induction N with
  | zero => intro d w P L R S a m b h; omega
  | succ N ih =>
    intro d w P L R S a m b hlen hs hS hd hL hR pL pR hE ha hm hb
    rw [← hs] at ih ⊢
    by_cases l2 : 2 ≤ L.length
    · by_cases r2 : 2 ≤ R.length
      · have hsub : Sub enc g cb blk off cap w0 T E d.size (L.length + R.length) := fun d' w' P' L' R' S' a' m' b' hlt => ih d' w' P' L' R' S' a' m' b' (by omega)
        by_cases hlh : (L.length + R.length) / 2 < L.length
        · exact symMerge_more_a enc cf g cb blk off cap d0 d w0 w T E H P L R S hsub hs.symm hS hd l2 r2 pL pR hE hlh a m b ha hm hb
        · exact symMerge_more_b enc cf g cb blk off cap d0 d w0 w T E H P L R S hsub hs.symm hS hd l2 r2 pL pR hE hlh a m b ha hm hb
      · obtain ⟨x, rfl⟩ := one_of hR r2
        exact symMerge_two enc cf g cb blk off cap d0 d w0 w T E H P L S x hs.symm hS hd l2 pL (fun y hy => hE y hy x (by simp)) a m b ha hm hb
    · obtain ⟨x, rfl⟩ := one_of hL l2
      exact symMerge_one enc cf g cb blk off cap d0 d w0 w T E H P R S x hs.symm hS hd hR pR (fun y hy => hE x (by simp) y hy) a m b ha hm hb

end Go.Proofs.Ytmpfkmbfbeejhaa
