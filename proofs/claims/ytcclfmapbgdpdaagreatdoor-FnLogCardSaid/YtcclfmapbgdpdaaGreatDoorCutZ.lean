/- Plain: the part of a text ahead of its first blank, as the library cuts it. -/
import Derived.Test.YtcclfmapbgdpdaaGreatDoorWordZ
import Derived.Lib.IndexMore
namespace Go.Proofs.YtcclfmapbgdpdaaGreatDoor
open Go.RowKit
set_option linter.unusedVariables false

theorem cut_take (c : UInt8) : ∀ l : List UInt8, (Lib.cut l [c]).1 = l.takeWhile (fun b => b != c)
  | [] => by simp [Lib.cut, Lib.index]
  | b :: l => by
    have ih := cut_take c l
    unfold Lib.cut at ih ⊢
    rw [Lib.index]
    by_cases h : b = c
    · subst h
      have hp : ([b] : List UInt8).isPrefixOf (b :: l) = true := by simp [List.isPrefixOf]
      rw [hp]
      simp
    · have hp : ([c] : List UInt8).isPrefixOf (b :: l) = false := by simp [List.isPrefixOf, Ne.symm h]
      have hb : (b != c) = true := by simpa using h
      have hge := Lib.index_ge l [c]
      rw [hp, List.takeWhile_cons, if_pos hb, ← ih]
      by_cases hm : Lib.index l [c] = -1
      · rw [hm]; simp
      · obtain ⟨j, hj⟩ : ∃ j : Nat, Lib.index l [c] = j := ⟨(Lib.index l [c]).toNat, by omega⟩
        rw [hj]
        have e1 : (((j : Nat) : Int) == -1) = false := by first | (simp; done) | (simp; omega)
        rw [e1]
        have e2 : ((j : Int) + 1).toNat = j + 1 := by omega
        have e3 : (0 : Int) ≤ (j : Int) + 1 := by omega
        have e4 : (0 : Int) ≤ (j : Int) := by omega
        simp [e2, e3, e4]
theorem cut_head (s : ByteArray) : (⟨(Lib.cut s.data.toList [32]).1.toArray⟩ : ByteArray) = headS s := by
  refine bs_inj ?_
  rw [bs_headS]
  show (Lib.cut (bs s) [32]).1 = _
  exact cut_take 32 (bs s)

end Go.Proofs.YtcclfmapbgdpdaaGreatDoor
