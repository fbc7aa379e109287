/- l27Add of the reference: a list of versions with one more. -/
import Derived.Test.YtlomloepdnojoaaDoorCommitS
namespace Go.Proofs.YtlomloepdnojoaaDoor
open Go.RowKit
set_option linter.unusedVariables false

set_option maxRecDepth 100000 in
set_option maxHeartbeats 4000000 in
theorem l27Add_calls (A : Option Addr) (n c : Nat) (vs : List VerZ) (pa : Int) (me : ByteArray) (A3 : Option Addr) (n3 c3 : Nat) (st : List SetZ) (w : World) (h : RdVz w A n vs) (h3 : RdS w A3 n3 st) (hn : n ≤ 32) (hs : Short vs) (hn3 : n3 ≤ 1048576) (hpa : I64 pa) (hme : me.size ≤ 9223372036854775807) :
    Calls Tryd.prog 52 #[.slice A n c, .int .i64 pa, .string me, .slice A3 n3 c3] w (AddPost vs pa me st w) := by
  have HL := hide h.len
  by_cases h32 : n = 32
  · have HC : Hid (addC vs = 5 ∧ addR vs pa me st = []) := by unfold Hid addC addR; rw [HL.out, if_pos (by omega), if_pos (by omega)]; exact ⟨rfl, rfl⟩
    subst h32
    go_enter Tryd.func52, Tryd.ntmps52
    go_wp2
    go_ret2
    refine ⟨none, 0, 0, ret_two rfl (congrArg (Value.int .i64) HC.out.1.symm), ?_, by omega, Below.refl _ _⟩
    rw [HC.out.2]
    exact FrVz.nil
  have hne : ((n : Int) == 32) = false := by simp; omega
  have HC : Hid (addC vs = 0 ∧ addR vs pa me st = vs ++ [⟨(n : Int) + 1, pa, me, st⟩]) := by unfold Hid addC addR; rw [HL.out, if_neg (by omega), if_neg (by omega)]; exact ⟨rfl, rfl⟩
  have HG3 : ∀ (A' : Option Addr) (c' : Nat), Hid ((⟨(n : Int) + 1, pa, me, A', n3, c', st⟩ : VerC).good) := fun _ _ => ⟨⟨by simp only; omega, by simp only; omega⟩, hpa, hme, h3.2.1, h3.2.2, by simp only; omega⟩
  have HGG := hide HG3
  clear HG3
  have hlit := World.ownsRow_lit (base := w.heap.size) (e := 108) (size := 2) w #[] 0 (Nat.le_refl _) (by simp) rfl
  have hba : Below w.heap.size w (w.alloc (.cells #[] 108)) := (Below.refl _ _).alloc (Nat.le_refl _) _
  have HH := hide (And.intro hlit (h3.1.below hba (Nat.le_refl _)))
  clear hlit
  go_enter Tryd.func52, Tryd.ntmps52
  go_upto_region 4 with (at_builtin; refine appsSetting rfl _ _ rfl w.heap.size _ 0 [] rfl HH.out.1 A3 n3 c3 st rfl HH.out.2 (by omega) (by simp) ?_; intro v1 w1 hown1 hb1 hz1; rw [Nat.zero_add, List.nil_append] at hown1; obtain ⟨A', c', rfl⟩ := own_slice hown1)
  have hF1 := Fr.of_own hown1
  have hbx1 := hba.trans hb1
  obtain ⟨W2, hW2⟩ : ∃ W2, W2 = w1.alloc (.cells #[.int .i64 ((n : Int) + 1), .int .i64 pa, .string me, .slice A' n3 c'] 77) := ⟨_, rfl⟩
  rw [← hW2]
  have BB2 : Below w1.heap.size w1 W2 := hW2 ▸ (Below.refl _ _).alloc (Nat.le_refl _) _
  have z2 : W2.heap.size = w1.heap.size + 1 := by rw [hW2]; simp
  have e0 : W2.cell? ⟨w1.heap.size, 0, none⟩ = some (.int .i64 ((n : Int) + 1)) := by rw [hW2]; simp [go_sem]
  have e1 : W2.cell? ⟨w1.heap.size, 1, none⟩ = some (.int .i64 pa) := by rw [hW2]; simp [go_sem]
  have e2 : W2.cell? ⟨w1.heap.size, 2, none⟩ = some (.string me) := by rw [hW2]; simp [go_sem]
  have e3 : W2.cell? ⟨w1.heap.size, 3, none⟩ = some (.slice A' n3 c') := by rw [hW2]; simp [go_sem]
  have hbx2 := hbx1.trans (BB2.mono hbx1.size)
  have hF2 := hF1.below BB2 (Nat.le_refl _)
  have HOW : Hid (∀ W, Below W2.heap.size W2 W → Calls Tryd.prog 106 #[.slice A n c] W (OwnPost vs n W)) := fun W hW => l27Own_calls A n c vs W (h.below (hbx2.trans (hW.mono hbx2.size)) (Nat.le_refl _)) (by omega) hs
  have HX := hide (And.intro hF2 (And.intro hbx2 z2))
  have zz : w1.heap.size < W2.heap.size := by omega
  obtain ⟨i0, hi0, hz0, hz1, hz2⟩ := info_parts Tryd.infoVersion
  have HI := hide (And.intro hi0 (And.intro hz0 (And.intro hz1 hz2)))
  have HS : Hid (∀ W, Below W2.heap.size W2 W → W.cell? ⟨w1.heap.size, 0, none⟩ = some (.int .i64 ((n : Int) + 1)) ∧ W.cell? ⟨w1.heap.size, 1, none⟩ = some (.int .i64 pa) ∧ W.cell? ⟨w1.heap.size, 2, none⟩ = some (.string me) ∧ W.cell? ⟨w1.heap.size, 3, none⟩ = some (.slice A' n3 c')) :=
    fun W hW => ⟨(hW.cell (p := ⟨w1.heap.size, 0, none⟩) zz).trans e0, (hW.cell (p := ⟨w1.heap.size, 1, none⟩) zz).trans e1, (hW.cell (p := ⟨w1.heap.size, 2, none⟩) zz).trans e2, (hW.cell (p := ⟨w1.heap.size, 3, none⟩) zz).trans e3⟩
  have zw : w.heap.size ≤ w1.heap.size := hbx1.size
  clear hW2 hF1 hbx1 BB2 hown1 hF2 hbx2 z2 HH hi0 hz0 hz1 hz2 h hba hb1 e0 e1 e2 e3
  go_region_held3 (fun w' => w'.cell? ⟨w1.heap.size, 0, none⟩ = some (.int .i64 ((n : Int) + 1)) ∧ w'.cell? ⟨w1.heap.size, 1, none⟩ = some (.int .i64 pa) ∧ w'.cell? ⟨w1.heap.size, 2, none⟩ = some (.string me) ∧ w'.cell? ⟨w1.heap.size, 3, none⟩ = some (.slice A' n3 c'))
    (first
      | exact HS.out _ (Below.refl _ _)
      | exact HS.out _ (Below.refl _ _).drew
      | exact HS.out _ (((Below.refl _ _).drew).alloc (by simp) _)
      | exact HS.out _ hk4
      | exact HS.out _ hk3
      | exact HS.out _ (hk3.alloc hk3.size _))
    (first
      | (go_at_call 106; refine (HOW.out _ (by first | exact (Below.refl _ _).drew | exact ((Below.refl _ _).drew).alloc (by simp) _)).mono ?_; rintro e w3 ⟨v3, rs3, rfl, hG, hz3, hb3⟩; have hk3 : Below W2.heap.size W2 w3 := (by first | exact ((Below.refl _ W2).drew).trans hb3 | exact (((Below.refl _ W2).drew).alloc (by simp) _).trans (hb3.mono (by simp))); have HG := hide (And.intro hG (And.intro hz3 hk3)); clear hG hz3)
      | (refine step_append_lies _ (by rfl) _ _ _ (by rfl) W2.heap.size 77 i0 _ 4 56 Tryd.underlying24 HI.out.1 HI.out.2.1 HI.out.2.2.1 HI.out.2.2.2 rfl (by omega) v3 n (rs3.map cV).flatten (by rfl) (HG.out.1.1.alloc _)
          ⟨w3.heap.size, 0, none⟩ 1 1 [.int .i64 ((n : Int) + 1), .int .i64 pa, .string me, .slice A' n3 c'] (by rfl) (by rfl) (World.news_of_block (cs := #[.int .i64 ((n : Int) + 1), .int .i64 pa, .string me, .slice A' n3 c']) (t := 77) (fr := (0, 0)) (heap_alloc_new w3 _)) (by simp [Value.oneCell'])
          (by omega) (by unfold maxLen; omega) (by omega) (by have := hb3.size; simp at this ⊢; omega) (w3.heap.size + 1) (by simp) ?_; intro gg cap w4 hown4 hgrow hat hlt; have hk4 : Below W2.heap.size W2 w4 := (hk3.alloc hk3.size _).grown hgrow (by have := hk3.size; simp; omega) (fun g hg => (HG.out.1.1.lt g hg).1))
      | (refine step_append_lies _ (by rfl) _ _ _ (by rfl) (W2.heap.size + 1) 77 i0 _ 4 56 Tryd.underlying24 HI.out.1 HI.out.2.1 HI.out.2.2.1 HI.out.2.2.2 rfl (by omega) v3 n (rs3.map cV).flatten (by rfl) (by simpa using HG.out.1.1)
          ⟨W2.heap.size, 0, none⟩ 1 1 [.int .i64 ((n : Int) + 1), .int .i64 pa, .string me, .slice A' n3 c'] (by rfl) (by rfl) (World.news_of_block (cs := #[.int .i64 ((n : Int) + 1), .int .i64 pa, .string me, .slice A' n3 c']) (t := 77) (fr := (0, 0)) ((hb3.block _ (by simp)).trans (heap_alloc_new W2.drew _))) (by simp [Value.oneCell'])
          (by omega) (by unfold maxLen; omega) (by omega) (by have := hb3.size; simp at this ⊢; omega) w3.heap.size rfl ?_; intro gg cap w4 hown4 hgrow hat hlt; have hk4 : Below W2.heap.size W2 w4 := hk3.grown hgrow hk3.size (fun g hg => Nat.le_trans (by simp) (HG.out.1.1.lt g hg).1)))
  · have H4 := hide (And.intro hown4 hgrow)
    clear hown4 hgrow hat hlt hb3
    go_wp2
    go_ret2
    obtain ⟨hF2, hbx2, z2⟩ := HX.out
    obtain ⟨hG, hz, _⟩ := HG.out
    have hG := hG.push (r := ⟨(n : Int) + 1, pa, me, A', n3, c', st⟩) (lo2 := w.heap.size) ((Below.refl _ _).alloc (Nat.le_refl _) _) (hF2.below (hk3.alloc hk3.size _) (by omega)) zw (by have := hk3.size; simp; omega) (.inr (by show w1.heap.size ≤ W2.heap.size; omega)) (by show w.heap.size ≤ W2.heap.size; omega) (Nat.le_refl _) (HGG.out _ _).out H4.out.1 H4.out.2
    refine ⟨_, _, _, ret_two rfl (congrArg (Value.int .i64) HC.out.1.symm), ⟨_, hG.frV (by show w.heap.size ≤ W2.heap.size; omega), ?_⟩, by omega, hbx2.trans (hk4.mono hbx2.size)⟩
    rw [zV_snoc, hz, HC.out.2]
    rfl
  · have H4 := hide (And.intro hown4 hgrow)
    clear hown4 hgrow hat hlt hb3
    go_wp2
    go_ret2
    obtain ⟨hF2, hbx2, z2⟩ := HX.out
    obtain ⟨hG, hz, _⟩ := HG.out
    have ee : ∀ o : Obj, (W2.alloc o).drew.heap.size = W2.heap.size + 1 := fun o => by simp
    rw [ee] at hG
    have hG := hG.push (r := ⟨(n : Int) + 1, pa, me, A', n3, c', st⟩) (lo2 := w.heap.size) (Below.refl _ _) (hF2.below hk3 (by omega)) zw (by have := hk3.size; omega) (.inr (by omega)) (by omega) (Nat.le_refl _) (HGG.out _ _).out H4.out.1 H4.out.2
    refine ⟨_, _, _, ret_two rfl (congrArg (Value.int .i64) HC.out.1.symm), ⟨_, hG.frV (by omega), ?_⟩, by omega, hbx2.trans (hk4.mono hbx2.size)⟩
    rw [zV_snoc, hz, HC.out.2]
    rfl

end Go.Proofs.YtlomloepdnojoaaDoor
