/- ReadHelper and ReadTask of the program and of the reference. Printed by gen_helper.py. -/
import Derived.Test.YtcclfmapbgdpdaaGreatDoorSkill
import Derived.Test.YtcclfmapbgdpdaaGreatDoorNum
import Derived.Test.YtcclfmapbgdpdaaGreatDoorNumS
import Derived.Test.YtcclfmapbgdpdaaGreatDoorSplitS
import Derived.Test.YtcclfmapbgdpdaaGreatDoorCell3
namespace Go.Proofs.YtcclfmapbgdpdaaGreatDoor
open Go.RowKit
set_option linter.unusedVariables false

/-- The first number of skills below K whose text it is. -/
def skGo (b : ByteArray) : Nat → Option Nat
  | 0 => none
  | K + 1 => match skGo b K with
    | some j => some j
    | none => if skT K = b then some K else none
def skB (b : ByteArray) : Bool := (skGo b 8).isSome
def skV (b : ByteArray) : Int := (((skGo b 8).getD 0 : Nat) : Int)
theorem skGo_next {b : ByteArray} {K : Nat} (h : skGo b K = none) (hn : skT K ≠ b) : skGo b (K + 1) = none := by rw [skGo, h]; simp [hn]
theorem skGo_more {b : ByteArray} {K j : Nat} (h : skGo b K = some j) : ∀ m, skGo b (K + m) = some j
  | 0 => h
  | m + 1 => by rw [← Nat.add_assoc, skGo, skGo_more h m]
theorem skGo_lt {b : ByteArray} : ∀ {K j : Nat}, skGo b K = some j → j < K
  | 0, j, h => by simp [skGo] at h
  | K + 1, j, h => by
    rw [skGo] at h
    cases hq : skGo b K with
    | some i => rw [hq] at h; simp at h; subst h; have := skGo_lt hq; omega
    | none =>
      rw [hq] at h
      simp only at h
      split at h
      · simp at h; omega
      · simp at h
theorem skGo_hit {b : ByteArray} {K : Nat} (h : skGo b K = none) (hn : skT K = b) (hK : K < 8) : skB b = true ∧ skV b = K := by
  have h1 : skGo b (K + 1) = some K := by rw [skGo, h]; simp [hn]
  have h8 : skGo b 8 = some K := by have := skGo_more h1 (7 - K); rwa [show K + 1 + (7 - K) = 8 by omega] at this
  exact ⟨by unfold skB; rw [h8]; rfl, by unfold skV; rw [h8]; rfl⟩
theorem skGo_end {b : ByteArray} (h : skGo b 8 = none) : skB b = false ∧ skV b = 0 := ⟨by unfold skB; rw [h]; rfl, by unfold skV; rw [h]; rfl⟩
theorem skV_range (b : ByteArray) : 0 ≤ skV b ∧ skV b ≤ 7 := by
  unfold skV
  cases hq : skGo b 8 with
  | none => simp
  | some j => have := skGo_lt hq; simp; omega

set_option maxHeartbeats 2000000 in
theorem implReadSkills_calls (b : ByteArray) (w : World) :
    Calls Tryz.prog 50 #[.string b] w fun e w' => e = .returned (.tuple #[.int .i64 (skV b), .bool (skB b)]) ∧ Below w.heap.size w w' := by
  have HT := hide fun (K : Nat) (hK : K ≤ 7) (W : World) => skillText_calls K W hK
  go_enter Tryz.func50, Tryz.ntmps50
  go_wp2
  go_loopw [4, 5] (fun q i wr => ∃ (K : Nat), K ≤ 8 ∧ i = .int .i64 K ∧ Hid (skGo b K = none) ∧ Below w.heap.size w wr) (fun _ i _ => 8 - (intOf i).toNat)
  case atStart => exact ⟨0, by omega, rfl, rfl, Below.refl _ _⟩
  case round =>
    obtain ⟨K, hK, rfl, HG, hb⟩ := hrel
    by_cases hlt : K < 8
    · have g1 : decide ((K : Int) < 8) = true := by simp; omega
      have H1 := hide (HT.out K (by omega) wr)
      by_cases hq : skT K = b
      · have HV := hide (skGo_hit HG.out hq hlt)
        have g2 := (str_eq hq).1
        generalize skT K = t at *
        clear hq hlt HG
        go_wp2_with fail
        refine H1.out.mono ?_
        rintro e w2 ⟨rfl, hb2⟩
        go_wp2
        go_ret2
        exact ⟨ret_two (congrArg (Value.int .i64) HV.out.2.symm) (congrArg Value.bool HV.out.1.symm), hb.trans (hb2.mono hb.size)⟩
      · have HN : Hid (skGo b (K + 1) = none) := skGo_next HG.out hq
        have g2 := (str_ne hq).1
        generalize skT K = t at *
        clear hq
        go_wp2_with fail
        refine H1.out.mono ?_
        rintro e w2 ⟨rfl, hb2⟩
        go_wp2
        go_roundw
        case rel => exact ⟨K + 1, by omega, by go_num, HN, hb.trans (hb2.mono hb.size)⟩
        case measure => simp [intOf]; omega
    · obtain rfl : K = 8 := by omega
      have HV := hide (skGo_end HG.out)
      go_wp2
      go_ret2
      exact ⟨ret_two (congrArg (Value.int .i64) HV.out.2.symm) (congrArg Value.bool HV.out.1.symm), hb⟩


/-- Name, skills, minutes, and whether the text had three such parts. -/
structure ThrZ where
  id : ByteArray
  sk : Int
  n : Int
  ok : Bool
def thrZ (W : List ByteArray) : ThrZ := if W.length = 3 then ⟨W.getD 0 ⟨#[]⟩, skV (W.getD 1 ⟨#[]⟩), numV (bs (W.getD 2 ⟨#[]⟩)), skB (W.getD 1 ⟨#[]⟩) && numB (bs (W.getD 2 ⟨#[]⟩))⟩ else ⟨⟨#[]⟩, 0, 0, false⟩
theorem thr_size (s : ByteArray) : (thrZ (splitS 32 s)).id.size ≤ s.size := by
  unfold thrZ
  split
  · simp only
    cases hq : (splitS 32 s)[0]? with
    | none => rw [List.getD_eq_getElem?_getD, hq]; exact Nat.zero_le _
    | some y => rw [List.getD_eq_getElem?_getD, hq]; exact splitS_part 32 s y (List.mem_of_getElem? hq)
  · exact Nat.zero_le _
def ThrPost (X : ThrZ) (w : World) (e : Ending) (w' : World) : Prop := e = .returned (.tuple #[.string X.id, .int .i64 X.sk, .int .i64 X.n, .bool X.ok]) ∧ Below w.heap.size w w'

set_option maxRecDepth 100000 in
set_option maxHeartbeats 4000000 in
theorem readSkilled_calls (s : ByteArray) (w : World) (hT : TabPM w) (hE : TabE w) (hs : s.size ≤ 1048576) :
    Calls Tryz.prog 126 #[.string s] w (ThrPost (thrZ (splitS 32 s)) w) := by
  have HSP := hide (split_calls s w hT.2 hs)
  have HPT : Hid (∀ p ∈ splitS 32 s, p.size ≤ s.size) := splitS_part 32 s
  generalize splitS 32 s = W at *
  go_enter Tryz.func126, Tryz.ntmps126
  go_wp2_with fail
  refine HSP.out.mono ?_
  rintro e w2 ⟨A, n, c, rfl, hown, hlen, hb2⟩
  have HO := hide hown
  have HLN := hide hlen
  clear hown hlen HSP
  by_cases h3 : n = 3
  case neg =>
    have HV : Hid (thrZ W = ⟨⟨#[]⟩, 0, 0, false⟩) := by unfold Hid thrZ; rw [if_neg (by rw [HLN.out]; exact h3)]
    have g1 : ((n : Int) != 3) = true := by simp; omega
    clear h3
    go_wp2
    refine bodyPost_ret (v := .tuple #[.string ⟨#[]⟩, .int .i64 0, .int .i64 0, .bool false]) (by simp [results, Tryz.results126, go_sem, *]) rfl ?_
    exact ⟨by rw [HV.out], hb2⟩
  subst h3
  obtain ⟨g, rfl, hgb⟩ := own_addrB HO.out (by omega)
  have HRW : Hid (RdK kB w2 (some ⟨g, 0, none⟩) 3 W) := RdK.of_own (K := kB) HO.out HLN.out (fun x hx => by have := HPT.out x hx; show x.size ≤ 9223372036854775807; omega)
  obtain ⟨b0, o0, a, hA0, hgs, ha, ca, _⟩ := HRW.out.atB (show 0 < 3 by omega)
  obtain ⟨rfl, rfl⟩ : g = b0 ∧ 0 = o0 := by injection hA0 with hA; injection hA; exact ⟨‹_›, ‹_›⟩
  obtain ⟨b1, o1, b, hA1, _, hb, cb, _⟩ := HRW.out.atB (show 1 < 3 by omega)
  obtain ⟨rfl, rfl⟩ : g = b1 ∧ 0 = o1 := by injection hA1 with hA; injection hA; exact ⟨‹_›, ‹_›⟩
  obtain ⟨b2, o2, l, hA2, _, hl, cl, _⟩ := HRW.out.atB (show 2 < 3 by omega)
  obtain ⟨rfl, rfl⟩ : g = b2 ∧ 0 = o2 := by injection hA2 with hA; injection hA; exact ⟨‹_›, ‹_›⟩
  simp only [Nat.zero_add] at ca cb cl
  clear hA0 hA1 hA2
  have hl2 := HPT.out l (List.mem_of_getElem? hl.out)
  have HV : Hid (thrZ W = ⟨a, skV b, numV (bs l), skB b && numB (bs l)⟩) := by
    unfold Hid thrZ
    rw [if_pos HLN.out, getD_atB ha.out, getD_atB hb.out, getD_atB hl.out]
  have HSK := hide (fun W => implReadSkills_calls b W)
  have HNU : Hid (∀ W, Below w.heap.size w W → Calls Tryz.prog 78 #[.string l] W fun e w' => e = .returned (.tuple #[.int .i64 (numV (bs l)), .bool (numB (bs l))]) ∧ Below W.heap.size W w') := fun W hW => readDecimal_calls l W (hT.here hW).1 (hE.here hW) (by omega)
  generalize skV b = sv at *
  generalize skB b = sb at *
  generalize numV (bs l) = nv at *
  generalize numB (bs l) = nb at *
  clear HRW HO HPT HLN ha hb hl
  go_wp2_with fail
  refine (HSK.out _).mono ?_
  rintro e w3 ⟨rfl, hb3⟩
  have hB3 := hb2.trans (hb3.mono hb2.size)
  have ca3 := (hb3.cell (p := ⟨g, 0, none⟩) hgs).trans ca
  have cl3 := (hb3.cell (p := ⟨g, 2, none⟩) hgs).trans cl
  have hg3 := Nat.lt_of_lt_of_le hgs hb3.size
  clear ca cb cl
  go_wp2_with fail
  refine (HNU.out w3 hB3).mono ?_
  rintro e w4 ⟨rfl, hb4⟩
  have ca4 := (hb4.cell (p := ⟨g, 0, none⟩) hg3).trans ca3
  have hB4 := hB3.trans (hb4.mono hB3.size)
  clear ca3 cl3
  cases sb
  all_goals
    go_wp2
    (try go_quiet (fail))
    (try go_wp2)
    refine bodyPost_ret (v := .tuple #[.string a, .int .i64 sv, .int .i64 nv, .bool _]) (by simp [results, Tryz.results126, go_sem, *]; rfl) rfl ?_
    exact ⟨by rw [HV.out]; simp, by first | exact hB4 | exact below_drewN hB4 _⟩


theorem l24Skills_calls (n : Int) (w : World) : Calls Tryz.prog 190 #[.int .i64 n] w fun e w' => e = .returned (.bool (withinB n 0 7)) ∧ w = w' := by
  go_enter Tryz.func190, Tryz.ntmps190
  go_wp2_with (go_at_call 162; refine (l00In_calls _ _ _ _).mono ?_; rintro e w' ⟨rfl, rfl⟩)
  go_ret
  exact ⟨rfl, rfl⟩
theorem l24Minutes_calls (n : Int) (w : World) : Calls Tryz.prog 191 #[.int .i64 n] w fun e w' => e = .returned (.bool (withinB n 0 1000)) ∧ w = w' := by
  go_enter Tryz.func191, Tryz.ntmps191
  go_wp2_with (go_at_call 162; refine (l00In_calls _ _ _ _).mono ?_; rintro e w' ⟨rfl, rfl⟩)
  go_ret
  exact ⟨rfl, rfl⟩
theorem isShare_calls (n : Int) (w : World) : Calls Tryz.prog 184 #[.int .i64 n] w fun e w' => e = .returned (.bool (withinB n 0 1000)) ∧ w = w' := by
  go_enter Tryz.func184, Tryz.ntmps184
  go_wp2_with (go_at_call 75; refine (within_calls _ _ _ _).mono ?_; rintro e w' ⟨rfl, rfl⟩)
  go_ret
  exact ⟨rfl, rfl⟩
/-- A helper or a task: name, skills, minutes. -/
structure HlpZ where
  id : ByteArray
  sk : Int
  n : Int
def hlpB (x : HlpZ) : Bool := nameB x.id && (withinB x.sk 0 7 && withinB x.n 0 1000)
def hrC (s : ByteArray) : Bool := (thrZ (splitS 32 s)).ok && hlpB ⟨(thrZ (splitS 32 s)).id, (thrZ (splitS 32 s)).sk, (thrZ (splitS 32 s)).n⟩
def hrV (s : ByteArray) : HlpZ := if hrC s = true then ⟨(thrZ (splitS 32 s)).id, (thrZ (splitS 32 s)).sk, (thrZ (splitS 32 s)).n⟩ else ⟨⟨#[]⟩, 0, 0⟩
theorem hr_bad {s : ByteArray} (h : ((thrZ (splitS 32 s)).ok && hlpB ⟨(thrZ (splitS 32 s)).id, (thrZ (splitS 32 s)).sk, (thrZ (splitS 32 s)).n⟩) = false) : hrC s = false ∧ hrV s = ⟨⟨#[]⟩, 0, 0⟩ := by
  have e : hrC s = false := h
  exact ⟨e, by unfold hrV; rw [if_neg (by rw [e]; simp)]⟩
theorem hr_good {s : ByteArray} (h : ((thrZ (splitS 32 s)).ok && hlpB ⟨(thrZ (splitS 32 s)).id, (thrZ (splitS 32 s)).sk, (thrZ (splitS 32 s)).n⟩) = true) : hrC s = true ∧ hrV s = ⟨(thrZ (splitS 32 s)).id, (thrZ (splitS 32 s)).sk, (thrZ (splitS 32 s)).n⟩ := by
  have e : hrC s = true := h
  exact ⟨e, by unfold hrV; rw [if_pos e]⟩
/-- A reader gives a helper or a task and whether it was one. -/
def HlpBPost (V : HlpZ) (C : Bool) (w : World) (e : Ending) (w' : World) : Prop :=
  e = .returned (.tuple #[.agg #[.string V.id, .int .i64 V.sk, .int .i64 V.n], .bool C]) ∧ Below w.heap.size w w'
theorem hlp_of {V : HlpZ} {C c : Bool} {r : ByteArray} {o k : Int} {w w' : World} (h : C = c ∧ V = ⟨r, o, k⟩) (hb : Below w.heap.size w w') : HlpBPost V C w (.returned (.tuple #[.agg #[.string r, .int .i64 o, .int .i64 k], .bool c])) w' := by
  obtain ⟨rfl, rfl⟩ := h
  exact ⟨rfl, hb⟩

set_option maxHeartbeats 1000000 in
theorem validHelper_calls (r : ByteArray) (o k : Int) (w : World) (hr : r.size ≤ 1048576) :
    Calls Tryz.prog 125 #[.agg #[.string r, .int .i64 o, .int .i64 k]] w fun e w' => e = .returned (.bool (hlpB ⟨r, o, k⟩)) ∧ Below w.heap.size w w' := by
  have HF : Hid (hlpB ⟨r, o, k⟩ = (nameB r && (withinB o 0 7 && withinB k 0 1000))) := rfl
  obtain ⟨W, hW⟩ : ∃ W, W = w.alloc (.cells #[.string r, .int .i64 o, .int .i64 k] 70) := ⟨_, rfl⟩
  have hB : Below w.heap.size w W := by rw [hW]; exact (Below.refl _ _).alloc (Nat.le_refl _) _
  have hz : w.heap.size < W.heap.size := by rw [hW]; simp
  have HA : Hid (At3 70 W w.heap.size (.string r) (.int .i64 o) (.int .i64 k)) := by rw [hW]; exact At3.new _ _ _ _ _
  have HN := hide (isName_calls r W (by omega))
  generalize nameB r = nb at *
  obtain ⟨p0, _⟩ := HA.out.out
  go_enter Tryz.func125, Tryz.ntmps125
  go_wp2_with fail
  rw [← hW]
  clear hW
  go_wp2_with fail
  refine HN.out.mono ?_
  rintro e w2 ⟨rfl, hb2⟩
  clear p0
  obtain ⟨p0, p1, p2, _⟩ := (HA.out.below hb2 hz).out
  have hB2 := hB.trans (hb2.mono hB.size)
  cases nb
  · go_wp2
    go_ret
    exact ⟨ret_bool (by rw [HF.out]; rfl), hB2⟩
  · have H1 := hide (isSkills_calls o w2)
    generalize withinB o 0 7 = ob at *
    go_wp2_with fail
    refine H1.out.mono ?_
    rintro e w3 ⟨rfl, rfl⟩
    cases ob
    · go_wp2
      go_ret
      exact ⟨ret_bool (by rw [HF.out]; rfl), hB2⟩
    · have H2 := hide (isShare_calls k w2)
      generalize withinB k 0 1000 = kb at *
      go_wp2_with fail
      refine H2.out.mono ?_
      rintro e w3 ⟨rfl, rfl⟩
      go_wp2
      go_ret
      exact ⟨ret_bool (by rw [HF.out]; simp), hB2⟩

set_option maxHeartbeats 1000000 in
theorem l24Helper_calls (r : ByteArray) (o k : Int) (B : Nat) (w : World) (hr : r.size ≤ 1048576) (HA : At3 70 w B (.string r) (.int .i64 o) (.int .i64 k)) :
    Calls Tryz.prog 129 #[.pointer (some ⟨B, 0, none⟩)] w fun e w' => e = .returned (.bool (hlpB ⟨r, o, k⟩)) ∧ w = w' := by
  have HF : Hid (hlpB ⟨r, o, k⟩ = (nameB r && (withinB o 0 7 && withinB k 0 1000))) := rfl
  have HN := hide (l01Name_calls r w (by omega))
  generalize nameB r = nb at *
  obtain ⟨p0, p1, p2, _⟩ := HA.out
  go_enter Tryz.func129, Tryz.ntmps129
  go_wp2_with fail
  refine HN.out.mono ?_
  rintro e w2 ⟨rfl, rfl⟩
  cases nb
  · go_wp2
    go_ret
    exact ⟨ret_bool (by rw [HF.out]; rfl), rfl⟩
  · have H1 := hide (l24Skills_calls o w)
    generalize withinB o 0 7 = ob at *
    go_wp2_with fail
    refine H1.out.mono ?_
    rintro e w3 ⟨rfl, rfl⟩
    cases ob
    · go_wp2
      go_ret
      exact ⟨ret_bool (by rw [HF.out]; rfl), rfl⟩
    · have H2 := hide (l24Minutes_calls k w)
      generalize withinB k 0 1000 = kb at *
      go_wp2_with fail
      refine H2.out.mono ?_
      rintro e w3 ⟨rfl, rfl⟩
      go_wp2
      go_ret
      exact ⟨ret_bool (by rw [HF.out]; simp), rfl⟩

set_option maxRecDepth 100000 in
set_option maxHeartbeats 4000000 in
theorem implReadHelper_calls (s : ByteArray) (w : World) (HT : TabPME w) (hs : s.size ≤ 1048576) :
    Calls Tryz.prog 46 #[.string s] w (HlpBPost (hrV s) (hrC s) w) := by
  obtain ⟨W1, hW1⟩ : ∃ W1, W1 = w.alloc (.cells #[.string ⟨#[]⟩, .int .i64 0, .int .i64 0] 70) := ⟨_, rfl⟩
  have hB1 : Below w.heap.size w W1 := by rw [hW1]; exact (Below.refl _ _).alloc (Nat.le_refl _) _
  have HR1 : Hid (At3 70 W1 w.heap.size (.string ⟨#[]⟩) (.int .i64 0) (.int .i64 0)) := by rw [hW1]; exact At3.new _ _ _ _ _
  have hz1 : w.heap.size < W1.heap.size := by rw [hW1]; simp
  have HTH := hide (readSkilled_calls s W1 (HT.1.here hB1) (HT.2.here hB1) hs)
  have hr := thr_size s
  have HBD : Hid (((thrZ (splitS 32 s)).ok && hlpB ⟨(thrZ (splitS 32 s)).id, (thrZ (splitS 32 s)).sk, (thrZ (splitS 32 s)).n⟩) = false → hrC s = false ∧ hrV s = ⟨⟨#[]⟩, 0, 0⟩) := hr_bad
  have HGD : Hid (((thrZ (splitS 32 s)).ok && hlpB ⟨(thrZ (splitS 32 s)).id, (thrZ (splitS 32 s)).sk, (thrZ (splitS 32 s)).n⟩) = true → hrC s = true ∧ hrV s = ⟨(thrZ (splitS 32 s)).id, (thrZ (splitS 32 s)).sk, (thrZ (splitS 32 s)).n⟩) := hr_good
  generalize thrZ (splitS 32 s) = X at *
  unfold ThrPost at HTH
  obtain ⟨r, o, k, ok⟩ := X
  simp only at HTH HBD HGD hr
  replace hr : r.size ≤ 1048576 := by omega
  go_enter Tryz.func46, Tryz.ntmps46
  go_wp2_with fail
  rw [← hW1]
  clear hW1
  refine HTH.out.mono ?_
  rintro e w2 ⟨rfl, hb2⟩
  clear HTH
  have hB2 := hB1.trans (hb2.mono hB1.size)
  have hq2 := Nat.lt_of_lt_of_le hz1 hb2.size
  have HR2 : Hid (At3 70 w2 w.heap.size (.string ⟨#[]⟩) (.int .i64 0) (.int .i64 0)) := HR1.out.below hb2 hz1
  have HVD := hide fun W => validHelper_calls r o k W hr
  obtain ⟨w3, hw3⟩ : ∃ w3, w3 = w2.alloc (.cells #[.string r, .int .i64 o, .int .i64 k] 70) := ⟨_, rfl⟩
  have hb3 : Below w2.heap.size w2 w3 := by rw [hw3]; exact (Below.refl _ _).alloc (Nat.le_refl _) _
  have HX3 : Hid (At3 70 w3 w2.heap.size (.string r) (.int .i64 o) (.int .i64 k)) := by rw [hw3]; exact At3.new _ _ _ _ _
  have hx3 : w2.heap.size < w3.heap.size := by rw [hw3]; simp
  have HQ3 := hide (HR2.out.below hb3 hq2)
  have hz3 : w.heap.size < w3.heap.size := by omega
  have hB3 := hB2.trans (hb3.mono hB2.size)
  obtain ⟨p0, p1, p2, f0, f1, f2⟩ := HQ3.out.out
  obtain ⟨y0, y1, y2, _, _, _⟩ := HX3.out.out
  cases ok
  · have HV := hide (HBD.out rfl)
    clear p0 p1 p2 f0 f1 f2 y0 y1 y2 hw3
    obtain ⟨q0, q1, q2, s0, s1, s2⟩ := HR2.out.out
    go_wp2
    refine bodyPost_ret (v := .tuple #[.agg #[.string ⟨#[]⟩, .int .i64 0, .int .i64 0], .bool false]) (by simp [results, Tryz.results46, go_sem, *]) rfl ?_
    exact hlp_of HV.out ((below_set3 hB2 (Nat.le_refl _)).alloc (by simp; omega) _)
  rw [Bool.true_and] at HBD HGD
  rcases b_cases (hlpB ⟨r, o, k⟩) with hq | hq
  · have HV := hide (HBD.out hq)
    rw [hq] at HVD
    clear hq
    go_wp2_with fail
    rw [← hw3]
    clear hw3
    (try go_wp2_with fail)
    refine (HVD.out _).mono ?_
    rintro e w4 ⟨rfl, hb4⟩
    have hB4 := hB3.trans (hb4.mono hB3.size)
    have HQ4 := HQ3.out.below hb4 hz3
    have HX4 := HX3.out.below hb4 hx3
    clear p0 p1 p2 f0 f1 f2 y0 y1 y2
    obtain ⟨p0, p1, p2, f0, f1, f2⟩ := HQ4.out
    go_wp2
    refine bodyPost_ret (v := .tuple #[.agg #[.string ⟨#[]⟩, .int .i64 0, .int .i64 0], .bool false]) (by simp [results, Tryz.results46, go_sem, *]) rfl ?_
    exact hlp_of HV.out (below_set3 hB4 (Nat.le_refl _))
  · have HV := hide (HGD.out hq)
    rw [hq] at HVD
    clear hq
    go_wp2_with fail
    rw [← hw3]
    clear hw3
    (try go_wp2_with fail)
    refine (HVD.out _).mono ?_
    rintro e w4 ⟨rfl, hb4⟩
    have hB4 := hB3.trans (hb4.mono hB3.size)
    have HQ4 := HQ3.out.below hb4 hz3
    have HX4 := HX3.out.below hb4 hx3
    clear p0 p1 p2 f0 f1 f2 y0 y1 y2
    obtain ⟨p0, p1, p2, f0, f1, f2⟩ := HQ4.out
    obtain ⟨y0, y1, y2, _, _, _⟩ := HX4.out
    go_wp2
    refine bodyPost_ret (v := .tuple #[.agg #[.string r, .int .i64 o, .int .i64 k], .bool true]) (by simp [results, Tryz.results46, go_sem, *]) rfl ?_
    exact hlp_of HV.out (below_set3 hB4 (Nat.le_refl _))



set_option maxHeartbeats 1000000 in
theorem validTask_calls (r : ByteArray) (o k : Int) (w : World) (hr : r.size ≤ 1048576) :
    Calls Tryz.prog 115 #[.agg #[.string r, .int .i64 o, .int .i64 k]] w fun e w' => e = .returned (.bool (hlpB ⟨r, o, k⟩)) ∧ Below w.heap.size w w' := by
  have HF : Hid (hlpB ⟨r, o, k⟩ = (nameB r && (withinB o 0 7 && withinB k 0 1000))) := rfl
  obtain ⟨W, hW⟩ : ∃ W, W = w.alloc (.cells #[.string r, .int .i64 o, .int .i64 k] 67) := ⟨_, rfl⟩
  have hB : Below w.heap.size w W := by rw [hW]; exact (Below.refl _ _).alloc (Nat.le_refl _) _
  have hz : w.heap.size < W.heap.size := by rw [hW]; simp
  have HA : Hid (At3 67 W w.heap.size (.string r) (.int .i64 o) (.int .i64 k)) := by rw [hW]; exact At3.new _ _ _ _ _
  have HN := hide (isName_calls r W (by omega))
  generalize nameB r = nb at *
  obtain ⟨p0, _⟩ := HA.out.out
  go_enter Tryz.func115, Tryz.ntmps115
  go_wp2_with fail
  rw [← hW]
  clear hW
  go_wp2_with fail
  refine HN.out.mono ?_
  rintro e w2 ⟨rfl, hb2⟩
  clear p0
  obtain ⟨p0, p1, p2, _⟩ := (HA.out.below hb2 hz).out
  have hB2 := hB.trans (hb2.mono hB.size)
  cases nb
  · go_wp2
    go_ret
    exact ⟨ret_bool (by rw [HF.out]; rfl), hB2⟩
  · have H1 := hide (isSkills_calls o w2)
    generalize withinB o 0 7 = ob at *
    go_wp2_with fail
    refine H1.out.mono ?_
    rintro e w3 ⟨rfl, rfl⟩
    cases ob
    · go_wp2
      go_ret
      exact ⟨ret_bool (by rw [HF.out]; rfl), hB2⟩
    · have H2 := hide (isShare_calls k w2)
      generalize withinB k 0 1000 = kb at *
      go_wp2_with fail
      refine H2.out.mono ?_
      rintro e w3 ⟨rfl, rfl⟩
      go_wp2
      go_ret
      exact ⟨ret_bool (by rw [HF.out]; simp), hB2⟩

set_option maxHeartbeats 1000000 in
theorem l24Task_calls (r : ByteArray) (o k : Int) (B : Nat) (w : World) (hr : r.size ≤ 1048576) (HA : At3 67 w B (.string r) (.int .i64 o) (.int .i64 k)) :
    Calls Tryz.prog 186 #[.pointer (some ⟨B, 0, none⟩)] w fun e w' => e = .returned (.bool (hlpB ⟨r, o, k⟩)) ∧ w = w' := by
  have HF : Hid (hlpB ⟨r, o, k⟩ = (nameB r && (withinB o 0 7 && withinB k 0 1000))) := rfl
  have HN := hide (l01Name_calls r w (by omega))
  generalize nameB r = nb at *
  obtain ⟨p0, p1, p2, _⟩ := HA.out
  go_enter Tryz.func186, Tryz.ntmps186
  go_wp2_with fail
  refine HN.out.mono ?_
  rintro e w2 ⟨rfl, rfl⟩
  cases nb
  · go_wp2
    go_ret
    exact ⟨ret_bool (by rw [HF.out]; rfl), rfl⟩
  · have H1 := hide (l24Skills_calls o w)
    generalize withinB o 0 7 = ob at *
    go_wp2_with fail
    refine H1.out.mono ?_
    rintro e w3 ⟨rfl, rfl⟩
    cases ob
    · go_wp2
      go_ret
      exact ⟨ret_bool (by rw [HF.out]; rfl), rfl⟩
    · have H2 := hide (l24Minutes_calls k w)
      generalize withinB k 0 1000 = kb at *
      go_wp2_with fail
      refine H2.out.mono ?_
      rintro e w3 ⟨rfl, rfl⟩
      go_wp2
      go_ret
      exact ⟨ret_bool (by rw [HF.out]; simp), rfl⟩

set_option maxRecDepth 100000 in
set_option maxHeartbeats 4000000 in
theorem implReadTask_calls (s : ByteArray) (w : World) (HT : TabPME w) (hs : s.size ≤ 1048576) :
    Calls Tryz.prog 49 #[.string s] w (HlpBPost (hrV s) (hrC s) w) := by
  obtain ⟨W1, hW1⟩ : ∃ W1, W1 = w.alloc (.cells #[.string ⟨#[]⟩, .int .i64 0, .int .i64 0] 67) := ⟨_, rfl⟩
  have hB1 : Below w.heap.size w W1 := by rw [hW1]; exact (Below.refl _ _).alloc (Nat.le_refl _) _
  have HR1 : Hid (At3 67 W1 w.heap.size (.string ⟨#[]⟩) (.int .i64 0) (.int .i64 0)) := by rw [hW1]; exact At3.new _ _ _ _ _
  have hz1 : w.heap.size < W1.heap.size := by rw [hW1]; simp
  have HTH := hide (readSkilled_calls s W1 (HT.1.here hB1) (HT.2.here hB1) hs)
  have hr := thr_size s
  have HBD : Hid (((thrZ (splitS 32 s)).ok && hlpB ⟨(thrZ (splitS 32 s)).id, (thrZ (splitS 32 s)).sk, (thrZ (splitS 32 s)).n⟩) = false → hrC s = false ∧ hrV s = ⟨⟨#[]⟩, 0, 0⟩) := hr_bad
  have HGD : Hid (((thrZ (splitS 32 s)).ok && hlpB ⟨(thrZ (splitS 32 s)).id, (thrZ (splitS 32 s)).sk, (thrZ (splitS 32 s)).n⟩) = true → hrC s = true ∧ hrV s = ⟨(thrZ (splitS 32 s)).id, (thrZ (splitS 32 s)).sk, (thrZ (splitS 32 s)).n⟩) := hr_good
  generalize thrZ (splitS 32 s) = X at *
  unfold ThrPost at HTH
  obtain ⟨r, o, k, ok⟩ := X
  simp only at HTH HBD HGD hr
  replace hr : r.size ≤ 1048576 := by omega
  go_enter Tryz.func49, Tryz.ntmps49
  go_wp2_with fail
  rw [← hW1]
  clear hW1
  refine HTH.out.mono ?_
  rintro e w2 ⟨rfl, hb2⟩
  clear HTH
  have hB2 := hB1.trans (hb2.mono hB1.size)
  have hq2 := Nat.lt_of_lt_of_le hz1 hb2.size
  have HR2 : Hid (At3 67 w2 w.heap.size (.string ⟨#[]⟩) (.int .i64 0) (.int .i64 0)) := HR1.out.below hb2 hz1
  have HVD := hide fun W => validTask_calls r o k W hr
  obtain ⟨w3, hw3⟩ : ∃ w3, w3 = w2.alloc (.cells #[.string r, .int .i64 o, .int .i64 k] 67) := ⟨_, rfl⟩
  have hb3 : Below w2.heap.size w2 w3 := by rw [hw3]; exact (Below.refl _ _).alloc (Nat.le_refl _) _
  have HX3 : Hid (At3 67 w3 w2.heap.size (.string r) (.int .i64 o) (.int .i64 k)) := by rw [hw3]; exact At3.new _ _ _ _ _
  have hx3 : w2.heap.size < w3.heap.size := by rw [hw3]; simp
  have HQ3 := hide (HR2.out.below hb3 hq2)
  have hz3 : w.heap.size < w3.heap.size := by omega
  have hB3 := hB2.trans (hb3.mono hB2.size)
  obtain ⟨p0, p1, p2, f0, f1, f2⟩ := HQ3.out.out
  obtain ⟨y0, y1, y2, _, _, _⟩ := HX3.out.out
  cases ok
  · have HV := hide (HBD.out rfl)
    clear p0 p1 p2 f0 f1 f2 y0 y1 y2 hw3
    obtain ⟨q0, q1, q2, s0, s1, s2⟩ := HR2.out.out
    go_wp2
    refine bodyPost_ret (v := .tuple #[.agg #[.string ⟨#[]⟩, .int .i64 0, .int .i64 0], .bool false]) (by simp [results, Tryz.results49, go_sem, *]) rfl ?_
    exact hlp_of HV.out ((below_set3 hB2 (Nat.le_refl _)).alloc (by simp; omega) _)
  rw [Bool.true_and] at HBD HGD
  rcases b_cases (hlpB ⟨r, o, k⟩) with hq | hq
  · have HV := hide (HBD.out hq)
    rw [hq] at HVD
    clear hq
    go_wp2_with fail
    rw [← hw3]
    clear hw3
    (try go_wp2_with fail)
    refine (HVD.out _).mono ?_
    rintro e w4 ⟨rfl, hb4⟩
    have hB4 := hB3.trans (hb4.mono hB3.size)
    have HQ4 := HQ3.out.below hb4 hz3
    have HX4 := HX3.out.below hb4 hx3
    clear p0 p1 p2 f0 f1 f2 y0 y1 y2
    obtain ⟨p0, p1, p2, f0, f1, f2⟩ := HQ4.out
    go_wp2
    refine bodyPost_ret (v := .tuple #[.agg #[.string ⟨#[]⟩, .int .i64 0, .int .i64 0], .bool false]) (by simp [results, Tryz.results49, go_sem, *]) rfl ?_
    exact hlp_of HV.out (below_set3 hB4 (Nat.le_refl _))
  · have HV := hide (HGD.out hq)
    rw [hq] at HVD
    clear hq
    go_wp2_with fail
    rw [← hw3]
    clear hw3
    (try go_wp2_with fail)
    refine (HVD.out _).mono ?_
    rintro e w4 ⟨rfl, hb4⟩
    have hB4 := hB3.trans (hb4.mono hB3.size)
    have HQ4 := HQ3.out.below hb4 hz3
    have HX4 := HX3.out.below hb4 hx3
    clear p0 p1 p2 f0 f1 f2 y0 y1 y2
    obtain ⟨p0, p1, p2, f0, f1, f2⟩ := HQ4.out
    obtain ⟨y0, y1, y2, _, _, _⟩ := HX4.out
    go_wp2
    refine bodyPost_ret (v := .tuple #[.agg #[.string r, .int .i64 o, .int .i64 k], .bool true]) (by simp [results, Tryz.results49, go_sem, *]) rfl ?_
    exact hlp_of HV.out (below_set3 hB4 (Nat.le_refl _))



end Go.Proofs.YtcclfmapbgdpdaaGreatDoor
