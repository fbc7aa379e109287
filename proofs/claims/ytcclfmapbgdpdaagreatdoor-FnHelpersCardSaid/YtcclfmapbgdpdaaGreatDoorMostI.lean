/- mostFilled of the program. -/
import Derived.Test.YtcclfmapbgdpdaaGreatDoorHelI
import Derived.Test.YtcclfmapbgdpdaaGreatDoorQuietB
import Derived.Laws.BitsLemmas
namespace Go.Proofs.YtcclfmapbgdpdaaGreatDoor
open Go.RowKit
set_option linter.unusedVariables false

theorem sizeT_calls (A : Option Addr) (n c : Nat) (w : World) (hn : n ≤ 1048576) : Calls Tryz.prog 182 #[.slice A n c] w fun e w' => e = .returned (.int .i64 (n : Int)) ∧ w = w' := by
  go_enter Tryz.func182, Tryz.ntmps182
  go_wp2
  go_ret
  exact ⟨rfl, rfl⟩

/-- The set of some numbers, a bit for each. -/
def bitsOf (g : List Int) : Nat := g.foldl (fun u k => u ||| 2 ^ k.toNat) 0
theorem bitsOf_snoc (g : List Int) (k : Int) : bitsOf (g ++ [k]) = bitsOf g ||| 2 ^ k.toNat := by unfold bitsOf; rw [List.foldl_append, List.foldl_cons, List.foldl_nil]
theorem bitsOf_test {g : List Int} (h : ∀ x ∈ g, 0 ≤ x) (k : Nat) : (bitsOf g).testBit k = decide ((k : Int) ∈ g) := by
  have key : ∀ (g : List Int) (u : Nat), (∀ x ∈ g, 0 ≤ x) → (g.foldl (fun u k => u ||| 2 ^ k.toNat) u).testBit k = (u.testBit k || decide ((k : Int) ∈ g)) := by
    intro g
    induction g with
    | nil => intro u _; simp
    | cons x r ih =>
      intro u hh
      have hx := hh x List.mem_cons_self
      rw [List.foldl_cons, ih _ (fun y hy => hh y (List.mem_cons_of_mem _ hy)), Nat.testBit_or, Nat.testBit_two_pow]
      have e : decide ((k : Int) ∈ x :: r) = (decide (x.toNat = k) || decide ((k : Int) ∈ r)) := by
        rw [← Bool.decide_or, decide_eq_decide, List.mem_cons]
        have : (k : Int) = x ↔ x.toNat = k := by omega
        rw [this]
      rw [e, Bool.or_assoc]
  have := key g 0 h
  rw [Nat.zero_testBit, Bool.false_or] at this
  exact this
theorem bitsOf_lt {g : List Int} {n : Nat} (h : ∀ x ∈ g, 0 ≤ x ∧ x < (n : Int)) : bitsOf g < 2 ^ n := by
  refine Nat.lt_pow_two_of_testBit _ fun i hi => ?_
  rw [bitsOf_test (fun x hx => (h x hx).1), decide_eq_false_iff_not]
  intro hm
  have := h _ hm
  omega

theorem wraps_i64 (n : Int) (h₀ : 0 ≤ n) (h₁ : n < 2 ^ 62) : IntKind.i64.wrap n = n := by rw [IntKind.wrap_i64]; omega
theorem bit_and {u k : Nat} (hu : u < 1048576) : bits .and .i64 ((u : Int) / 2 ^ k) 1 = ((u / 2 ^ k % 2 : Nat) : Int) := by
  have e : (u : Int) / 2 ^ k = ((u / 2 ^ k : Nat) : Int) := by rw [Int.natCast_ediv, Int.natCast_pow]; rfl
  have h1 := (bits_nat .i64 62 (by decide) wraps_i64 (u / 2 ^ k) 1 (Nat.lt_of_le_of_lt (Nat.div_le_self _ _) (by omega)) (by decide)).1
  rw [e]
  refine h1.trans ?_
  rw [Nat.and_one_is_mod]
theorem bit_or {u k : Nat} (hu : u < 1048576) (hk : k < 20) : bits .or .i64 (u : Int) ((2 ^ k : Nat) : Int) = ((u ||| 2 ^ k : Nat) : Int) := by
  have h2 : 2 ^ k < 2 ^ 20 := Nat.pow_lt_pow_right (by decide) hk
  exact (bits_nat .i64 62 (by decide) wraps_i64 u (2 ^ k) (by omega) (by omega)).2

theorem wrap_pow {k : Nat} (hk : k < 20) : IntKind.i64.wrap (2 ^ k) = ((2 ^ k : Nat) : Int) := by
  have h2 : 2 ^ k < 2 ^ 20 := Nat.pow_lt_pow_right (by decide) hk
  have e : ((2 : Int) ^ k) = ((2 ^ k : Nat) : Int) := by rw [Int.natCast_pow]; rfl
  rw [e]
  exact wraps_i64 _ (Int.natCast_nonneg _) (by omega)

/-- The greatest so far. -/
def fmZ (H : HlpZ → List Int) (ts : List HlpZ) (g l : List Int) : Nat := l.foldl (fun m k => if k ∈ g then m else max m (1 + mostZ H ts (g ++ [k]))) (mostZ H ts g)
theorem fmZ_all (H : HlpZ → List Int) (t : HlpZ) (ts : List HlpZ) (g : List Int) : mostZ H (t :: ts) g = fmZ H ts g (H t) := rfl
theorem fmZ_snoc {H : HlpZ → List Int} {ts : List HlpZ} {g l : List Int} {j : Nat} {k : Int} (h : l[j]? = some k) : fmZ H ts g (l.take (j + 1)) = if k ∈ g then fmZ H ts g (l.take j) else max (fmZ H ts g (l.take j)) (1 + mostZ H ts (g ++ [k])) := by
  unfold fmZ
  rw [take_snoc h, List.foldl_append, List.foldl_cons, List.foldl_nil]

set_option maxHeartbeats 4000000 in
set_option maxRecDepth 100000 in
theorem mostFilled_calls (A : Option Addr) (n c : Nat) (hs : List HlpZ) (hn : n ≤ 10) (ho : SkOk hs) : ∀ (ts : List HlpZ) (B : Option Addr) (m d : Nat) (g : List Int) (w : World), RdK kHlp w A n hs → RdK kHlp w B m ts → m ≤ d → m ≤ 8 → SkOk ts → (∀ x ∈ g, 0 ≤ x ∧ x < (n : Int)) →
    Calls Tryz.prog 113 #[.slice A n c, .slice B m d, .int .i64 (bitsOf g : Nat)] w fun e w' => e = .returned (.int .i64 (mostZ (helpZ hs) ts g : Nat)) ∧ Below w.heap.size w w' := by
  intro ts
  induction ts with
  | nil =>
    intro B m d g w h hB hd hm ht hg
    have h0 : m = 0 := by have := hB.2.1; simpa using this.symm
    subst h0
    clear hB
    go_enter Tryz.func113, Tryz.ntmps113
    go_wp2
    go_ret
    exact ⟨rfl, Below.refl _ _⟩
  | cons t ts ih =>
    intro B m' d g w h hB hd hm ht hg
    obtain ⟨m, rfl⟩ : ∃ m, m' = m + 1 := ⟨m' - 1, by have := hB.2.1; rw [List.length_cons] at this; omega⟩
    obtain ⟨b, off, f0, f1, f2, rfl, hbl, hx, c0, c1, c2, hs0, hs1, hs2, hs3, hs4⟩ := hB.atHlp (show 0 < m + 1 by omega)
    obtain rfl : t = ⟨f0, f1, f2⟩ := by have := hx.out; simpa using this
    simp only [Nat.zero_mul, Nat.add_zero] at c0 c1 c2
    have hbr := hB.rest
    have htl : ts.length = m := hbr.2.1
    by_cases hd1 : d = 1
    · subst hd1
      obtain rfl : m = 0 := by omega
      obtain rfl : ts = [] := List.eq_nil_of_length_eq_zero htl
      have HRo : Hid (RdK kHlp w (some ⟨b, off, none⟩) 0 []) := RdK.nil
      have IH := hide (fun (g : List Int) (W : World) (h1 : RdK kHlp W A n hs) (h2 : RdK kHlp W (some ⟨b, off, none⟩) 0 []) (hg : ∀ x ∈ g, 0 ≤ x ∧ x < (n : Int)) => ih (some ⟨b, off, none⟩) 0 0 g W h1 h2 (by omega) (by omega) (fun x hx => ht x (List.mem_cons_of_mem _ hx)) hg)
      have hf1 := ht ⟨f0, f1, f2⟩ List.mem_cons_self
      have HF := hide (fun (W : World) (h1 : RdK kHlp W A n hs) => helpersFor_calls A n c hs f0 f1 f2 W h1 (by omega) ho hf1)
      have HR := hide h
      have HG := hide hg
      have HU : Hid (bitsOf g < 1048576) := Nat.lt_trans (bitsOf_lt hg) (Nat.lt_of_le_of_lt (Nat.pow_le_pow_right (by decide) hn) (by decide))
      have HM := hide (And.intro (most_le (helpZ hs) [] g) htl)
      have HML := hide htl
      have hm9 : mostZ (helpZ hs) [] g ≤ 0 := by have := HM.out; omega
      clear ih h hB hbr ht hg hx htl
      go_enter Tryz.func113, Tryz.ntmps113
      go_wp2_with fail
      refine (IH.out g w HR.out HRo.out HG.out).mono ?_
      rintro e w1 ⟨rfl, hb1⟩
      have HR1 := hide (HR.out.below hb1 (Nat.le_refl _))
      have HRo1 := hide (HRo.out.below hb1 (Nat.le_refl _))
      have c0 := (hb1.cell (p := ⟨b, off, none⟩) hbl).trans c0
      have c1 := (hb1.cell (p := ⟨b, off + 1, none⟩) hbl).trans c1
      have c2 := (hb1.cell (p := ⟨b, off + 2, none⟩) hbl).trans c2
      have HB1 := hide hb1
      clear hb1 HR HRo
      go_wp2_with fail
      refine (HF.out w1 HR1.out).mono ?_
      rintro e w2 ⟨A2, q, cq, rfl, hown, hlen, hb2⟩
      have HR2 := hide (HR1.out.below hb2 (Nat.le_refl _))
      have HRo2 := hide (HRo1.out.below hb2 (Nat.le_refl _))
      have HB2 := hide (HB1.out.trans (hb2.mono HB1.out.size))
      have hbd := idxK_bd (fun h => canB h ⟨f0, f1, f2⟩) hs hs.length
      have hrow : RdI w2 A2 q (helpZ hs ⟨f0, f1, f2⟩) := RdI.of_own hown (fun x hx => by have := hbd x hx; have := HR2.out.2.1; unfold I64; omega)
      have HROW := hide hrow
      have HBD : Hid (∀ x ∈ helpZ hs ⟨f0, f1, f2⟩, 0 ≤ x ∧ x < (n : Int)) := fun x hx => by have := hbd x hx; have := HR2.out.2.1; omega
      have HLQ := hide hlen
      have hq10 : q ≤ 10 := by rw [← hlen]; have := idxK_len (fun h => canB h ⟨f0, f1, f2⟩) hs hs.length; have := HR2.out.2.1; unfold helpZ; omega
      clear hb2 HF HR1 HRo1 HB1 hbd hrow hown hlen c0 c1 c2
      go_wp2_with fail
      go_loopw [7, 9, 24] (fun mo _ i wr => ∃ (j M : Nat), j ≤ q ∧ i = .int .i64 j ∧ mo = .int .i64 (M : Int) ∧ M ≤ 0 + 1 ∧ Hid (fmZ (helpZ hs) [] g ((helpZ hs ⟨f0, f1, f2⟩).take j) = M) ∧ Hid (Below w2.heap.size w2 wr)) (fun _ _ i _ => q - (intOf i).toNat)
      case atStart => exact ⟨0, mostZ (helpZ hs) [] g, Nat.zero_le _, rfl, rfl, by omega, rfl, Below.refl _ _⟩
      case round => as_aux_lemma =>
        obtain ⟨j, M, hj, rfl, rfl, hM, HFM, HBr⟩ := hrel
        by_cases hjq : j < q
        · obtain ⟨ba, oa, x, rfl, _, hx, hcx, _, _⟩ := (HROW.out.below HBr.out (Nat.le_refl _)).at hjq
          have hxb := HBD.out x (List.mem_of_getElem? hx.out)
          obtain ⟨k, rfl⟩ : ∃ k : Nat, x = (k : Int) := ⟨x.toNat, by omega⟩
          have hu := HU.out
          have hba := bit_and (u := bitsOf g) (k := k) hu
          have htb := bitsOf_test (g := g) (fun x hx => (HG.out x hx).1) k
          rw [Nat.testBit_eq_decide_div_mod_eq] at htb
          by_cases hkg : (k : Int) ∈ g
          · have e0 : bitsOf g / 2 ^ k % 2 = 1 := by rw [decide_eq_true hkg] at htb; exact of_decide_eq_true htb
            have eb : ¬ bits BinOp.and IntKind.i64 ((bitsOf g : Nat) / 2 ^ k) 1 = 0 := by rw [hba, e0]; decide
            have HFN := hide (fmZ_snoc (H := helpZ hs) (ts := []) (g := g) hx.out)
            rw [if_pos hkg, HFM.out] at HFN
            clear hba htb e0 hkg hx
            go_wp2_with fail
            go_roundw
            case rel => exact ⟨j + 1, M, by omega, by go_num, rfl, hM, HFN, HBr⟩
            case measure => simp [intOf]; omega
          · have e0 : bitsOf g / 2 ^ k % 2 = 0 := by rw [decide_eq_false hkg] at htb; have := of_decide_eq_false htb; omega
            have eb : bits BinOp.and IntKind.i64 ((bitsOf g : Nat) / 2 ^ k) 1 = 0 := by rw [hba, e0]; rfl
            have HFN := hide (fmZ_snoc (H := helpZ hs) (ts := []) (g := g) hx.out)
            rw [if_neg hkg, HFM.out] at HFN
            have hml : mostZ (helpZ hs) [] (g ++ [(k : Int)]) ≤ 0 := by have := most_le (helpZ hs) [] (g ++ [(k : Int)]); rw [HML.out] at this; exact this
            have hbs : ((bitsOf (g ++ [(k : Int)]) : Nat) : Int) = bits .or .i64 (bitsOf g : Nat) (IntKind.i64.wrap (2 ^ k)) := by rw [bitsOf_snoc, Int.toNat_natCast, wrap_pow (by omega), bit_or hu (by omega)]
            have hg2 : ∀ x ∈ g ++ [(k : Int)], 0 ≤ x ∧ x < (n : Int) := fun x hx => by
              rcases List.mem_append.1 hx with h | h
              · exact HG.out x h
              · have : x = (k : Int) := by simpa using h
                omega
            have HC : Hid (∀ p : BelW wr, Calls Tryz.prog 113 #[.slice A n c, .slice (some ⟨b, off, none⟩) 0 0, .int .i64 (bits .or .i64 (bitsOf g : Nat) (IntKind.i64.wrap (2 ^ k)))] p.1 fun e w'' => e = .returned (.int .i64 (mostZ (helpZ hs) [] (g ++ [(k : Int)]) : Nat)) ∧ ∃ q : BelW wr, w'' = q.1) := fun p => by
              have := Calls.bel (IH.out (g ++ [(k : Int)]) p.1 (HR2.out.below (HBr.out.trans (p.2.mono HBr.out.size)) (Nat.le_refl _)) (HRo2.out.below (HBr.out.trans (p.2.mono HBr.out.size)) (Nat.le_refl _)) hg2)
              rw [hbs] at this
              exact this
            have hsz := sizeT_calls (some ⟨b, off, none⟩) (0 + 1) 1 wr (by omega)
            have HSZ := hide hsz
            generalize mostZ (helpZ hs) [] (g ++ [(k : Int)]) = MK at *
            clear hba htb e0 hkg hx hbs hg2 hsz
            go_wp2_with fail
            refine HSZ.out.mono ?_
            rintro e w' ⟨rfl, rfl⟩
            by_cases hMm : M < 0 + 1
            · have d1 : decide ((M : Int) < ((0 + 1 : Nat) : Int)) = true := decide_eq_true (by omega)
              have d2 : decide ((M : Int) < (0 : Int) + 1) = true := decide_eq_true (by omega)
              have hpw : 2 ^ k < 2 ^ 20 := Nat.pow_lt_pow_right (by decide) (by omega)
              have ea : IntKind.i64.wrap (1 + (MK : Int)) = 1 + (MK : Int) := wraps_i64 _ (by omega) (by omega)
              clear eb
              go_wp2_with fail
              refine wp_region_bel (by kernel_rfl) (by kernel_rfl) ?_
              repeat (refine WQ.step (fun K hK => ?_); go_simp; first | (refine hK _ ?_; clear hK K) | (apply Exists.intro; refine ⟨fun _ => ?_, hK _ ?_⟩; (go_at_call 113; exact HC.out _); clear hK K))
              refine WQ.nil ?_
              rintro w3 ⟨⟨w3, hb3⟩, rfl⟩
              have HB3 := hide (HBr.out.trans (hb3.mono HBr.out.size))
              clear hb3 ea
              go_wp2
              go_roundw
              case rel => exact ⟨j + 1, max M (1 + MK), by omega, by go_num, by congr 1; omega, by omega, HFN, HB3⟩
              case measure => simp [intOf]; omega
            · have d1 : decide ((M : Int) < ((0 + 1 : Nat) : Int)) = false := decide_eq_false (by omega)
              have d2 : decide ((M : Int) < (0 : Int) + 1) = false := decide_eq_false (by omega)
              have hmx : max M (1 + MK) = M := by omega
              rw [hmx] at HFN
              clear eb
              go_wp2_with fail
              go_roundw
              case rel => exact ⟨j + 1, M, by omega, by go_num, rfl, hM, HFN, HBr⟩
              case measure => simp [intOf]; omega
        · have hjq2 : j = q := by omega
          subst hjq2
          rw [List.take_of_length_le (Nat.le_of_eq HLQ.out)] at HFM
          have HW := hide (HB2.out.trans (HBr.out.mono HB2.out.size))
          have HE := hide (show mostZ (helpZ hs) (⟨f0, f1, f2⟩ :: []) g = M from HFM.out)
          go_wp2
          go_ret
          exact ⟨ret_int (by rw [HE.out]), HW.out⟩
    ·
      have HRo : Hid (RdK kHlp w (some ⟨b, off + 3, none⟩) m ts) := hbr
      have IH := hide (fun (g : List Int) (W : World) (h1 : RdK kHlp W A n hs) (h2 : RdK kHlp W (some ⟨b, off + 3, none⟩) m ts) (hg : ∀ x ∈ g, 0 ≤ x ∧ x < (n : Int)) => ih (some ⟨b, off + 3, none⟩) m (d - 1) g W h1 h2 (by omega) (by omega) (fun x hx => ht x (List.mem_cons_of_mem _ hx)) hg)
      have hf1 := ht ⟨f0, f1, f2⟩ List.mem_cons_self
      have HF := hide (fun (W : World) (h1 : RdK kHlp W A n hs) => helpersFor_calls A n c hs f0 f1 f2 W h1 (by omega) ho hf1)
      have HR := hide h
      have HG := hide hg
      have HU : Hid (bitsOf g < 1048576) := Nat.lt_trans (bitsOf_lt hg) (Nat.lt_of_le_of_lt (Nat.pow_le_pow_right (by decide) hn) (by decide))
      have HM := hide (And.intro (most_le (helpZ hs) ts g) htl)
      have HML := hide htl
      have hm9 : mostZ (helpZ hs) ts g ≤ m := by have := HM.out; omega
      clear ih h hB hbr ht hg hx htl
      go_enter Tryz.func113, Tryz.ntmps113
      go_wp2_with fail
      refine (IH.out g w HR.out HRo.out HG.out).mono ?_
      rintro e w1 ⟨rfl, hb1⟩
      have HR1 := hide (HR.out.below hb1 (Nat.le_refl _))
      have HRo1 := hide (HRo.out.below hb1 (Nat.le_refl _))
      have c0 := (hb1.cell (p := ⟨b, off, none⟩) hbl).trans c0
      have c1 := (hb1.cell (p := ⟨b, off + 1, none⟩) hbl).trans c1
      have c2 := (hb1.cell (p := ⟨b, off + 2, none⟩) hbl).trans c2
      have HB1 := hide hb1
      clear hb1 HR HRo
      go_wp2_with fail
      refine (HF.out w1 HR1.out).mono ?_
      rintro e w2 ⟨A2, q, cq, rfl, hown, hlen, hb2⟩
      have HR2 := hide (HR1.out.below hb2 (Nat.le_refl _))
      have HRo2 := hide (HRo1.out.below hb2 (Nat.le_refl _))
      have HB2 := hide (HB1.out.trans (hb2.mono HB1.out.size))
      have hbd := idxK_bd (fun h => canB h ⟨f0, f1, f2⟩) hs hs.length
      have hrow : RdI w2 A2 q (helpZ hs ⟨f0, f1, f2⟩) := RdI.of_own hown (fun x hx => by have := hbd x hx; have := HR2.out.2.1; unfold I64; omega)
      have HROW := hide hrow
      have HBD : Hid (∀ x ∈ helpZ hs ⟨f0, f1, f2⟩, 0 ≤ x ∧ x < (n : Int)) := fun x hx => by have := hbd x hx; have := HR2.out.2.1; omega
      have HLQ := hide hlen
      have hq10 : q ≤ 10 := by rw [← hlen]; have := idxK_len (fun h => canB h ⟨f0, f1, f2⟩) hs hs.length; have := HR2.out.2.1; unfold helpZ; omega
      clear hb2 HF HR1 HRo1 HB1 hbd hrow hown hlen c0 c1 c2
      go_wp2_with fail
      go_loopw [7, 9, 24] (fun mo _ i wr => ∃ (j M : Nat), j ≤ q ∧ i = .int .i64 j ∧ mo = .int .i64 (M : Int) ∧ M ≤ m + 1 ∧ Hid (fmZ (helpZ hs) ts g ((helpZ hs ⟨f0, f1, f2⟩).take j) = M) ∧ Hid (Below w2.heap.size w2 wr)) (fun _ _ i _ => q - (intOf i).toNat)
      case atStart => exact ⟨0, mostZ (helpZ hs) ts g, Nat.zero_le _, rfl, rfl, by omega, rfl, Below.refl _ _⟩
      case round => as_aux_lemma =>
        obtain ⟨j, M, hj, rfl, rfl, hM, HFM, HBr⟩ := hrel
        by_cases hjq : j < q
        · obtain ⟨ba, oa, x, rfl, _, hx, hcx, _, _⟩ := (HROW.out.below HBr.out (Nat.le_refl _)).at hjq
          have hxb := HBD.out x (List.mem_of_getElem? hx.out)
          obtain ⟨k, rfl⟩ : ∃ k : Nat, x = (k : Int) := ⟨x.toNat, by omega⟩
          have hu := HU.out
          have hba := bit_and (u := bitsOf g) (k := k) hu
          have htb := bitsOf_test (g := g) (fun x hx => (HG.out x hx).1) k
          rw [Nat.testBit_eq_decide_div_mod_eq] at htb
          by_cases hkg : (k : Int) ∈ g
          · have e0 : bitsOf g / 2 ^ k % 2 = 1 := by rw [decide_eq_true hkg] at htb; exact of_decide_eq_true htb
            have eb : ¬ bits BinOp.and IntKind.i64 ((bitsOf g : Nat) / 2 ^ k) 1 = 0 := by rw [hba, e0]; decide
            have HFN := hide (fmZ_snoc (H := helpZ hs) (ts := ts) (g := g) hx.out)
            rw [if_pos hkg, HFM.out] at HFN
            clear hba htb e0 hkg hx
            go_wp2_with fail
            go_roundw
            case rel => exact ⟨j + 1, M, by omega, by go_num, rfl, hM, HFN, HBr⟩
            case measure => simp [intOf]; omega
          · have e0 : bitsOf g / 2 ^ k % 2 = 0 := by rw [decide_eq_false hkg] at htb; have := of_decide_eq_false htb; omega
            have eb : bits BinOp.and IntKind.i64 ((bitsOf g : Nat) / 2 ^ k) 1 = 0 := by rw [hba, e0]; rfl
            have HFN := hide (fmZ_snoc (H := helpZ hs) (ts := ts) (g := g) hx.out)
            rw [if_neg hkg, HFM.out] at HFN
            have hml : mostZ (helpZ hs) ts (g ++ [(k : Int)]) ≤ m := by have := most_le (helpZ hs) ts (g ++ [(k : Int)]); rw [HML.out] at this; exact this
            have hbs : ((bitsOf (g ++ [(k : Int)]) : Nat) : Int) = bits .or .i64 (bitsOf g : Nat) (IntKind.i64.wrap (2 ^ k)) := by rw [bitsOf_snoc, Int.toNat_natCast, wrap_pow (by omega), bit_or hu (by omega)]
            have hg2 : ∀ x ∈ g ++ [(k : Int)], 0 ≤ x ∧ x < (n : Int) := fun x hx => by
              rcases List.mem_append.1 hx with h | h
              · exact HG.out x h
              · have : x = (k : Int) := by simpa using h
                omega
            have HC : Hid (∀ p : BelW wr, Calls Tryz.prog 113 #[.slice A n c, .slice (some ⟨b, off + 3, none⟩) m (d - 1), .int .i64 (bits .or .i64 (bitsOf g : Nat) (IntKind.i64.wrap (2 ^ k)))] p.1 fun e w'' => e = .returned (.int .i64 (mostZ (helpZ hs) ts (g ++ [(k : Int)]) : Nat)) ∧ ∃ q : BelW wr, w'' = q.1) := fun p => by
              have := Calls.bel (IH.out (g ++ [(k : Int)]) p.1 (HR2.out.below (HBr.out.trans (p.2.mono HBr.out.size)) (Nat.le_refl _)) (HRo2.out.below (HBr.out.trans (p.2.mono HBr.out.size)) (Nat.le_refl _)) hg2)
              rw [hbs] at this
              exact this
            have hsz := sizeT_calls (some ⟨b, off, none⟩) (m + 1) d wr (by omega)
            have HSZ := hide hsz
            generalize mostZ (helpZ hs) ts (g ++ [(k : Int)]) = MK at *
            clear hba htb e0 hkg hx hbs hg2 hsz
            go_wp2_with fail
            refine HSZ.out.mono ?_
            rintro e w' ⟨rfl, rfl⟩
            by_cases hMm : M < m + 1
            · have d1 : decide ((M : Int) < ((m + 1 : Nat) : Int)) = true := decide_eq_true (by omega)
              have d2 : decide ((M : Int) < (m : Int) + 1) = true := decide_eq_true (by omega)
              have hpw : 2 ^ k < 2 ^ 20 := Nat.pow_lt_pow_right (by decide) (by omega)
              have j1 : (1 : Int) ≤ (m : Int) + 1 := by omega
              have j2 : (m : Int) + 1 ≤ (d : Int) := by omega
              have j3 : (1 : Int) ≤ (d : Int) := by omega
              have j4 : (0 : Int) ≤ (m : Int) := by omega
              have j5 : d ≠ 1 := hd1
              have ea : IntKind.i64.wrap (1 + (MK : Int)) = 1 + (MK : Int) := wraps_i64 _ (by omega) (by omega)
              clear eb
              go_wp2_with fail
              refine wp_region_bel (by kernel_rfl) (by kernel_rfl) ?_
              repeat (refine WQ.step (fun K hK => ?_); go_simp; first | (refine hK _ ?_; clear hK K) | (apply Exists.intro; refine ⟨fun _ => ?_, hK _ ?_⟩; (go_at_call 113; exact HC.out _); clear hK K))
              refine WQ.nil ?_
              rintro w3 ⟨⟨w3, hb3⟩, rfl⟩
              have HB3 := hide (HBr.out.trans (hb3.mono HBr.out.size))
              clear hb3 ea
              go_wp2
              go_roundw
              case rel => exact ⟨j + 1, max M (1 + MK), by omega, by go_num, by congr 1; omega, by omega, HFN, HB3⟩
              case measure => simp [intOf]; omega
            · have d1 : decide ((M : Int) < ((m + 1 : Nat) : Int)) = false := decide_eq_false (by omega)
              have d2 : decide ((M : Int) < (m : Int) + 1) = false := decide_eq_false (by omega)
              have hmx : max M (1 + MK) = M := by omega
              rw [hmx] at HFN
              clear eb
              go_wp2_with fail
              go_roundw
              case rel => exact ⟨j + 1, M, by omega, by go_num, rfl, hM, HFN, HBr⟩
              case measure => simp [intOf]; omega
        · have hjq2 : j = q := by omega
          subst hjq2
          rw [List.take_of_length_le (Nat.le_of_eq HLQ.out)] at HFM
          have HW := hide (HB2.out.trans (HBr.out.mono HB2.out.size))
          have HE := hide (show mostZ (helpZ hs) (⟨f0, f1, f2⟩ :: ts) g = M from HFM.out)
          go_wp2
          go_ret
          exact ⟨ret_int (by rw [HE.out]), HW.out⟩

end Go.Proofs.YtcclfmapbgdpdaaGreatDoor
