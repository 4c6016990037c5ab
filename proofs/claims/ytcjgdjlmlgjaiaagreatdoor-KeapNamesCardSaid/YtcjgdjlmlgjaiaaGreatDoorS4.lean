/- PROVED: the card of 'glebelaw22.KeapNames': whatever the input, the call returns true and the input reads as it did. CONDITIONS: none but those that the card itself bears (the listed tables read as their texts say). The call is run by an evaluator that is proved to answer as the model does (the texts before this one), once for each remainder of the input by 32. -/
import Derived.Test.YtcjgdjlmlgjaiaaGreatDoorS3x0
import Derived.Test.YtcjgdjlmlgjaiaaGreatDoorS3x1
import Derived.Test.YtcjgdjlmlgjaiaaGreatDoorS3x2
import Derived.Test.YtcjgdjlmlgjaiaaGreatDoorS3x3
import Derived.Test.YtcjgdjlmlgjaiaaGreatDoorS3x4
import Derived.Test.YtcjgdjlmlgjaiaaGreatDoorS3x5
import Derived.Test.YtcjgdjlmlgjaiaaGreatDoorS3x6
import Derived.Test.YtcjgdjlmlgjaiaaGreatDoorS3x7
import Derived.Test.YtcjgdjlmlgjaiaaGreatDoorTie
import Derived.Test.YtcjgdjlmlgjaiaaGreatDoorCards
import Derived.WalkKit
import Derived.ProofKit
import Derived.Lay
import Derived.LaidOnce
import Derived.SevenTiedAt
import Derived.Ground.NamesProg
set_option linter.unusedVariables false
set_option linter.unusedSimpArgs false
namespace Go.Proofs.YtcjgdjlmlgjaiaaGreatDoor
open Go Go.Ev Go.RowKit Go.Lib
open Go.ChangeShapes Go.WideShapes Go.ChangeAt
set_option maxRecDepth 100000
theorem law (x : Int) (w : World) (hw : ∀ t ∈ tabs, NumsAt w t.g t.k t.ns) : Calls Tryz.prog 3 #[.int .i64 x] w fun e w' => e = .returned (.bool true) ∧ Stays w w' := by
  have key : ∀ r : Nat, okT (callF T1 2000 3 [.low 3 5 r] fs0) = true → x % 32 = (r : Int) → Calls Tryz.prog 3 #[.int .i64 x] w fun e w' => e = .returned (.bool true) ∧ Stays w w' := fun r h hx => by
    obtain ⟨fs', hrun⟩ := okT_spec h
    exact run_int (kk := .i64) env1 fn1 tok1 rfl rfl hrun (start hw) noWrite hx (by decide)
  have h0 : 0 ≤ x % 32 := Int.emod_nonneg x (by decide)
  have h1 : x % 32 < 32 := Int.emod_lt_of_pos x (by decide)
  by_cases c0 : x % 32 = 0
  · exact key 0 run_0 c0
  by_cases c1 : x % 32 = 1
  · exact key 1 run_1 c1
  by_cases c2 : x % 32 = 2
  · exact key 2 run_2 c2
  by_cases c3 : x % 32 = 3
  · exact key 3 run_3 c3
  by_cases c4 : x % 32 = 4
  · exact key 4 run_4 c4
  by_cases c5 : x % 32 = 5
  · exact key 5 run_5 c5
  by_cases c6 : x % 32 = 6
  · exact key 6 run_6 c6
  by_cases c7 : x % 32 = 7
  · exact key 7 run_7 c7
  by_cases c8 : x % 32 = 8
  · exact key 8 run_8 c8
  by_cases c9 : x % 32 = 9
  · exact key 9 run_9 c9
  by_cases c10 : x % 32 = 10
  · exact key 10 run_10 c10
  by_cases c11 : x % 32 = 11
  · exact key 11 run_11 c11
  by_cases c12 : x % 32 = 12
  · exact key 12 run_12 c12
  by_cases c13 : x % 32 = 13
  · exact key 13 run_13 c13
  by_cases c14 : x % 32 = 14
  · exact key 14 run_14 c14
  by_cases c15 : x % 32 = 15
  · exact key 15 run_15 c15
  by_cases c16 : x % 32 = 16
  · exact key 16 run_16 c16
  by_cases c17 : x % 32 = 17
  · exact key 17 run_17 c17
  by_cases c18 : x % 32 = 18
  · exact key 18 run_18 c18
  by_cases c19 : x % 32 = 19
  · exact key 19 run_19 c19
  by_cases c20 : x % 32 = 20
  · exact key 20 run_20 c20
  by_cases c21 : x % 32 = 21
  · exact key 21 run_21 c21
  by_cases c22 : x % 32 = 22
  · exact key 22 run_22 c22
  by_cases c23 : x % 32 = 23
  · exact key 23 run_23 c23
  by_cases c24 : x % 32 = 24
  · exact key 24 run_24 c24
  by_cases c25 : x % 32 = 25
  · exact key 25 run_25 c25
  by_cases c26 : x % 32 = 26
  · exact key 26 run_26 c26
  by_cases c27 : x % 32 = 27
  · exact key 27 run_27 c27
  by_cases c28 : x % 32 = 28
  · exact key 28 run_28 c28
  by_cases c29 : x % 32 = 29
  · exact key 29 run_29 c29
  by_cases c30 : x % 32 = 30
  · exact key 30 run_30 c30
  by_cases c31 : x % 32 = 31
  · exact key 31 run_31 c31
  omega
theorem rowLaid : Rows.keapNamesRow.laid = [("math/bits.deBruijn32tab", Rows.laid_math_bits_deBruijn32tab), ("math/bits.deBruijn64tab", Rows.laid_math_bits_deBruijn64tab), ("internal/strconv.uint64pow10", Rows.laid_internal_strconv_uint64pow10), ("unicode/utf8.acceptRanges", Rows.laid_unicode_utf8_acceptRanges), ("unicode/utf8.first", Rows.laid_unicode_utf8_first)] := rfl
theorem nums {w : World} (h : laidMet Tryz.prog Rows.keapNamesRow.laid w) : ∀ t ∈ tabs, NumsAt w t.g t.k t.ns := by
  intro t ht
  simp only [tabs, List.mem_cons, List.not_mem_nil, or_false] at ht
  rcases ht with rfl | rfl | rfl | rfl
  · exact numsAt_of (name := "internal/strconv.uint64pow10") (t := 208) (e := 22) (len := 20) (laidMet.reads h (by rw [rowLaid]; simp only [List.mem_cons]; exact .inr (.inr (.inl rfl)))) (by kernel_rfl) (by kernel_rfl) (by kernel_rfl) (by kernel_rfl) (by kernel_rfl)
  · exact numsAt_of (name := "unicode/utf8.first") (t := 212) (e := 5) (len := 256) (laidMet.reads h (by rw [rowLaid]; simp only [List.mem_cons]; exact .inr (.inr (.inr (.inr (.inl rfl)))))) (by kernel_rfl) (by kernel_rfl) (by kernel_rfl) (by kernel_rfl) (by kernel_rfl)
  · exact numsAt_of (name := "math/bits.deBruijn32tab") (t := 245) (e := 5) (len := 32) (laidMet.reads h (by rw [rowLaid]; simp only [List.mem_cons]; exact .inl rfl)) (by kernel_rfl) (by kernel_rfl) (by kernel_rfl) (by kernel_rfl) (by kernel_rfl)
  · exact numsAt_of (name := "math/bits.deBruijn64tab") (t := 246) (e := 5) (len := 64) (laidMet.reads h (by rw [rowLaid]; simp only [List.mem_cons]; exact .inr (.inl rfl))) (by kernel_rfl) (by kernel_rfl) (by kernel_rfl) (by kernel_rfl) (by kernel_rfl)
theorem own : ownKnob Tryz.prog.godebug = none := by kernel_rfl
theorem func3b : Tryz.prog.funcs[3]? = some Tryz.f3 := Tryz.func3
theorem lifted (os : Os) (started : os.Started) (H : Type) (enc : TypeId × Value → H) :
    ReturnsInHanded {} Tryz.checked os 3 .any (fun w args => (Rows.keapNamesSpec.pre enc Tryz.prog Tryz.f3 [] false w args ∧ laidMetH Tryz.prog Rows.keapNamesRow.laid w) ∧ sizedMet enc Tryz.prog Tryz.f3 (OpenSpec.ofChange Rows.keapNamesSpec) false w args)
      (Rows.keapNamesSpec.post enc Tryz.prog Tryz.f3 false true false false) := by
  refine returnsInHanded_of_change_and (C := Tryz.checked) (X := fun w _ => laidMetH Tryz.prog Rows.keapNamesRow.laid w) (fun _ _ _ hh h => h.of_heap hh) own started (by kernel_rfl) Tryz.func3
    (ChangeSpec.witness_shaped (enc := enc) (C := Tryz.checked) (os := os) (X := fun w _ => laidMetH Tryz.prog Rows.keapNamesRow.laid w) false (World.laidAll Tryz.prog os Rows.keapNamesRow.laid) #[.int .i64 0] 8 (World.laidAll_os _ _ _)
      (World.shaped_of_ZipB (by kernel_rfl) (by kernel_rfl)) (by kernel_rfl) (by kernel_rfl) (by kernel_rfl)
      (by rw [MakeChecks.laidMetH_plain _ _ _ (by kernel_rfl)]; exact laidMet_laidAll _ (by kernel_rfl) (by kernel_rfl))) ?_
  intro W base args ds gs before hval0 hW _ _ hL _
  have hval : ∀ (j : Nat) t v, Tryz.f3.params[j]? = some t → args[j]? = some v → Value.okWide Tryz.prog W .any base t v := hval0
  have hW' := hW
  obtain ⟨p, q, hA0, hV, rfl, _, _⟩ := hW
  have hA : DataW.TrodAll enc Tryz.prog W 0 (fun _ => true) true Tryz.f3.params.toList args.toList ds p := hA0
  rw [Tryz.params3] at hA hval
  obtain ⟨v0, d0, rfl, rfl, h0⟩ := trodAll_one hA
  obtain ⟨rfl, rfl⟩ := trodVars_none hV
  obtain ⟨x, rfl, rfl, rfl, wx⟩ := open_int Tryz.underlying3 (hval 0 3 v0 rfl rfl) h0
  simp only [List.append_nil] at hW'
  rw [MakeChecks.laidMetH_plain _ _ _ (by kernel_rfl)] at hL
  refine (law x W (nums hL)).mono fun e W' ⟨he, hb⟩ => ?_
  subst he
  exact ⟨_, rfl, _, _, _, [], [], [], hW', trodAll_mk1 (shut_bool Tryz.underlying4 _), trodAll_mk1 (shut_int Tryz.underlying3 wx), rfl, hb.keptBut _, fun h => by cases h⟩
theorem holds : Rows.KeapNamesSaid :=
  OpenClaim.holds_of_wide 3 Tryz.f3 rfl rfl rfl rfl rfl rfl rfl ⟨rfl, rfl, rfl, rfl, rfl⟩ rfl rfl rfl rfl rfl (by kernel_rfl) Tryz.func3 (by kernel_rfl)
    (of_decide_eq_true (by kernel_rfl)) (by unfold Func.isWrapper; first | (rw [if_pos (by decide +kernel)]; kernel_rfl) | (rw [if_neg (by decide +kernel)]; exact ⟨rfl, rfl⟩))
    (fun os started H enc _ => lifted os started H enc)
theorem card_holds : Rows.KeapNamesCardSaid :=
  Claim7.holds_tied_plain_at .later [] [.data, .data, .data, .data, .pinned] true (true, "841d443b572a95732f681a5514a4a3bad673d5dda9fee52034f45bdc97054c3a") false holds (fun _ h => by cases h) (by kernel_rfl) (fun _ h => by cases h) keapNames_row_tie rfl ⟨rfl, rfl⟩ (by kernel_rfl) rfl
    (fun f fn hf hfn => by
      obtain rfl : f = 3 := Option.some.inj ((show Tryz.prog.funcNamed "glebe/glebelaw22.KeapNames" = some 3 by kernel_rfl).symm.trans hf) |>.symm
      obtain rfl : fn = Tryz.f3 := (Option.some.inj (Tryz.func3.symm.trans hfn)).symm
      exact ⟨by kernel_rfl, fun j t ht => by
        rw [Tryz.params3] at ht
        have hm : t ∈ [3] := by simpa using Array.mem_of_getElem? ht
        have hall : ([3].all fun u => !Tryz.prog.wantsStandIn u) = true := by kernel_rfl
        exact (show Tryz.prog.wantsStandIn t = false by simpa using List.all_eq_true.1 hall t hm)⟩)
    (by kernel_rfl)
end Go.Proofs.YtcjgdjlmlgjaiaaGreatDoor
