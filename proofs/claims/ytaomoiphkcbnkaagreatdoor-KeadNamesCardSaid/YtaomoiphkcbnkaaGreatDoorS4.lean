/- PROVED: the card of 'glebelaw21.KeadNames': whatever the input, the call returns true and the input reads as it did. CONDITIONS: none but those that the card itself bears (the listed variables read as their texts say). The call is run by an evaluator that is proved to answer as the model does (the texts before this one), once for each row of the law's table and each of two classes of what internal/bytealg.MaxLen holds. -/
import Derived.Test.YtaomoiphkcbnkaaGreatDoorS3x0
import Derived.Test.YtaomoiphkcbnkaaGreatDoorS3x1
import Derived.Test.YtaomoiphkcbnkaaGreatDoorS3x2
import Derived.Test.YtaomoiphkcbnkaaGreatDoorS3x3
import Derived.Test.YtaomoiphkcbnkaaGreatDoorS3x4
import Derived.Test.YtaomoiphkcbnkaaGreatDoorS3x5
import Derived.Test.YtaomoiphkcbnkaaGreatDoorTie
import Derived.Test.YtaomoiphkcbnkaaGreatDoorCards
import Derived.WalkKit
import Derived.ProofKit
import Derived.Lay
import Derived.LaidOnce
import Derived.SevenTiedAt
import Derived.Ground.NamesProg
set_option linter.unusedVariables false
set_option linter.unusedSimpArgs false
namespace Go.Proofs.YtaomoiphkcbnkaaGreatDoor
open Go Go.Ev Go.RowKit Go.Lib
open Go.ChangeShapes Go.WideShapes Go.ChangeAt
set_option maxRecDepth 100000
theorem law (x y : Int) (w : World) (hw : ∀ t ∈ tabs, NumsAt w t.g t.k t.ns) (hy : w.cell? ⟨0, 0, none⟩ = some (.int .i64 y)) : Calls Tryz.prog 3 #[.int .i64 x] w fun e w' => e = .returned (.bool true) ∧ Stays w w' := by
  have key : ∀ r : Nat, okT (callF T1 2000 3 [.low 3 1018 r] (fs0 3000)) = true → okT (callF T1 2000 3 [.low 3 1018 r] (fs0 3001)) = true → x % 256 % 18 = (r : Int) → Calls Tryz.prog 3 #[.int .i64 x] w fun e w' => e = .returned (.bool true) ∧ Stays w w' := fun r h h' hx => by
    rcases low_split y with hp | hp
    · obtain ⟨fs', hrun⟩ := okT_spec h
      exact run_int (kk := .i64) env1 fn1 tok1 rfl rfl hrun (start hw hy hp (by decide)) (noWrite _) (by rw [lowP, if_neg (by decide), if_pos (by decide)]; exact hx) (by decide)
    · obtain ⟨fs', hrun⟩ := okT_spec h'
      exact run_int (kk := .i64) env1 fn1 tok1 rfl rfl hrun (start hw hy hp (by decide)) (noWrite _) (by rw [lowP, if_neg (by decide), if_pos (by decide)]; exact hx) (by decide)
  have h0 : 0 ≤ x % 256 % 18 := Int.emod_nonneg _ (by decide)
  have h1 : x % 256 % 18 < 18 := Int.emod_lt_of_pos _ (by decide)
  by_cases c0 : x % 256 % 18 = 0
  · exact key 0 run_0_0 run_0_1 c0
  by_cases c1 : x % 256 % 18 = 1
  · exact key 1 run_1_0 run_1_1 c1
  by_cases c2 : x % 256 % 18 = 2
  · exact key 2 run_2_0 run_2_1 c2
  by_cases c3 : x % 256 % 18 = 3
  · exact key 3 run_3_0 run_3_1 c3
  by_cases c4 : x % 256 % 18 = 4
  · exact key 4 run_4_0 run_4_1 c4
  by_cases c5 : x % 256 % 18 = 5
  · exact key 5 run_5_0 run_5_1 c5
  by_cases c6 : x % 256 % 18 = 6
  · exact key 6 run_6_0 run_6_1 c6
  by_cases c7 : x % 256 % 18 = 7
  · exact key 7 run_7_0 run_7_1 c7
  by_cases c8 : x % 256 % 18 = 8
  · exact key 8 run_8_0 run_8_1 c8
  by_cases c9 : x % 256 % 18 = 9
  · exact key 9 run_9_0 run_9_1 c9
  by_cases c10 : x % 256 % 18 = 10
  · exact key 10 run_10_0 run_10_1 c10
  by_cases c11 : x % 256 % 18 = 11
  · exact key 11 run_11_0 run_11_1 c11
  by_cases c12 : x % 256 % 18 = 12
  · exact key 12 run_12_0 run_12_1 c12
  by_cases c13 : x % 256 % 18 = 13
  · exact key 13 run_13_0 run_13_1 c13
  by_cases c14 : x % 256 % 18 = 14
  · exact key 14 run_14_0 run_14_1 c14
  by_cases c15 : x % 256 % 18 = 15
  · exact key 15 run_15_0 run_15_1 c15
  by_cases c16 : x % 256 % 18 = 16
  · exact key 16 run_16_0 run_16_1 c16
  by_cases c17 : x % 256 % 18 = 17
  · exact key 17 run_17_0 run_17_1 c17
  omega
theorem rowLaid : Rows.keadNamesRow.laid = [("math/bits.deBruijn32tab", Rows.laid_math_bits_deBruijn32tab), ("math/bits.deBruijn64tab", Rows.laid_math_bits_deBruijn64tab), ("internal/strconv.uint64pow10", Rows.laid_internal_strconv_uint64pow10), ("unicode/utf8.acceptRanges", Rows.laid_unicode_utf8_acceptRanges), ("strconv.ErrRange", Rows.laid_strconv_ErrRange), ("strconv.ErrSyntax", Rows.laid_strconv_ErrSyntax), ("unicode/utf8.first", Rows.laid_unicode_utf8_first)] := rfl
theorem nums {w : World} (h : laidMet Tryz.prog Rows.keadNamesRow.laid w) : ∀ t ∈ tabs, NumsAt w t.g t.k t.ns := by
  intro t ht
  simp only [tabs, List.mem_cons, List.not_mem_nil, or_false] at ht
  rcases ht with rfl | rfl | rfl | rfl
  · exact numsAt_of (name := "unicode/utf8.first") (t := 245) (e := 5) (len := 256) (laidMet.reads h (by rw [rowLaid]; simp only [List.mem_cons]; exact .inr (.inr (.inr (.inr (.inr (.inr (.inl rfl)))))))) (by kernel_rfl) (by kernel_rfl) (by kernel_rfl) (by kernel_rfl) (by kernel_rfl)
  · exact numsAt_of (name := "internal/strconv.uint64pow10") (t := 316) (e := 54) (len := 20) (laidMet.reads h (by rw [rowLaid]; simp only [List.mem_cons]; exact .inr (.inr (.inl rfl)))) (by kernel_rfl) (by kernel_rfl) (by kernel_rfl) (by kernel_rfl) (by kernel_rfl)
  · exact numsAt_of (name := "math/bits.deBruijn32tab") (t := 327) (e := 5) (len := 32) (laidMet.reads h (by rw [rowLaid]; simp only [List.mem_cons]; exact .inl rfl)) (by kernel_rfl) (by kernel_rfl) (by kernel_rfl) (by kernel_rfl) (by kernel_rfl)
  · exact numsAt_of (name := "math/bits.deBruijn64tab") (t := 328) (e := 5) (len := 64) (laidMet.reads h (by rw [rowLaid]; simp only [List.mem_cons]; exact .inr (.inl rfl))) (by kernel_rfl) (by kernel_rfl) (by kernel_rfl) (by kernel_rfl) (by kernel_rfl)
theorem own : ownKnob Tryz.prog.godebug = none := by kernel_rfl
theorem lifted (os : Os) (started : os.Started) (H : Type) (enc : TypeId × Value → H) :
    ReturnsInHanded {} Tryz.checked os 3 .any (fun w args => (Rows.keadNamesSpec.pre enc Tryz.prog Tryz.f3 [] false w args ∧ laidMetH Tryz.prog Rows.keadNamesRow.laid w) ∧ sizedMet enc Tryz.prog Tryz.f3 (OpenSpec.ofChange Rows.keadNamesSpec) false w args)
      (Rows.keadNamesSpec.post enc Tryz.prog Tryz.f3 false true false false) := by
  refine handed_shaped (C := Tryz.checked) (X := fun w _ => laidMetH Tryz.prog Rows.keadNamesRow.laid w) (fun _ _ _ hh h => h.of_heap hh) own started (by kernel_rfl) Tryz.func3
    (ChangeSpec.witness_shaped (enc := enc) (C := Tryz.checked) (os := os) (X := fun w _ => laidMetH Tryz.prog Rows.keadNamesRow.laid w) false (World.laidAll Tryz.prog os Rows.keadNamesRow.laid) #[.int .i64 0] 8 (World.laidAll_os _ _ _)
      (World.shaped_of_ZipB (by kernel_rfl) (by kernel_rfl)) (by kernel_rfl) (by kernel_rfl) (by kernel_rfl)
      (by rw [MakeChecks.laidMetH_plain _ _ _ (by kernel_rfl)]; exact laidMet_laidAll _ (by kernel_rfl) (by kernel_rfl))) ?_
  intro W base args ds gs before hval0 hW hsh hL
  have hval : ∀ (j : Nat) t v, Tryz.f3.params[j]? = some t → args[j]? = some v → Value.okWide Tryz.prog W .any base t v := hval0
  have hW' := hW
  obtain ⟨p, q, hA0, hV, rfl, _, _⟩ := hW
  have hA : DataW.TrodAll enc Tryz.prog W 0 (fun _ => true) true Tryz.f3.params.toList args.toList ds p := hA0
  rw [Tryz.params3] at hA hval
  obtain ⟨v0, d0, rfl, rfl, h0⟩ := trodAll_one hA
  obtain ⟨rfl, rfl⟩ := trodVars_none hV
  obtain ⟨x, rfl, rfl, rfl, wx⟩ := open_int Tryz.underlying3 (hval 0 3 v0 rfl rfl) h0
  simp only [List.append_nil] at hW'
  rw [MakeChecks.laidMetH_plain _ _ _ (by kernel_rfl)] at hL
  obtain ⟨y, hy⟩ := cell_of_shapedOpen_int (P := Tryz.prog) (g := 0) (t := 3) (zero := #[.int .i64 0]) hsh (of_decide_eq_true (by kernel_rfl)) (by kernel_rfl) rfl (by kernel_rfl) (by kernel_rfl) Tryz.underlying3
  refine (law x y W (nums hL) hy).mono fun e W' ⟨he, hb⟩ => ?_
  subst he
  exact ⟨_, rfl, _, _, _, [], [], [], hW', trodAll_mk1 (shut_bool Tryz.underlying4 _), trodAll_mk1 (shut_int Tryz.underlying3 wx), rfl, hb.keptBut _, fun h => by cases h⟩
theorem holds : Rows.KeadNamesSaid :=
  OpenClaim.holds_of_wide 3 Tryz.f3 rfl rfl rfl rfl rfl rfl rfl ⟨rfl, rfl, rfl, rfl, rfl⟩ rfl rfl rfl rfl rfl (by kernel_rfl) Tryz.func3 (by kernel_rfl)
    (of_decide_eq_true (by kernel_rfl)) (by unfold Func.isWrapper; first | (rw [if_pos (by decide +kernel)]; kernel_rfl) | (rw [if_neg (by decide +kernel)]; exact ⟨rfl, rfl⟩))
    (fun os started H enc _ => lifted os started H enc)
theorem card_holds : Rows.KeadNamesCardSaid :=
  Claim7.holds_tied_plain_at .later [] [.data, .data, .data, .data, .sentinel, .sentinel, .pinned] true (true, "f1a8ca0e04bf290de7250c8a23b97b6a40d54180e7216309a132cb00d394d4d9") true holds (fun _ h => by cases h) (by kernel_rfl) (fun _ h => by cases h) keadNames_row_tie rfl ⟨rfl, rfl⟩ (by kernel_rfl) rfl
    (fun f fn hf hfn => by
      obtain rfl : f = 3 := Option.some.inj ((show Tryz.prog.funcNamed "glebe/glebelaw21.KeadNames" = some 3 by kernel_rfl).symm.trans hf) |>.symm
      obtain rfl : fn = Tryz.f3 := (Option.some.inj (Tryz.func3.symm.trans hfn)).symm
      exact ⟨by kernel_rfl, fun j t ht => by
        rw [Tryz.params3] at ht
        have hm : t ∈ [3] := by simpa using Array.mem_of_getElem? ht
        have hall : ([3].all fun u => !Tryz.prog.wantsStandIn u) = true := by kernel_rfl
        exact (show Tryz.prog.wantsStandIn t = false by simpa using List.all_eq_true.1 hall t hm)⟩)
    (by kernel_rfl)
end Go.Proofs.YtaomoiphkcbnkaaGreatDoor
