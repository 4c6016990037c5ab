/- The law of this seat holds of every input: a part of the proof (an evaluator that is proved to answer as the model does, and its runs by the kernel). -/
import Derived.Test.YtaomoiphkcbnkaaGreatDoorEvEq
import Derived.Orders
import Derived.LoopN
import Derived.Scope
set_option linter.unusedVariables false
set_option linter.unusedSimpArgs false
section
namespace Go.Ev
variable {P : Program} {E : Env} {ρ : Rho} {σ σ' : St} {w : World} {fr : Fr} {a : Act}

def Glob (E : Env) (ρ : Rho) : Prop := ∀ g, g < E.g → ∃ z, ρ g = some (g, 0, z)
/-- what the evaluator says of a call is so -/
def CallSays (P : Program) (E : Env) (f : Nat) (args : List AV) (σ : St) (v : AV) (σ' : St) : Prop :=
  (Bodied P f ∧ ∀ ρ w vs, HR ρ σ w → Glob E ρ → VRL ρ args vs → Calls P f vs.toArray w (fun e w' => ∃ v' ρ', e = .returned v' ∧ VR ρ' v v' ∧ Post ρ σ w ρ' σ' w')) ∨
  (∀ ρ w vs, HR ρ σ w → Glob E ρ → VRL ρ args vs → ∃ v' ρ' w', (callFunc f vs.toArray).run P w = .ok (.value v') w' ∧ VR ρ' v v' ∧ Post ρ σ w ρ' σ' w')
def CallOK (P : Program) (E : Env) (call : CallF) : Prop := ∀ f args σ v σ', call f args σ = some (v, σ') → CallSays P E f args σ v σ'

theorem guard_sound (hf : FrR ρ fr a) {ops : Array Oper} {o : Oper} {b : Bool} (h : guardOk ops fr o.guard = some b) : Region.wanted o (yielded ops a.tmps) = b := by
  unfold guardOk at h
  unfold Region.wanted
  split at h
  · rename_i hg
    simp at h; subst h
    simp [hg]
  · rename_i j want hg
    simp only [hg]
    have key : ∀ d v, a.tmps[d]? = some v → VR ρ (fr.get d) v := fun d v hd => by
      have := hf.val d
      rwa [Array.getD_eq_getD_getElem?, hd] at this
    split at h
    · rename_i b0 hy
      simp at h; subst h
      unfold yield at hy
      split at hy
      · rename_i oj hoj
        rw [nth_eq] at hoj
        have hoj : ops[j]? = some oj := by simpa using hoj
        split at hy
        · rename_i d hd
          split at hy
          · rename_i hdn
            split at hy
            · rename_i b1 hb
              simp at hy; subst hy
              have hds : d < a.tmps.size := by rw [hf.size]; simpa using hdn
              have hv := key d _ (Array.getElem?_eq_getElem hds)
              rw [hb] at hv
              have := hv.inv_bool
              simp [yielded, hoj, hd, Array.getElem?_eq_getElem hds, this]
            · cases hy
          · cases hy
        · cases hy
      · cases hy
    · split at h
      · rename_i oj hoj
        rw [nth_eq] at hoj
        have hoj : ops[j]? = some oj := by simpa using hoj
        split at h
        · rename_i d hd
          split at h
          · rename_i l hl
            simp at h; subst h
            simp only [yielded, hoj, Option.bind_some, hd]
            cases hq : a.tmps[d]? with
            | none => rfl
            | some v =>
              have hv := key d v hq
              rw [hl] at hv
              obtain ⟨vs, rfl, _⟩ := hv.inv_tup
              rfl
          · cases h
        · cases h
      · cases h

/-- one operation of a region, where it is met -/
theorem op_step {call : CallF} {ops : Array Oper} {i : Nat} {o : Oper} (hE : EnvOK P E) (hC : CallOK P E call) (Q : Exit → Act → World → Prop) (K : Act → World → Prop) (ho : ops[i]? = some o) (hf : FrR ρ fr a) (hg : Glob E ρ) (h : HR ρ σ w) :
    (∀ v σ', guardOk ops fr o.guard = some true → evOp E fr.val o.op σ = some (.val v σ') → (∀ v' ρ' w', VR ρ' v v' → Post ρ σ w ρ' σ' w' → K (a.put o.dst v') w') → wpOp P ops Q i K a w) ∧
    (∀ f args v σ', guardOk ops fr o.guard = some true → evOp E fr.val o.op σ = some (.call f args) → call f args σ = some (v, σ') → (∀ v' ρ' w', VR ρ' v v' → Post ρ σ w ρ' σ' w' → K (a.put o.dst v') w') → wpOp P ops Q i K a w) ∧
    (guardOk ops fr o.guard = some false → K (a.put o.dst undef) w → wpOp P ops Q i K a w) := by
  refine ⟨fun v σ' hgd hv hk => ?_, fun f args v σ' hgd hv hc hk => ?_, fun hgd hk => ?_⟩
  · have hw := guard_sound hf hgd
    simp only [wpOp, ho, hw, if_true]
    have hd : Does P o a ρ σ w v σ' := evOp_sound hE hf.vl h hv
    obtain ⟨v', w', ρ', hrun, hvr, hpost⟩ := hd
    refine .inl ?_
    rcases hrun with hrun | ⟨hrun, rfl⟩
    · simp only [Oper.wp, hrun, Oper.upon]
      exact hk v' ρ' w' hvr hpost
    · simp only [Oper.wp, hrun, Oper.upon]
      exact hk undef ρ' w' hvr hpost
  · have hw := guard_sound hf hgd
    simp only [wpOp, ho, hw, if_true]
    have hd : DoesT P o a ρ σ w (.call f args) := evOp_sound hE hf.vl h hv
    obtain ⟨vs, hvs, hrun⟩ := hd
    refine .inl ?_
    rcases hC f args σ v σ' hc with ⟨hbod, hcalls⟩ | hext
    · rw [hbod.run] at hrun
      simp only [Oper.wp, hrun, Oper.upon]
      refine Calls.mono (hcalls ρ w vs h hg hvs) ?_
      rintro e w' ⟨v', ρ', rfl, hvr, hpost⟩
      exact hk v' ρ' w' hvr hpost
    · obtain ⟨v', ρ', w', hx, hvr, hpost⟩ := hext ρ w vs h hg hvs
      rw [hx] at hrun
      simp only [Oper.wp, hrun, Oper.upon]
      exact hk v' ρ' w' hvr hpost
  · have hw := guard_sound hf hgd
    simp only [wpOp, ho, hw]
    simpa using hk

theorem Fr.put_g {fr fr' : Fr} {d : Option Nat} {v : AV} (h : fr.put d v = some fr') : fr'.g = fr.g := by
  unfold Fr.put at h
  split at h
  · simp at h; rw [← h]
  · split at h
    · simp at h; rw [← h]
    · cases h
theorem Glob.post {ρ' : Rho} {w' : World} (hg : Glob E ρ) (h0 : HR ρ σ w) (hp : Post ρ σ w ρ' σ' w') : Glob E ρ' := fun g hl => by
  obtain ⟨z, hz⟩ := hg g hl
  exact ⟨z, hp.sub h0 _ _ hz⟩

theorem evOps_sound {call : CallF} {ops : Array Oper} (hE : EnvOK P E) (hC : CallOK P E call) (Q : Exit → Act → World → Prop) : ∀ (rest : List Oper) (i : Nat) (fr : Fr) (σ : St) (ρ : Rho) (a : Act) (w : World) (fr' : Fr) (σ' : St),
    ops.toList.drop i = rest → evOps E call ops rest fr σ = some (fr', σ') → FrR ρ fr a → Glob E ρ → HR ρ σ w →
    (∀ ρ' a' w', FrR ρ' fr' a' → fr'.g = fr.g → Post ρ σ w ρ' σ' w' → Q .normal a' w') → wpOps P ops Q (List.range' i rest.length) a w
  | [], i, fr, σ, ρ, a, w, fr', σ', _, hv, hf, hg, h, hq => by
    simp [evOps] at hv
    obtain ⟨rfl, rfl⟩ := hv
    exact hq ρ a w hf rfl (.refl h)
  | o :: rest, i, fr, σ, ρ, a, w, fr', σ', hdrop, hv, hf, hg, h, hq => by
    have hi : ops[i]? = some o := by
      have : (ops.toList.drop i)[0]? = some o := by rw [hdrop]; rfl
      rw [List.getElem?_drop] at this
      simpa using this
    have hdrop' : ops.toList.drop (i + 1) = rest := by
      have : (ops.toList.drop i).drop 1 = rest := by rw [hdrop]; rfl
      rwa [List.drop_drop] at this
    rw [List.length_cons, List.range'_succ, wpOps_cons]
    simp only [evOps] at hv
    have hnext : ∀ (fr1 : Fr) (σ1 : St) (v : AV) (v' : Value) (ρ1 : Rho) (w1 : World), fr.put o.dst v = some fr1 → evOps E call ops rest fr1 σ1 = some (fr', σ') → VR ρ1 v v' → Post ρ σ w ρ1 σ1 w1 → wpOps P ops Q (List.range' (i + 1) rest.length) (a.put o.dst v') w1 :=
      fun fr1 σ1 v v' ρ1 w1 hput hev hvr hpost => by
        have hf1 : FrR ρ1 fr1 (a.put o.dst v') := (hf.mono (hpost.sub h)).put hvr hput
        refine evOps_sound hE hC Q rest (i + 1) fr1 σ1 ρ1 _ w1 fr' σ' hdrop' hev hf1 (hg.post h hpost) hpost.hr (fun ρ' a' w' hf' hg' hp' => ?_)
        exact hq ρ' a' w' hf' (hg'.trans (Fr.put_g hput)) (hpost.trans hp')
    obtain ⟨s1, s2, s3⟩ := op_step (call := call) hE hC Q (wpOps P ops Q (List.range' (i + 1) rest.length)) hi hf hg h
    split at hv
    · rename_i hgd
      split at hv
      · rename_i v σ1 hop
        split at hv
        · rename_i fr1 hput
          exact s1 v σ1 hgd hop (fun v' ρ' w' hvr hpost => hnext fr1 σ1 v v' ρ' w' hput hv hvr hpost)
        · cases hv
      · rename_i f args hop
        split at hv
        · rename_i v σ1 hc
          split at hv
          · rename_i fr1 hput
            exact s2 f args v σ1 hgd hop hc (fun v' ρ' w' hvr hpost => hnext fr1 σ1 v v' ρ' w' hput hv hvr hpost)
          · cases hv
        · cases hv
      · cases hv
    · rename_i hgd
      split at hv
      · rename_i fr1 hput
        exact s3 hgd (hnext fr1 σ (.tup []) undef ρ w hput hv (.tup .nil) (.refl h))
      · cases hv
    · cases hv
end Go.Ev
end
section
namespace Go.Ev
variable {P : Program} {E : Env} {ρ : Rho} {σ σ' : St} {w : World} {fr : Fr} {a : Act}

def Out.exitOf : Out → Exit
  | .norm => .normal
  | .exit id => .exit id
  | .ret => .ret

def RegOK (P : Program) (E : Env) (ords : List (Nat × List DOp)) (call : CallF) (id : Nat) (ops : Array Oper) (d : Bool) : Prop := ∀ fr σ fr' σ', evReg E ords call id ops d fr σ = some (fr', σ') → ∀ (Q : Exit → Act → World → Prop) ρ a w, FrR ρ fr a → Glob E ρ → HR ρ σ w →
  (∀ ρ' a' w', FrR ρ' fr' a' → fr'.g = fr.g → Post ρ σ w ρ' σ' w' → Q .normal a' w') → (Code.region id ops d).wp P Q a w

/-- what the evaluator says of a piece of code is so -/
def CodeOK (P : Program) (E : Env) (c : Code) (ev : Fr → St → Option (Out × Fr × St)) : Prop := ∀ fr σ out fr' σ', ev fr σ = some (out, fr', σ') → ∀ (Q : Exit → Act → World → Prop) ρ a w, FrR ρ fr a → Glob E ρ → HR ρ σ w →
  (∀ ρ' a' w', FrR ρ' fr' a' → fr'.g = fr.g → Post ρ σ w ρ' σ' w' → Q out.exitOf a' w') → c.wp P Q a w

theorem loop_sound {c : Code} {ev : Fr → St → Option (Out × Fr × St)} (hc : CodeOK P E c ev) : ∀ (k : Nat), ∀ fr σ out fr' σ', loopN ev k fr σ = some (out, fr', σ') → ∀ (Q : Exit → Act → World → Prop) ρ a w, FrR ρ fr a → Glob E ρ → HR ρ σ w →
    (∀ ρ' a' w', FrR ρ' fr' a' → fr'.g = fr.g → Post ρ σ w ρ' σ' w' → Q out.exitOf a' w') → Code.rounds P c Q k a w
  | 0, fr, σ, out, fr', σ', hv, _, _, _, _, _, _, _, _ => by cases hv
  | k + 1, fr, σ, out, fr', σ', hv, Q, ρ, a, w, hf, hg, h, hq => by
    simp only [loopN] at hv
    split at hv
    · rename_i fr1 σ1 hb
      refine hc fr σ _ fr1 σ1 hb _ ρ a w hf hg h (fun ρ1 a1 w1 hf1 hg1 hp1 => ?_)
      refine loop_sound hc k fr1 σ1 out fr' σ' hv Q ρ1 a1 w1 hf1 (hg.post h hp1) hp1.hr (fun ρ' a' w' hf' hg' hp' => hq ρ' a' w' hf' (hg'.trans hg1) (hp1.trans hp'))
    · rename_i hne
      refine hc fr σ out fr' σ' hv _ ρ a w hf hg h (fun ρ1 a1 w1 hf1 hg1 hp1 => ?_)
      cases out with
      | norm => exact absurd hv (hne _ _)
      | exit id => exact hq ρ1 a1 w1 hf1 hg1 hp1
      | ret => exact hq ρ1 a1 w1 hf1 hg1 hp1

/-- every region of a piece of code -/
def allReg (p : Nat → Array Oper → Bool → Prop) : Code → Prop
  | .region id ops d => p id ops d
  | .seq a b => allReg p a ∧ allReg p b
  | .cond _ a b => allReg p a ∧ allReg p b
  | .block _ a => allReg p a
  | .loop a => allReg p a
  | .scope a => allReg p a
  | _ => True
theorem evCode_sound {ords : List (Nat × List DOp)} {call : CallF} {k : Nat} : ∀ c : Code, allReg (RegOK P E ords call) c → CodeOK P E c (evCode E ords call k c) := by
  intro c
  induction c with
  | skip =>
    intro hR fr σ out fr' σ' hv Q ρ a w hf hg h hq
    simp [evCode] at hv
    obtain ⟨rfl, rfl, rfl⟩ := hv
    exact wp_skip (hq ρ a w hf rfl (.refl h))
  | region id ops d =>
    intro hR fr σ out fr' σ' hv Q ρ a w hf hg h hq
    simp only [evCode] at hv
    split at hv
    · rename_i fr1 σ1 hr
      simp at hv
      obtain ⟨rfl, rfl, rfl⟩ := hv
      exact hR fr σ _ _ hr Q ρ a w hf hg h hq
    · cases hv
  | seq x y ihx ihy =>
    intro hR fr σ out fr' σ' hv Q ρ a w hf hg h hq
    simp only [evCode] at hv
    split at hv
    · rename_i fr1 σ1 hx
      refine wp_seq (ihx hR.1 fr σ _ fr1 σ1 hx _ ρ a w hf hg h (fun ρ1 a1 w1 hf1 hg1 hp1 => ?_))
      exact ihy hR.2 fr1 σ1 out fr' σ' hv Q ρ1 a1 w1 hf1 (hg.post h hp1) hp1.hr (fun ρ' a' w' hf' hg' hp' => hq ρ' a' w' hf' (hg'.trans hg1) (hp1.trans hp'))
    · rename_i hne
      refine wp_seq (ihx hR.1 fr σ out fr' σ' hv _ ρ a w hf hg h (fun ρ1 a1 w1 hf1 hg1 hp1 => ?_))
      cases out with
      | norm => exact absurd hv (hne _ _)
      | exit id => exact hq ρ1 a1 w1 hf1 hg1 hp1
      | ret => exact hq ρ1 a1 w1 hf1 hg1 hp1
  | cond c x y ihx ihy =>
    intro hR fr σ out fr' σ' hv Q ρ a w hf hg h hq
    simp only [evCode] at hv
    have hc := hf.eval c
    split at hv
    · rename_i hcv
      rw [hcv] at hc
      exact wp_cond_true hc.inv_bool (ihx hR.1 fr σ out fr' σ' hv Q ρ a w hf hg h hq)
    · rename_i hcv
      rw [hcv] at hc
      exact wp_cond_false hc.inv_bool (ihy hR.2 fr σ out fr' σ' hv Q ρ a w hf hg h hq)
    · cases hv
  | block id x ih =>
    intro hR fr σ out fr' σ' hv Q ρ a w hf hg h hq
    simp only [evCode] at hv
    split at hv
    · rename_i i fr1 σ1 hx
      refine wp_block (ih hR fr σ _ fr1 σ1 hx _ ρ a w hf hg h (fun ρ1 a1 w1 hf1 hg1 hp1 => ?_))
      split at hv
      · rename_i hi
        simp at hv
        obtain ⟨rfl, rfl, rfl⟩ := hv
        have hi : i = id := by simpa using hi
        simp only [Out.exitOf, Exit.inBlock, hi, if_true]
        exact hq ρ1 a1 w1 hf1 hg1 hp1
      · rename_i hi
        simp at hv
        obtain ⟨rfl, rfl, rfl⟩ := hv
        have hi : i ≠ id := fun e => hi (by simpa using e)
        simp only [Out.exitOf, Exit.inBlock, hi, if_false]
        exact hq ρ1 a1 w1 hf1 hg1 hp1
    · rename_i hne
      refine wp_block (ih hR fr σ out fr' σ' hv _ ρ a w hf hg h (fun ρ1 a1 w1 hf1 hg1 hp1 => ?_))
      cases out with
      | norm => exact hq ρ1 a1 w1 hf1 hg1 hp1
      | exit id => exact absurd hv (hne _ _ _)
      | ret => exact hq ρ1 a1 w1 hf1 hg1 hp1
  | loop x ih =>
    intro hR fr σ out fr' σ' hv Q ρ a w hf hg h hq
    simp only [evCode] at hv
    exact wp_loop_rounds k (loop_sound (ih hR) k fr σ out fr' σ' hv Q ρ a w hf hg h hq)
  | exit id =>
    intro hR fr σ out fr' σ' hv Q ρ a w hf hg h hq
    simp [evCode] at hv
    obtain ⟨rfl, rfl, rfl⟩ := hv
    exact wp_exit (hq ρ a w hf rfl (.refl h))
  | ret =>
    intro hR fr σ out fr' σ' hv Q ρ a w hf hg h hq
    simp [evCode] at hv
    obtain ⟨rfl, rfl, rfl⟩ := hv
    exact wp_ret (hq ρ a w hf rfl (.refl h))
  | scope x ih =>
    intro hR fr σ out fr' σ' hv Q ρ a w hf hg h hq
    simp only [evCode] at hv
    refine wp_scope_straight (ih hR fr σ out fr' σ' hv _ ρ a w hf hg h (fun ρ1 a1 w1 hf1 hg1 hp1 => ?_))
    cases out <;> exact hq ρ1 a1 w1 hf1 hg1 hp1
  | label l =>
    intro hR fr σ out fr' σ' hv Q ρ a w hf hg h hq
    simp [evCode] at hv
    obtain ⟨rfl, rfl, rfl⟩ := hv
    exact wp_label (hq ρ a w hf rfl (.refl h))
  | _ => intro _ fr σ out fr' σ' hv; simp [evCode] at hv
end Go.Ev
end
section
namespace Go.Ev
variable {P : Program} {E : Env} {ρ : Rho} {σ σ' : St} {w : World} {fr : Fr} {a : Act}

/-- the table of functions is the program's -/
structure FnOK (P : Program) (E : Env) : Prop where
  fn : ∀ f fi, E.fn f = some fi → (∃ F, P.funcs[f]? = some F ∧ F.body = some fi.code ∧ F.results.toList = fi.results ∧ F.ntmps = fi.ntmps ∧ (F.name == "runtime.NumGoroutine") = false) ∧ ∀ call, CallOK P E call → allReg (RegOK P E fi.ords call) fi.code
  prim : ∀ f p, E.prim f = some p → ∀ args σ v σ', p args σ = some (v, σ') → CallSays P E f args σ v σ'

theorem argsT_get : ∀ (l : List AV) (i : Nat) (t : T AV) (j : Nat), (argsT l i t).get j = if i ≤ j ∧ j < i + l.length then l[j - i]? else t.get j
  | [], i, t, j => by simp [argsT]; intros; omega
  | v :: l, i, t, j => by
    simp only [argsT]
    rw [argsT_get l (i + 1), T.get_set]
    by_cases h : i + 1 ≤ j ∧ j < i + 1 + l.length
    · rw [if_pos h, if_pos (by simp; omega)]
      rw [show j - i = (j - (i + 1)) + 1 by omega]; simp
    · rw [if_neg h]
      by_cases hj : j = i
      · subst hj; rw [if_pos rfl, if_pos (by simp)]; simp
      · rw [if_neg hj, if_neg (by simp; omega)]
theorem T_get_e (j : Nat) : (T.e : T AV).get j = none := by cases j <;> rfl

theorem args_frame {args : List AV} {vs : List Value} {n : Nat} (hv : VRL ρ args vs) (hn : args.length ≤ n) (hg : Glob E ρ) :
    FrR ρ { t := argsT args 0 .e, n := n, g := E.g } { tmps := vs.toArray ++ Array.replicate (n - vs.toArray.size) undef, defers := [] } := by
  have hlen := hv.length
  refine ⟨by simp; omega, fun t => ?_, rfl, hg⟩
  show VR ρ (match (argsT args 0 .e).get t with | some v => v | none => .tup []) _
  rw [argsT_get, T_get_e]
  by_cases ht : t < args.length
  · rw [if_pos (by omega), Nat.sub_zero, List.getElem?_eq_getElem ht]
    obtain ⟨v', h1, h2⟩ := hv.get t _ (List.getElem?_eq_getElem ht)
    have : (vs.toArray ++ Array.replicate (n - vs.toArray.size) undef).getD t undef = v' := by
      rw [Array.getD_eq_getD_getElem?, Array.getElem?_append_left (by simp; omega)]
      simp [h1]
    rw [this]; exact h2
  · rw [if_neg (by omega)]
    have : (vs.toArray ++ Array.replicate (n - vs.toArray.size) undef).getD t undef = undef := by
      rw [Array.getD_eq_getD_getElem?, Array.getElem?_append_right (by simp; omega)]
      rw [Array.getElem?_replicate]
      split <;> rfl
    rw [this]; exact .tup .nil

/-- only what is old is told of -/
theorem VR.restrict {ρ ρ' : Rho} (hs : ∀ b x, ρ b = some x → ρ' b = some x) : ∀ {v : AV} {u v' : Value}, VR ρ v u → VR ρ' v v' → VR ρ v v' := by
  intro v u v' h
  refine VR.rec (motive_1 := fun v _ _ => ∀ v', VR ρ' v v' → VR ρ v v') (motive_2 := fun l _ _ => ∀ l', VRL ρ' l l' → VRL ρ l l') ?_ ?_ ?_ ?_ ?_ ?_ ?_ ?_ ?_ ?_ ?_ ?_ ?_ ?_ ?_ ?_ ?_ ?_ h v'
  · intro k n v' h; rw [h.inv_int]; exact .int k n
  · intro k m r n hr hm v' h; obtain ⟨n', rfl, h1, h2⟩ := h.inv_low; exact .low h1 h2
  · intro b v' h; rw [h.inv_bool]; exact .bool b
  · intro s v' h
    obtain ⟨b, rfl, hb⟩ := h.inv_str
    rw [← hb]; exact .str b
  · intro v' h; cases h; exact .nilp
  · intro b o B d z hb v' h
    obtain ⟨B', d', z', hb', rfl⟩ := h.inv_ptr
    rw [hs _ _ hb] at hb'
    simp at hb'
    obtain ⟨rfl, rfl, rfl⟩ := hb'
    exact .ptr hb
  · intro v' h; cases h; exact .nils
  · intro b o n c e B d z c' hb hc hn hz v' h
    obtain ⟨B', d', z', c2, hb', hc2, hn2, hz2, rfl⟩ := h.inv_sl
    rw [hs _ _ hb] at hb'
    simp at hb'
    obtain ⟨rfl, rfl, rfl⟩ := hb'
    exact .sl hb hc2 hn2 hz2
  · intro ad c' v' h; cases h; exact .esl
  · intro cs vs h ih v' h'
    obtain ⟨vs', rfl, hvs⟩ := h'.inv_agg
    exact .agg (ih _ hvs)
  · intro cs vs h ih v' h'
    obtain ⟨vs', rfl, hvs⟩ := h'.inv_tup
    exact .tup (ih _ hvs)
  · intro f cs vs h ih v' h'
    cases h' with | fn hvs => exact .fn (ih _ hvs)
  · intro v' h; cases h; exact .nilf
  · intro v' h; cases h; exact .nili
  · intro t v u h ih v' h'
    cases h' with | ifc hv => exact .ifc (ih _ hv)
  · intro u v' _; exact .unk v'
  · intro l' h; cases h; exact .nil
  · intro v u l lu h hl ih ihl l' h'
    cases h' with | cons hv hvl => exact .cons (ih _ hv) (ihl _ hvl)

theorem scalar_any {ρ ρ' : Rho} {v : AV} {v' : Value} (h : VR ρ' v v') (hs : scalar v = true) : VR ρ v v' := by
  cases h <;> simp [scalar] at hs <;> constructor
theorem scalars_any {ρ ρ' : Rho} : ∀ {l : List AV} {l' : List Value}, VRL ρ' l l' → l.all scalar = true → VRL ρ l l'
  | _, _, .nil, _ => .nil
  | _, _, .cons h hl, hs => by
    simp only [List.all_cons, Bool.and_eq_true] at hs
    exact .cons (scalar_any h hs.1) (scalars_any hl hs.2)
theorem plain_any {ρ ρ' : Rho} : ∀ {l : List AV} {l' : List Value}, VRL ρ' l l' → allPlain l = true → VRL ρ l l'
  | [], _, .nil, _ => .nil
  | v :: l, _, .cons h hl, hs => by
    unfold allPlain at hs
    split at hs
    · cases ‹(_ : List AV) = _›
    · rename_i cs vs0 heq
      simp at heq
      obtain ⟨rfl, rfl⟩ := heq
      simp only [Bool.and_eq_true] at hs
      obtain ⟨us, rfl, hus⟩ := h.inv_agg
      exact .cons (.agg (scalars_any hus hs.1)) (plain_any hl hs.2)
    · rename_i heq
      simp at heq
      obtain ⟨rfl, rfl⟩ := heq
      simp only [Bool.and_eq_true] at hs
      exact .cons (scalar_any h hs.1) (plain_any hl hs.2)

theorem get_same {σ σ' : St} (hh : σ.h = σ'.h) (hn : σ.next = σ'.next) (b : Nat) : σ.get b = σ'.get b := by unfold St.get; rw [hh, hn]
theorem HR.same {ρ : Rho} {σ σ' : St} {w : World} (h : HR ρ σ w) (hg : ∀ b, σ'.get b = σ.get b) (hn : σ'.next = σ.next) : HR ρ σ' w where
  dom b x hb := by rw [hn]; exact h.dom b x hb
  row b B d z c e r hb hr := h.row b B d z c e r hb (by rw [← hg]; exact hr)
  iter b B d z s p hb hr := h.iter b B d z s p hb (by rw [← hg]; exact hr)
  lt b B d z hb hl := h.lt b B d z hb (by unfold live at hl ⊢; rw [← hg]; exact hl)
  inj b1 b2 B d1 z1 d2 z2 h1 h2 l1 l2 := h.inj b1 b2 B d1 z1 d2 z2 h1 h2 (by unfold live at l1 ⊢; rw [← hg]; exact l1) (by unfold live at l2 ⊢; rw [← hg]; exact l2)
theorem writable_same {σ σ' : St} {b : Nat} (hg : σ'.get b = σ.get b) : writable σ' b = writable σ b := by unfold writable; rw [hg]
theorem live_same {σ σ' : St} {b : Nat} (hg : σ'.get b = σ.get b) : live σ' b = live σ b := by unfold live; rw [hg]

/-- what a call leaves, tidied -/
theorem tidy_post {ρ ρ' : Rho} {w w' : World} {vs : List AV} {us : List Value} (h : HR ρ σ w) (hp : Post ρ { h := σ.h, next := σ.next, log := [] } w ρ' σ' w') (hv : VRL ρ' vs us) :
    ∃ ρ2, VRL ρ2 vs us ∧ Post ρ σ w ρ2 (tidy σ σ' vs) w' := by
  have hg0 : ∀ b, St.get { h := σ.h, next := σ.next, log := [] } b = σ.get b := fun b => rfl
  have keepNew : ∀ l : List Nat, (∀ b, b < σ.next → b ∉ l ++ σ.log → b ∉ σ'.log) → Post ρ σ w ρ' { h := σ'.h, next := σ'.next, log := l ++ σ.log } w' := fun l hl =>
    ⟨hp.ext, hp.next, hp.hr.same (fun _ => rfl) rfl, ⟨hp.keep.size, hp.keep.os, hp.keep.tape, hp.keep.output, hp.keep.block⟩, hp.img, fun b hb hn => hp.log b hb (hl b hb hn), fun b hb => List.mem_append_right _ hb⟩
  unfold tidy
  split
  · rename_i hl
    have hno : ∀ b, b < σ.next → b ∉ σ'.log := fun b hb hm => by
      have : b ∈ σ'.log.filter (Nat.blt · σ.next) := List.mem_filter.2 ⟨hm, blt_true hb⟩
      rw [hl] at this; cases this
    split
    · rename_i hpl
      refine ⟨ρ, plain_any hv hpl, ?_⟩
      have hget : ∀ b, b < σ.next → St.get { h := σ'.h, next := σ.next, log := σ.log } b = σ'.get b := fun b hb => by
        unfold St.get
        rw [blt_true hb, blt_true (Nat.lt_of_lt_of_le hb hp.next)]
      have hold : ∀ b, b < σ.next → St.get { h := σ'.h, next := σ.next, log := σ.log } b = σ.get b := fun b hb => (hget b hb).trans (hp.log b hb (hno b hb))
      have hlv : ∀ b, live { h := σ'.h, next := σ.next, log := σ.log } b = true → live σ b = true ∧ live σ' b = true := fun b hb => by
        have hbn : b < σ.next := St.get_lt (σ := { h := σ'.h, next := σ.next, log := σ.log }) hb
        exact ⟨by rw [← live_same (hold b hbn)]; exact hb, by rw [← live_same (hget b hbn)]; exact hb⟩
      have hρ : ∀ b x, ρ b = some x → ρ' b = some x := fun b x hb => (hp.ext b (h.dom b x hb)).trans hb
      refine ⟨fun _ _ => rfl, Nat.le_refl _, ⟨fun b x hb => h.dom b x hb, ?_, ?_, fun b B d z hb hl => hp.hr.lt b B d z (hρ _ _ hb) (hlv b hl).2, fun b1 b2 B d1 z1 d2 z2 h1 h2 l1 l2 => h.inj _ _ _ _ _ _ _ h1 h2 (hlv _ l1).1 (hlv _ l2).1⟩,
        ⟨hp.keep.size, hp.keep.os, hp.keep.tape, hp.keep.output, hp.keep.block⟩, ?_, fun b hb _ => hold b hb, fun _ hb => hb⟩
      · intro b B d z cells e ro hb hr
        have hbn := h.dom _ _ hb
        have hr0 := hr
        rw [hold b hbn] at hr0
        rw [hget b hbn] at hr
        obtain ⟨a1, a2, a3⟩ := h.row b B d z cells e ro hb hr0
        obtain ⟨b1, b2, b3⟩ := hp.hr.row b B d z cells e ro (hρ _ _ hb) hr
        refine ⟨fun j v hj => ?_, a2, b3⟩
        obtain ⟨u, _, hu⟩ := a1 j v hj
        obtain ⟨v', c1, c2⟩ := b1 j v hj
        exact ⟨v', c1, VR.restrict hρ hu c2⟩
      · intro b B d z s pos hb hr
        have hbn := h.dom _ _ hb
        rw [hget b hbn] at hr
        exact hp.hr.iter b B d z s pos (hρ _ _ hb) hr
      · intro b B d z hb hw hB
        have hbn := h.dom _ _ hb
        exact ⟨b, d, z, hb, by rw [← writable_same (hold b hbn)]; exact hw⟩
    · exact ⟨ρ', hv, keepNew [] (fun b hb _ => hno b hb)⟩
  · refine ⟨ρ', hv, keepNew _ (fun b hb hn hm => hn (List.mem_append_left _ ?_))⟩
    exact List.mem_filter.2 ⟨hm, blt_true hb⟩

def resV (tmps : Array Value) : ResultVar → Sem Value
  | .tmp t => pure (tmps.getD t undef)
  | .cell ad t => do loadVar t (← asAddr (tmps.getD ad undef))
theorem resV_cell {tmps : Array Value} {ad t : Nat} {A : Addr} (he : tmps.getD ad undef = .pointer (some A)) : (resV tmps (.cell ad t)) = loadVar t A := by
  simp only [resV, he]; rfl
theorem results_rel (hE : EnvOK P E) (hf : FrR ρ fr a) (h : HR ρ σ w) : ∀ (rs : List ResultVar) (vs : List AV), resultsOf E fr σ rs = some vs →
    ∃ us : List Value, VRL ρ vs us ∧ (rs.mapM (resV a.tmps)).run P w = .ok us w
  | [], vs, hv => by simp [resultsOf] at hv; subst hv; exact ⟨[], .nil, by simp⟩
  | .tmp t :: rs, vs, hv => by
    simp only [resultsOf] at hv
    split at hv
    · rename_i vs0 h0
      simp at hv; subst hv
      obtain ⟨us, h1, h2⟩ := results_rel hE hf h rs vs0 h0
      refine ⟨_ :: us, .cons (hf.val t) h1, ?_⟩
      have : (resV a.tmps (.tmp t)).run P w = .ok (a.tmps.getD t undef) w := rfl
      simp only [List.mapM_cons, Sem.run_bind, this, Result.andThen_ok, h2]
      rfl
    · cases hv
  | .cell ad t :: rs, vs, hv => by
    simp only [resultsOf] at hv
    split at hv
    · rename_i b off ti vs0 hb hti h0
      obtain ⟨us, h1, h2⟩ := results_rel hE hf h rs vs0 h0
      have ht := hE.ty _ _ hti
      have hp := hf.val ad
      rw [hb] at hp
      obtain ⟨B, d, z, hρ, he⟩ := hp.inv_ptr
      split at hv
      · rename_i hk
        split at hv
        · rename_i c hc
          simp at hv; subst hv
          obtain ⟨hn, cs, hcs, hr⟩ := ldN_spec h hρ hc
          have hlen : cs.length = ti.size := by rw [← hcs.length]; exact hn
          have hload : (loadCells ⟨B, d + off, none⟩ cs.length).run P w = .ok cs.toArray w := run_loadCells_list (P := P) w ⟨B, d + off, none⟩ cs (rangeAt_cell hr)
          refine ⟨.agg cs.toArray :: us, .cons (.agg hcs) h1, ?_⟩
          have : (resV a.tmps (.cell ad t)).run P w = .ok (.agg cs.toArray) w := by
            rw [resV_cell he]
            simp [loadVar, ht.agg_run, hk, ht.size_run, ← hlen, hload]
          simp only [List.mapM_cons, Sem.run_bind, this, Result.andThen_ok, h2]
          rfl
        · cases hv
      · rename_i hk
        split at hv
        · rename_i c hc
          simp at hv; subst hv
          obtain ⟨v', hr, hc'⟩ := ld1_spec h hρ hc
          refine ⟨v' :: us, .cons hr h1, ?_⟩
          have : (resV a.tmps (.cell ad t)).run P w = .ok v' w := by
            rw [resV_cell he]
            simp [loadVar, ht.agg_run, hk, hc']
          simp only [List.mapM_cons, Sem.run_bind, this, Result.andThen_ok, h2]
          rfl
        · cases hv
    · cases hv
theorem results_run {F : Func} {tmps : Array Value} {us : List Value} (h : (F.results.toList.mapM (resV tmps)).run P w = .ok us w) :
    (results F tmps).run P w = .ok (if h : us.length = 1 then us[0] else .tuple us.toArray) w := by
  have hdef : results F tmps = (do
      let vs ← F.results.mapM (resV tmps)
      pure (if h : vs.size = 1 then vs[0] else .tuple vs)) := rfl
  rw [hdef]
  have hm : (F.results.mapM (resV tmps)).run P w = .ok us.toArray w := by
    rw [Array.mapM_eq_mapM_toList]
    simp only [map_eq_pure_bind, Sem.run_bind, h, Result.andThen_ok]
    rfl
  simp only [Sem.run_bind, hm, Result.andThen_ok]
  by_cases h1 : us.length = 1
  · simp [h1]
  · simp [h1]
theorem oneOf_rel {l : List AV} {us : List Value} (h : VRL ρ l us) : VR ρ (oneOf l) (if h : us.length = 1 then us[0] else .tuple us.toArray) := by
  cases h with
  | nil => exact .tup .nil
  | cons h1 hl =>
    cases hl with
    | nil => simpa [oneOf] using h1
    | cons h2 hl2 =>
      rw [dif_neg (by simp)]
      exact .tup (.cons h1 (.cons h2 hl2))

theorem callN_sound (hE : EnvOK P E) (hF : FnOK P E) (k : Nat) : ∀ d, CallOK P E (callN E k d)
  | 0 => fun f args σ v σ' hv => by cases hv
  | d + 1 => fun f args σ v σ' hv => by
    have ih := callN_sound hE hF k d
    simp only [callN] at hv
    split at hv
    · rename_i p hp
      exact hF.prim f p hp args σ v σ' hv
    split at hv
    · cases hv
    rename_i fi hfi
    obtain ⟨⟨F, hFf, hbody, hres, hnt, hname⟩, hR⟩ := hF.fn f fi hfi
    refine .inl ⟨⟨F, hFf, by rw [hbody]; rfl, hname⟩, fun ρ w vs h hg hvs => ?_⟩
    split at hv
    · rename_i hle
      have hle := ble_le hle
      have hfr := args_frame (E := E) hvs hle hg
      rw [← hnt] at hfr
      refine calls_of_wp hFf hbody ?_
      have h0 : HR ρ { h := σ.h, next := σ.next, log := [] } w := h.same (fun _ => rfl) rfl
      have fin : ∀ out fr1 σ1, (out = .norm ∨ out = .ret) → evCode E fi.ords (callN E k d) k fi.code { t := argsT args 0 .e, n := fi.ntmps, g := E.g } { h := σ.h, next := σ.next, log := [] } = some (out, fr1, σ1) →
          (match resultsOf E fr1 σ1 fi.results with
           | some vs => some (oneOf vs, tidy σ σ1 vs)
           | none => none) = some (v, σ') → fi.code.wp P (bodyPost P F (fun e w' => ∃ v' ρ', e = .returned v' ∧ VR ρ' v v' ∧ Post ρ σ w ρ' σ' w')) { tmps := vs.toArray ++ Array.replicate (F.ntmps - vs.toArray.size) undef, defers := [] } w := by
        intro out fr1 σ1 hout hev hv
        refine evCode_sound fi.code (hR _ ih) _ _ out fr1 σ1 hev _ ρ _ w (by rw [← hnt]; exact hfr) hg h0 (fun ρ1 a1 w1 hf1 _ hp1 => ?_)
        split at hv
        · rename_i rs hrs
          simp at hv
          obtain ⟨rfl, rfl⟩ := hv
          obtain ⟨us, hus, hrun⟩ := results_rel (P := P) hE hf1 hp1.hr fi.results rs hrs
          obtain ⟨ρ2, h2, hpost⟩ := tidy_post h hp1 hus
          have hresults : ∃ u, (results F a1.tmps).run P w1 = .ok u w1 ∧ VR ρ2 (oneOf rs) u := by
            rw [← hres] at hrun
            exact ⟨_, results_run hrun, oneOf_rel h2⟩
          obtain ⟨u, hu1, hu2⟩ := hresults
          rcases hout with rfl | rfl
          · exact ⟨hf1.defers, u, hu1, u, ρ2, rfl, hu2, hpost⟩
          · exact ⟨hf1.defers, u, hu1, u, ρ2, rfl, hu2, hpost⟩
        · cases hv
      split at hv
      · cases hv
      · rename_i out fr1 σ1 hne hev
        refine fin out fr1 σ1 ?_ hev hv
        cases out with
        | norm => exact .inl rfl
        | ret => exact .inr rfl
        | exit id => exact absurd rfl (hne id)
      · cases hv
    · cases hv
end Go.Ev
end
