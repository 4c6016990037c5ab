/- The law of this seat holds of every input: a part of the proof (an evaluator that is proved to answer as the model does, and its runs by the kernel). -/
import Derived.Test.YtaomoiphkcbnkaaGreatDoorEvF9
set_option linter.unusedVariables false
set_option linter.unusedSimpArgs false
namespace Go.Ev
variable {E : Env} {i : FI} {f f' : FS} {σ σ' : St}
theorem T_get_e' (t : Nat) : (T.e : T AV).get t = none := by cases t <;> rfl

def OutR (i : FI) (r : FOut) (s : Option (Out × Fr × St)) : Prop := match r with
  | .no => True
  | .norm ff fs => ∃ fr σ, s = some (.norm, fr, σ) ∧ FfR i ff fr ∧ SR fs σ
  | .exit id ff fs => ∃ fr σ, s = some (.exit id, fr, σ) ∧ FfR i ff fr ∧ SR fs σ
  | .ret ff fs => ∃ fr σ, s = some (.ret, fr, σ) ∧ FfR i ff fr ∧ SR fs σ

theorem loopR_spec {fc : FCall} {body : FCl} {slow : Fr → St → Option (Out × Fr × St)} (hb : ∀ ff fr fs σ, FfR i ff fr → SR fs σ → OutR i (body fc ff fs) (slow fr σ)) :
    ∀ n ff fr fs σ, FfR i ff fr → SR fs σ → OutR i (loopR body n fc ff fs) (loopN slow n fr σ)
  | 0, ff, fr, fs, σ, _, _ => trivial
  | n + 1, ff, fr, fs, σ, hf, h => by
    have e : loopR body (n + 1) fc ff fs = FOut.rec (motive := fun _ => FOut) .no (fun fr' σ' => loopR body n fc fr' σ') (fun i fr' σ' => .exit i fr' σ') (fun fr' σ' => .ret fr' σ') (body fc ff fs) := rfl
    rw [e]
    have := hb ff fr fs σ hf h
    cases hr : body fc ff fs with
    | no => trivial
    | norm ff' fs' =>
      rw [hr] at this
      obtain ⟨fr', σ', h1, h2, h3⟩ := this
      simp only [loopN, h1]
      exact loopR_spec hb n _ _ _ _ h2 h3
    | exit id ff' fs' =>
      rw [hr] at this
      obtain ⟨fr', σ', h1, h2, h3⟩ := this
      simp only [loopN, h1]
      exact ⟨fr', σ', rfl, h2, h3⟩
    | ret ff' fs' =>
      rw [hr] at this
      obtain ⟨fr', σ', h1, h2, h3⟩ := this
      simp only [loopN, h1]
      exact ⟨fr', σ', rfl, h2, h3⟩

theorem cCode_spec (hi : FIOK i) {fc : FCall} {call : CallF} (hcall : CallR fc call) {ords : List (Nat × List DOp)} {k : Nat} : ∀ (c : Code) (cl : FCl), cCode E ords i k c = some cl →
    ∀ ff fr fs σ, FfR i ff fr → SR fs σ → OutR i (cl fc ff fs) (evCode E ords call k c fr σ) := by
  intro c
  induction c with
  | skip => intro cl hcl ff fr fs σ hf h; simp [cCode] at hcl; subst hcl; exact ⟨fr, σ, rfl, hf, h⟩
  | region id ops d =>
    intro cl hcl ff fr fs σ hf h
    simp only [cCode] at hcl
    split at hcl
    · rename_i x hx
      simp at hcl; subst hcl
      have := cReg_spec hi hcall hx hf h
      simp only [evCode]
      cases hr : x fc ff fs with
      | no => trivial
      | norm ff' fs' =>
        rw [hr] at this
        obtain ⟨fr', σ', h1, h2, h3⟩ := this
        exact ⟨fr', σ', by simp only [h1], h2, h3⟩
      | exit id ff' fs' => rw [hr] at this; exact this.elim
      | ret ff' fs' => rw [hr] at this; exact this.elim
    · simp at hcl; subst hcl; trivial
  | seq a b iha ihb =>
    intro cl hcl ff fr fs σ hf h
    simp only [cCode] at hcl
    split at hcl
    · rename_i x y hx hy
      simp at hcl; subst hcl
      have := iha x hx ff fr fs σ hf h
      show OutR i (FOut.rec (motive := fun _ => FOut) .no (fun f' σ' => y fc f' σ') (fun j f' σ' => .exit j f' σ') (fun f' σ' => .ret f' σ') (x fc ff fs)) _
      simp only [evCode]
      cases hr : x fc ff fs with
      | no => trivial
      | norm ff' fs' =>
        rw [hr] at this
        obtain ⟨fr', σ', h1, h2, h3⟩ := this
        simp only [h1]
        exact ihb y hy _ _ _ _ h2 h3
      | exit id ff' fs' =>
        rw [hr] at this
        obtain ⟨fr', σ', h1, h2, h3⟩ := this
        simp only [h1]
        exact ⟨fr', σ', rfl, h2, h3⟩
      | ret ff' fs' =>
        rw [hr] at this
        obtain ⟨fr', σ', h1, h2, h3⟩ := this
        simp only [h1]
        exact ⟨fr', σ', rfl, h2, h3⟩
    · cases hcl
  | cond c a b iha ihb =>
    intro cl hcl ff fr fs σ hf h
    simp only [cCode] at hcl
    split at hcl
    · rename_i g x y hg hx hy
      simp at hcl; subst hcl
      have hv := cO_spec hg hf
      simp only [evCode]
      show OutR i (condF (g ff) (x fc ff fs) (y fc ff fs)) _
      unfold condF
      split
      · rename_i bb hb
        rw [hb] at hv
        rw [← hv]
        cases bb
        · exact ihb y hy _ _ _ _ hf h
        · exact iha x hx _ _ _ _ hf h
      · trivial
    · cases hcl
  | block id a iha =>
    intro cl hcl ff fr fs σ hf h
    simp only [cCode] at hcl
    split at hcl
    · rename_i x hx
      simp at hcl; subst hcl
      have := iha x hx ff fr fs σ hf h
      show OutR i (FOut.rec (motive := fun _ => FOut) .no (fun f' σ' => .norm f' σ') (fun j f' σ' => bc (Nat.beq j id) (.norm f' σ') (.exit j f' σ')) (fun f' σ' => .ret f' σ') (x fc ff fs)) _
      simp only [evCode]
      cases hr : x fc ff fs with
      | no => trivial
      | norm ff' fs' =>
        rw [hr] at this
        obtain ⟨fr', σ', h1, h2, h3⟩ := this
        simp only [h1]
        exact ⟨fr', σ', rfl, h2, h3⟩
      | exit j ff' fs' =>
        rw [hr] at this
        obtain ⟨fr', σ', h1, h2, h3⟩ := this
        simp only [h1]
        show OutR i (bc (Nat.beq j id) (.norm ff' fs') (.exit j ff' fs')) _
        rw [bc_eq]
        split
        · exact ⟨fr', σ', rfl, h2, h3⟩
        · exact ⟨fr', σ', rfl, h2, h3⟩
      | ret ff' fs' =>
        rw [hr] at this
        obtain ⟨fr', σ', h1, h2, h3⟩ := this
        simp only [h1]
        exact ⟨fr', σ', rfl, h2, h3⟩
    · cases hcl
  | loop a iha =>
    intro cl hcl ff fr fs σ hf h
    simp only [cCode] at hcl
    split at hcl
    · rename_i x hx
      simp at hcl; subst hcl
      simp only [evCode]
      exact loopR_spec (fun ff fr fs σ hf h => iha x hx ff fr fs σ hf h) k _ _ _ _ hf h
    · cases hcl
  | exit id => intro cl hcl ff fr fs σ hf h; simp [cCode] at hcl; subst hcl; exact ⟨fr, σ, rfl, hf, h⟩
  | ret => intro cl hcl ff fr fs σ hf h; simp [cCode] at hcl; subst hcl; exact ⟨fr, σ, rfl, hf, h⟩
  | scope a iha => intro cl hcl ff fr fs σ hf h; simp only [cCode] at hcl; simp only [evCode]; exact iha cl hcl _ _ _ _ hf h
  | label _ => intro cl hcl ff fr fs σ hf h; simp [cCode] at hcl; subst hcl; exact ⟨fr, σ, rfl, hf, h⟩
  | _ => intro cl hcl ff fr fs σ hf h; simp [cCode] at hcl; subst hcl; trivial

theorem cRes_spec {ff : F} {fr : Fr} {fs : FS} (hf : FfR i ff fr) (h : SR fs σ) : ∀ (rs : List ResultVar) (r : F → FS → Option (List V)), cRes E i rs = some r → ∀ vs, r ff fs = some vs → resultsOf E fr σ rs = some (V.avs vs)
  | [], r, hr, vs, hv => by
    simp [cRes] at hr; subst hr
    simp at hv; subst hv; rfl
  | .tmp t :: rs, r, hr, vs, hv => by
    simp only [cRes] at hr
    split at hr
    · rename_i r' hr'
      split at hr
      · rename_i ht
        split at hr
        · rename_i g hg
          simp at hr; subst hr
          simp only at hv
          split at hv
          · rename_i vs' hvs
            simp at hv; subst hv
            have := cRes_spec hf h rs r' hr' vs' hvs
            have hx : (g ff).av = fr.get t := by rw [getC_eq _ _ hg]; exact hf.get t ht
            simp only [resultsOf, this, V.avs, hx]
          · cases hv
        · cases hr
      · cases hr
    · cases hr
  | .cell a t :: rs, r, hr, vs, hv => by
    simp only [cRes] at hr
    split at hr
    · rename_i ti r' hti hr'
      split at hr
      · rename_i ha
        split at hr
        · rename_i g hg
          simp at hr; subst hr
          have hx : (g ff).av = fr.get a := by rw [getC_eq _ _ hg]; exact hf.get a ha
          simp only at hv
          split at hv
          · rename_i b o hp
            rw [hp] at hx
            split at hv
            · rename_i vs' hvs
              have := cRes_spec hf h rs r' hr' vs' hvs
              split at hv
              · rename_i hagg
                split at hv
                · rename_i c hc
                  simp at hv; subst hv
                  simp only [resultsOf, ← hx, V.av, hti, this, hagg, if_true, ldNF_spec h hc, V.avs]
                · cases hv
              · rename_i hagg
                split at hv
                · rename_i c hc
                  simp at hv; subst hv
                  simp only [resultsOf, ← hx, V.av, hti, this, hagg, Bool.false_eq_true, if_false, ld1F_spec h hc, V.avs]
                · cases hv
            · cases hv
          · cases hv
        · cases hr
      · cases hr
    · cases hr
theorem scalarF_av (v : V) : scalar v.av = scalarF v := by cases v <;> rfl
theorem plainF_av : ∀ l : List V, allPlain (V.avs l) = plainF l
  | [] => rfl
  | v :: l => by
    have ih := plainF_av l
    have e : plainF (v :: l) = bc (match v with
      | .agg cs => allR scalarF cs
      | x => scalarF x) (plainF l) false := rfl
    have hb : ∀ b c : Bool, bc b c false = (b && c) := fun b c => by cases b <;> rfl
    rw [e, hb, ← ih, V.avs]
    cases v with
    | agg cs =>
      simp only [V.av, allPlain]
      congr 1
      rw [allR_eq, avs_eq, List.all_map]
      congr 1; funext x; exact scalarF_av x
    | _ => rfl
theorem old_nil {n : Nat} {l m : List Nat} (h : ∀ b, b ∈ l ↔ b ∈ m) : (l.filter (Nat.blt · n) = []) ↔ (m.filter (Nat.blt · n) = []) := by
  simp only [List.filter_eq_nil_iff]
  exact ⟨fun hh b hb => hh b ((h b).2 hb), fun hh b hb => hh b ((h b).1 hb)⟩
theorem tidyF_spec {f0 f1 : FS} {σ0 σ1 : St} (h0 : SR f0 σ0) (h1 : SR f1 σ1) (hle : f0.next ≤ f1.next) (vs : List V) : SR (tidyF f0 f1 vs) (tidy σ0 σ1 (V.avs vs)) := by
  unfold tidyF tidy
  rw [oldR_eq, h0.next, plainF_av]
  have hn := old_nil (n := f0.next) h1.log
  split
  · rename_i hf
    split
    · rename_i hs
      rw [bc_eq]
      split
      · refine ⟨h0.next ▸ rfl, h0.log, fun b => ?_⟩
        have hg := h1.get b
        rw [FS.get_def] at hg
        rw [FS.get_def]
        unfold St.get at hg ⊢
        by_cases hb : b < f0.next
        · have hb1 : b < f1.next := by omega
          rw [if_pos hb1] at hg
          rw [if_pos (by rw [h1.next]; simpa using hb1)] at hg
          rw [if_pos hb]
          rw [if_pos (by simpa using hb)]
          exact hg
        · rw [if_neg hb, if_neg (by simpa using hb)]; rfl
      · exact ⟨h1.next, h0.log, h1.get⟩
    · rename_i hne
      exact (hne (hn.2 hf)).elim
  · rename_i hne
    split
    · rename_i hs
      exact (hne (hn.1 hs)).elim
    · refine ⟨h1.next, fun b => ?_, h1.get⟩
      simp only [appN_eq, List.mem_append, List.mem_filter, h1.log, h0.log]
theorem oneV_av (l : List V) : (oneV l).av = oneOf (V.avs l) := by
  match l with
  | [] => simp [oneV, V.av, V.avs, oneOf]
  | [v] => simp [oneV, V.avs, oneOf]
  | v :: w :: l => simp [oneV, V.av, V.avs, oneOf]
theorem getF_e : ∀ p, getF p .e = U
  | [] => rfl
  | [i] => by cases i <;> rfl
  | i :: j :: p => by
    have : chI i .e = .e := by cases i <;> rfl
    simp only [getF, this]
    exact getF_e (j :: p)
theorem argsF_spec (hi : FIOK i) : ∀ (l : List V) (k : Nat) (ff : F) (fr : Fr), FfR i ff fr → k + l.length ≤ i.n → FfR i (argsF i.d l k ff) { t := argsT (V.avs l) k fr.t, n := fr.n, g := fr.g }
  | [], k, ff, fr, hf, _ => hf
  | v :: l, k, ff, fr, hf, hk => by
    have hne : path i.d k ≠ [] := fun e => by have := congrArg List.length e; rw [path_length] at this; have := hi.pos; simp at *; omega
    obtain ⟨s, hs⟩ := setC_some _ hne
    have e : argsF i.d (v :: l) k ff = Option.rec (motive := fun _ => F) .e (fun s => argsF i.d l (k + 1) (s v ff)) (setC (path i.d k)) := rfl
    rw [e, hs]
    have h1 := hf.set hi (show k < i.n by simp at hk; omega) hs v
    exact argsF_spec hi l (k + 1) (s v ff) _ h1 (by simp at hk; omega)
theorem depth_ok {n : Nat} (h : n ≤ 4096) (g : Nat) : FIOK { d := depth n, n := n, g := g } := by
  unfold depth
  refine ⟨?_, ?_⟩
  · show 0 < (if n ≤ 8 then 1 else if n ≤ 64 then 2 else if n ≤ 512 then 3 else 4)
    repeat' split
    all_goals omega
  · show n ≤ 8 ^ (if n ≤ 8 then 1 else if n ≤ 64 then 2 else if n ≤ 512 then 3 else 4)
    repeat' split
    all_goals omega

/-- the tables go together -/
structure TOK (E : Env) (k : Nat) (T : FT) : Prop where
  fn : ∀ h g, T.fn h = some g → cFn E k h = some g
  prim : ∀ h p, T.prim h = some p → ∃ q, E.prim h = some q ∧ ∀ args fs σ v fs', SR fs σ → p args fs = .ok v fs' → ∃ σ', q (V.avs args) σ = some (v.av, σ') ∧ SR fs' σ'
  noprim : ∀ h, T.prim h = none → E.prim h = none

theorem cFn_spec {k d : Nat} {h : Nat} {g : FCall → List V → FS → FV} (hg : cFn E k h = some g) (hp : E.prim h = none) {fc : FCall} (hcall : CallR fc (callN E k d)) {args : List V} {fs fs' : FS} {σ : St} {v : V} (hs : SR fs σ) (hv : g fc args fs = .ok v fs') :
    ∃ σ', callN E k (d + 1) h (V.avs args) σ = some (v.av, σ') ∧ SR fs' σ' := by
  unfold cFn at hg
  split at hg
  · cases hg
  rename_i fi hfi
  split at hg
  rotate_left
  · cases hg
  rename_i hle
  split at hg
  rotate_left
  · cases hg
  rename_i code res hcode hres
  simp at hg; subst hg
  have hi := depth_ok hle E.g
  unfold runFn at hv
  rw [bc_eq] at hv
  split at hv
  rotate_left
  · cases hv
  rename_i hlen
  have hlen' : args.length ≤ fi.ntmps := by rw [lenR_eq] at hlen; simpa using hlen
  have h0 : FfR { d := depth fi.ntmps, n := fi.ntmps, g := E.g } .e { t := .e, n := fi.ntmps, g := E.g } := ⟨rfl, rfl, fun t _ => by rw [getF_e]; simp [Fr.get, T_get_e', U, V.av, V.avs]⟩
  have hf := argsF_spec hi args 0 .e _ h0 (by simpa using hlen')
  have hrun := cCode_spec hi hcall fi.code code hcode _ _ _ _ hf hs.nolog
  have hlenA : Nat.ble (V.avs args).length fi.ntmps = true := by rw [lenR_avs]; exact hlen
  simp only [callN, hp, hfi, hlenA, if_true]
  simp only at hv
  cases hr : code fc (argsF (depth fi.ntmps) args 0 .e) { h := fs.h, next := fs.next, log := [] } with
  | no => rw [hr] at hv; cases hv
  | exit id ff' f1 => rw [hr] at hv; cases hv
  | norm ff' f1 =>
    rw [hr] at hv hrun
    obtain ⟨fr', σ1, b1, b2, b3⟩ := hrun
    simp only [bc_eq] at hv
    split at hv
    · rename_i hnext
      split at hv
      · rename_i vs hvs
        simp at hv; obtain ⟨rfl, rfl⟩ := hv
        refine ⟨tidy σ σ1 (V.avs vs), ?_, tidyF_spec hs b3 (by simpa using hnext) vs⟩
        simp only [b1, cRes_spec b2 b3 _ res hres vs hvs, oneV_av]
      · cases hv
    · cases hv
  | ret ff' f1 =>
    rw [hr] at hv hrun
    obtain ⟨fr', σ1, b1, b2, b3⟩ := hrun
    simp only [bc_eq] at hv
    split at hv
    · rename_i hnext
      split at hv
      · rename_i vs hvs
        simp at hv; obtain ⟨rfl, rfl⟩ := hv
        refine ⟨tidy σ σ1 (V.avs vs), ?_, tidyF_spec hs b3 (by simpa using hnext) vs⟩
        simp only [b1, cRes_spec b2 b3 _ res hres vs hvs, oneV_av]
      · cases hv
    · cases hv
theorem callF_spec {k : Nat} {T : FT} (hT : TOK E k T) : ∀ d, CallR (callF T d) (callN E k d)
  | 0 => fun h args fs σ v fs' _ hv => by cases hv
  | d + 1 => fun h args fs σ v fs' hs hv => by
    have e : callF T (d + 1) h args fs = Option.casesOn (motive := fun _ => FV) (T.prim h)
      (Option.casesOn (motive := fun _ => FV) (T.fn h) .no (fun g => g (callF T d) args fs)) (fun p => p args fs) := rfl
    rw [e] at hv
    cases hp : T.prim h with
    | some p =>
      rw [hp] at hv
      obtain ⟨q, hq, hh⟩ := hT.prim h p hp
      obtain ⟨σ', h1, h2⟩ := hh args fs σ v fs' hs hv
      exact ⟨σ', by simp only [callN, hq, h1], h2⟩
    | none =>
      rw [hp] at hv
      have hn := hT.noprim h hp
      cases hg : T.fn h with
      | none => rw [hg] at hv; cases hv
      | some g =>
        rw [hg] at hv
        exact cFn_spec (hT.fn h g hg) hn (callF_spec hT d) hs hv
end Go.Ev
