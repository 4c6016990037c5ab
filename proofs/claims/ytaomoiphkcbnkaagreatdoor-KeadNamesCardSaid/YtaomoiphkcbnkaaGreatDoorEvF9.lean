/- The law of this seat holds of every input: a part of the proof (an evaluator that is proved to answer as the model does, and its runs by the kernel). -/
import Derived.Test.YtaomoiphkcbnkaaGreatDoorEvF8
import Derived.Test.YtaomoiphkcbnkaaGreatDoorEvDr1
set_option linter.unusedVariables false
set_option linter.unusedSimpArgs false
namespace Go.Ev
variable {E : Env} {i : FI} {f f' : FS} {σ σ' : St}

/-- what a closure of a region with a draw does -/
def DOk (E : Env) (i : FI) (ops : Array Oper) (fc : FCall) (call : CallF) (l : List DOp) (cl : DCl) : Prop :=
  ∀ p q ff fr fs σ, PendR l p q → FfR i ff fr → SR fs σ → NormR i (cl p fc ff fs) (evDraw E call ops l q fr σ)

theorem evDraw_step {call : CallF} {ops : Array Oper} {x : DOp} {l : List DOp} {q : FPend} {fr : Fr} {o : Oper} (ho : nth ops.toList x.i = some o) (hg : guardOk ops fr o.guard = some true) :
    evDraw E call ops (x :: l) q fr σ = (if x.heavy then
          match evOp E fr.val o.op { h := σ.h, next := σ.next, log := [] } with
          | some (.val v σ1) =>
            if apartLog x.anc σ σ1 q then match fr.put o.dst v with
              | some fr' => evDraw E call ops l q fr' { h := σ1.h, next := σ1.next, log := σ1.log ++ σ.log }
              | none => none
            else none
          | some (.call f args) => match call f args { h := σ.h, next := σ.next, log := [] } with
            | some (v, σ1) =>
              if apartLog x.anc σ σ1 q then match fr.put o.dst v with
                | some fr' => evDraw E call ops l q fr' { h := σ1.h, next := σ1.next, log := σ1.log ++ σ.log }
                | none => none
              else none
            | none => none
          | none => none
        else if hoistPure E o.op then
          match evOp E fr.val o.op σ with
          | some (.val v _) => match fr.put o.dst v with
            | some fr' => match touch E fr.val o.op with
              | some t => if Nat.blt t.b σ.next then evDraw E call ops l ((x.i, t) :: q) fr' σ else none
              | none => evDraw E call ops l q fr' σ
            | none => none
          | _ => none
        else if hoistFresh o.op then
          match evOp E fr.val o.op σ with
          | some (.val v σ1) => match fr.put o.dst v with
            | some fr' => evDraw E call ops l ((x.i, ⟨σ.next, 0, none⟩) :: q) fr' σ1
            | none => none
          | _ => none
        else none) := by
  conv => lhs; unfold evDraw
  simp only [ho, hg]
  rfl
theorem evDraw_skip {call : CallF} {ops : Array Oper} {x : DOp} {l : List DOp} {q : FPend} {fr fr' : Fr} {o : Oper} (ho : nth ops.toList x.i = some o) (hg : guardOk ops fr o.guard = some false) (hp : fr.put o.dst (.tup []) = some fr') :
    evDraw E call ops (x :: l) q fr σ = evDraw E call ops l q fr' σ := by
  conv => lhs; unfold evDraw
  simp only [ho, hg, hp]

theorem heavyF_spec (hi : FIOK i) {ops : Array Oper} {fc : FCall} {call : CallF} (hcall : CallR fc call) {x : DOp} {l : List DOp} {o : Oper} {c : CO} {put : V → F → F} {rest go : DCl}
    (ho : nth ops.toList x.i = some o) (hx : x.heavy = true) (hc : COk E i o.op c) (hput : cDst i o.dst = some put) (ih : DOk E i ops fc call l rest) (hgo : heavyF x.anc c put rest = some go)
    {p q : FPend} {ff : F} {fr : Fr} {fs : FS} (hg : guardOk ops fr o.guard = some true) (hp : PendR (x :: l) p q) (hf : FfR i ff fr) (h : SR fs σ) : NormR i (go p fc ff fs) (evDraw E call ops (x :: l) q fr σ) := by
  rw [evDraw_step ho hg, if_pos hx]
  have hlog : SR fs { h := σ.h, next := σ.next, log := [] ++ σ.log } := by simpa using h
  cases c with
  | pure g =>
    simp [heavyF] at hgo; subst hgo
    simp only
    rw [bc_eq]
    split
    · rename_i ha
      have := apart_spec h h.nolog hx hp ha
      obtain ⟨fr', h1, h2⟩ := hf.put hi hput (g ff)
      simp only [hc ff fr _ hf, this, if_true, h1]
      exact ih _ _ _ _ _ _ hp.tail h2 hlog
    · trivial
  | part g =>
    simp [heavyF] at hgo; subst hgo
    show NormR i (Option.rec (motive := fun _ => FOut) .no (fun v => bc (apartF x.anc fs { h := fs.h, next := fs.next, log := [] } p) (rest p fc (put v ff) fs) .no) (g ff)) _
    cases hgv : g ff with
    | none => trivial
    | some v =>
      show NormR i (bc (apartF x.anc fs { h := fs.h, next := fs.next, log := [] } p) (rest p fc (put v ff) fs) .no) _
      rw [bc_eq]
      split
      · rename_i ha
        have := apart_spec h h.nolog hx hp ha
        obtain ⟨fr', h1, h2⟩ := hf.put hi hput v
        simp only [hc ff fr _ v hf hgv, this, if_true, h1]
        exact ih _ _ _ _ _ _ hp.tail h2 hlog
      · trivial
  | eff g =>
    simp [heavyF] at hgo; subst hgo
    obtain ⟨a1, a2⟩ := hc ff fr { h := fs.h, next := fs.next, log := [] } { h := σ.h, next := σ.next, log := [] } hf h.nolog
    show NormR i (FR.rec (motive := fun _ => FOut) .no
      (fun v σ1 => bc (apartF x.anc fs σ1 p) (rest p fc (put v ff) { h := σ1.h, next := σ1.next, log := appN σ1.log fs.log }) .no)
      (fun h args => FV.rec (motive := fun _ => FOut) .no (fun v σ1 => bc (apartF x.anc fs σ1 p) (rest p fc (put v ff) { h := σ1.h, next := σ1.next, log := appN σ1.log fs.log }) .no) (fc h args { h := fs.h, next := fs.next, log := [] })) (g ff { h := fs.h, next := fs.next, log := [] })) _
    cases hgv : g ff { h := fs.h, next := fs.next, log := [] } with
    | no => trivial
    | val v f1 =>
      obtain ⟨σ1, b1, b2⟩ := a1 v f1 hgv
      show NormR i (bc (apartF x.anc fs f1 p) (rest p fc (put v ff) { h := f1.h, next := f1.next, log := appN f1.log fs.log }) .no) _
      rw [bc_eq]
      split
      · rename_i ha
        have := apart_spec h b2 hx hp ha
        obtain ⟨fr', h1, h2⟩ := hf.put hi hput v
        simp only [b1, this, if_true, h1]
        exact ih _ _ _ _ _ _ hp.tail h2 (h.relog b2)
      · trivial
    | call hh args =>
      have b0 := a2 hh args hgv
      show NormR i (FV.rec (motive := fun _ => FOut) .no (fun v σ1 => bc (apartF x.anc fs σ1 p) (rest p fc (put v ff) { h := σ1.h, next := σ1.next, log := appN σ1.log fs.log }) .no) (fc hh args { h := fs.h, next := fs.next, log := [] })) _
      cases hcl : fc hh args { h := fs.h, next := fs.next, log := [] } with
      | no => trivial
      | ok v f1 =>
        obtain ⟨σ1, b1, b2⟩ := hcall hh args _ _ v f1 h.nolog hcl
        show NormR i (bc (apartF x.anc fs f1 p) (rest p fc (put v ff) { h := f1.h, next := f1.next, log := appN f1.log fs.log }) .no) _
        rw [bc_eq]
        split
        · rename_i ha
          have := apart_spec h b2 hx hp ha
          obtain ⟨fr', h1, h2⟩ := hf.put hi hput v
          simp only [b0, b1, this, if_true, h1]
          exact ih _ _ _ _ _ _ hp.tail h2 (h.relog b2)
        · trivial

/-- what a record does -/
theorem cRec_spec {j : Nat} {nd : Bool} {op : Op} {go : RecF} (hgo : cRec E i j nd op = some go) {ff : F} {fr : Fr} {fs : FS} (hf : FfR i ff fr) (h : SR fs σ) {c : CO} (hc : cOp E i op = some c) (hev : ∃ v σ1, evOp E fr.val op σ = some (.val v σ1)) (p : FPend) (k : FPend → FOut) :
    go p ff fs k = .no ∨ ∃ p', go p ff fs k = k p' ∧ ((touch E fr.val op = none ∧ p' = p) ∨ ∃ t, touch E fr.val op = some t ∧ Nat.blt t.b σ.next = true ∧ (p' = (j, t) :: p ∨ (p' = p ∧ nd = false))) := by
  have recT_spec : ∀ (t : F → Option Touch), recT j nd t = some go → touch E fr.val op = t ff → go p ff fs k = .no ∨ ∃ p', go p ff fs k = k p' ∧ ((touch E fr.val op = none ∧ p' = p) ∨ ∃ t, touch E fr.val op = some t ∧ Nat.blt t.b σ.next = true ∧ (p' = (j, t) :: p ∨ (p' = p ∧ nd = false))) := by
    intro t ht htt
    simp [recT] at ht; subst ht
    rw [htt]
    cases hx : t ff with
    | none => exact .inr ⟨p, by simp only [hx], .inl ⟨rfl, rfl⟩⟩
    | some x =>
      simp only [hx, bc_eq]
      split
      · rename_i hb
        refine .inr ?_
        rw [h.next]
        cases nd with
        | true => exact ⟨(j, x) :: p, by simp, .inr ⟨x, rfl, hb, .inl rfl⟩⟩
        | false => exact ⟨p, by simp, .inr ⟨x, rfl, hb, .inr ⟨rfl, rfl⟩⟩⟩
      · exact .inl rfl
  unfold cRec at hgo
  split at hgo
  · rename_i t a
    split at hgo
    · rename_i ti g ht hg
      have hx := cO_spec hg hf
      obtain ⟨v, σ1, hv⟩ := hev
      -- the load went well: it reads a block that is there
      have hp : ∃ b o, g ff = .ptr b o := by
        simp only [evOp, ht, ← hx] at hv
        cases hgv : g ff <;> rw [hgv] at hv <;> simp only [V.av] at hv <;> first | exact ⟨_, _, rfl⟩ | cases hv
      obtain ⟨b, o, hp⟩ := hp
      rw [hp] at hx
      have hlt : b < σ.next := by
        refine Nat.lt_of_not_le fun hle => ?_
        have hd : σ.get b = .dead := by
          unfold St.get
          rw [if_neg (by simpa using hle)]
        simp only [evOp, ht, ← hx, V.av] at hv
        split at hv
        · simp only [ldN, hd] at hv; cases hv
        · simp only [ld1, hd, valO] at hv; cases hv
      have htt : touch E fr.val (.load t a) = some ⟨b, o, some (if isAggK ti.k then ti.size else 1)⟩ := by
        simp only [touch, ← hx, V.av, ht]
      cases nd with
      | false =>
        simp [recL] at hgo; subst hgo
        exact .inr ⟨p, rfl, .inr ⟨_, htt, by simpa using hlt, .inr ⟨rfl, rfl⟩⟩⟩
      | true =>
        simp [recL] at hgo; subst hgo
        refine .inr ⟨(j, ⟨b, o, some (if isAggK ti.k then ti.size else 1)⟩) :: p, ?_, .inr ⟨_, htt, by simpa using hlt, .inl rfl⟩⟩
        simp only [hp]
    · cases hgo
  · rename_i t x lo hi mx
    split at hgo
    · rename_i g hg
      have hx := cO_spec hg hf
      refine recT_spec _ hgo ?_
      simp only [touch, ← hx]
      cases g ff <;> rfl
    · cases hgo
  · rename_i s d x
    split at hgo
    · rename_i g hg
      have hx := cO_spec hg hf
      refine recT_spec _ hgo ?_
      simp only [touch, ← hx]
      cases g ff <;> rfl
    · cases hgo
  · rename_i h1 h2 h3
    simp at hgo; subst hgo
    refine .inr ⟨p, rfl, .inl ⟨?_, rfl⟩⟩
    cases op <;> first | rfl | exact absurd rfl (h1 _ _) | exact absurd rfl (h2 _ _ _ _ _) | exact absurd rfl (h3 _ _ _)

theorem cOpD_cases (o : Oper) : (∃ c, cOp E i o.op = some c ∧ cOpD E i o = c) ∨ cOpD E i o = .part fun _ => none := by
  unfold cOpD
  cases h : cOp E i o.op with
  | none => exact .inr rfl
  | some c => exact .inl ⟨c, rfl, rfl⟩

theorem pureF_spec (hi : FIOK i) {ops : Array Oper} {fc : FCall} {call : CallF} {x : DOp} {l : List DOp} {o : Oper} {put : V → F → F} {rest go : DCl} {rec : RecF}
    (ho : nth ops.toList x.i = some o) (hx : x.heavy = false) (hh : hoistPure E o.op = true) (hput : cDst i o.dst = some put) (ih : DOk E i ops fc call l rest) (hrec : cRec E i x.i (needs x.i l) o.op = some rec) (hgo : pureF rec (cOpD E i o) put rest = some go)
    {p q : FPend} {ff : F} {fr : Fr} {fs : FS} (hg : guardOk ops fr o.guard = some true) (hp : PendR (x :: l) p q) (hf : FfR i ff fr) (h : SR fs σ) : NormR i (go p fc ff fs) (evDraw E call ops (x :: l) q fr σ) := by
  rw [evDraw_step ho hg, if_neg (by simp [hx]), if_pos hh]
  rcases cOpD_cases (E := E) (i := i) o with ⟨c, hco, hcd⟩ | hcd
  rotate_left
  · rw [hcd] at hgo
    simp [pureF] at hgo; subst hgo
    trivial
  rw [hcd] at hgo
  have hc := cOp_spec hco
  -- once the value is there
  have fin : ∀ v σ1, evOp E fr.val o.op σ = some (.val v.av σ1) → NormR i (rec p ff fs fun p' => rest p' fc (put v ff) fs) (match evOp E fr.val o.op σ with
          | some (.val v _) => match fr.put o.dst v with
            | some fr' => match touch E fr.val o.op with
              | some t => if Nat.blt t.b σ.next then evDraw E call ops l ((x.i, t) :: q) fr' σ else none
              | none => evDraw E call ops l q fr' σ
            | none => none
          | _ => none) := by
    intro v σ1 hev
    obtain ⟨fr', h1, h2⟩ := hf.put hi hput v
    rcases cRec_spec hrec hf h hco ⟨_, _, hev⟩ p (fun p' => rest p' fc (put v ff) fs) with hno | ⟨p', hk, hcase⟩
    · rw [hno]; trivial
    · rw [hk]
      rcases hcase with ⟨ht, rfl⟩ | ⟨t, ht, hb, hcase⟩
      · simp only [hev, h1, ht]
        exact ih _ _ _ _ _ _ hp.tail h2 h
      · simp only [hev, h1, ht, hb, if_true]
        refine ih _ _ _ _ _ _ ?_ h2 h
        intro e he
        rcases List.mem_cons.1 he with rfl | he
        · rcases hcase with rfl | ⟨rfl, hn⟩
          · exact .inl (List.mem_cons_self ..)
          · exact .inr hn
        · rcases hp.tail e he with hm | hn
          · rcases hcase with rfl | ⟨rfl, _⟩
            · exact .inl (List.mem_cons_of_mem _ hm)
            · exact .inl hm
          · exact .inr hn
  cases c with
  | pure g =>
    simp [pureF] at hgo; subst hgo
    exact fin (g ff) σ (hc ff fr σ hf)
  | part g =>
    simp [pureF] at hgo; subst hgo
    show NormR i (Option.rec (motive := fun _ => FOut) .no (fun v => rec p ff fs fun p' => rest p' fc (put v ff) fs) (g ff)) _
    cases hgv : g ff with
    | none => trivial
    | some v => exact fin v σ (hc ff fr σ v hf hgv)
  | eff g =>
    simp [pureF] at hgo; subst hgo
    show NormR i (FR.rec (motive := fun _ => FOut) .no (fun v _ => rec p ff fs fun p' => rest p' fc (put v ff) fs) (fun _ _ => .no) (g ff fs)) _
    cases hgv : g ff fs with
    | no => trivial
    | val v f1 =>
      obtain ⟨σ1, b1, _⟩ := (hc ff fr fs σ hf h).1 v f1 hgv
      exact fin v σ1 b1
    | call hh args => trivial

theorem freshF_spec (hi : FIOK i) {ops : Array Oper} {fc : FCall} {call : CallF} {x : DOp} {l : List DOp} {o : Oper} {c : CO} {put : V → F → F} {rest go : DCl}
    (ho : nth ops.toList x.i = some o) (hx : x.heavy = false) (hh : hoistPure E o.op = false) (hfr : hoistFresh o.op = true) (hc : COk E i o.op c) (hput : cDst i o.dst = some put) (ih : DOk E i ops fc call l rest) (hgo : freshF x.i (needs x.i l) c put rest = some go)
    {p q : FPend} {ff : F} {fr : Fr} {fs : FS} (hg : guardOk ops fr o.guard = some true) (hp : PendR (x :: l) p q) (hf : FfR i ff fr) (h : SR fs σ) : NormR i (go p fc ff fs) (evDraw E call ops (x :: l) q fr σ) := by
  rw [evDraw_step ho hg, if_neg (by simp [hx]), if_neg (by simp [hh]), if_pos hfr]
  cases c with
  | pure g => simp [freshF] at hgo; subst hgo; trivial
  | part g => simp [freshF] at hgo; subst hgo; trivial
  | eff g =>
    simp [freshF] at hgo; subst hgo
    show NormR i (FR.rec (motive := fun _ => FOut) .no (fun v σ1 => rest (bc (needs x.i l) ((x.i, ⟨fs.next, 0, none⟩) :: p) p) fc (put v ff) σ1) (fun _ _ => .no) (g ff fs)) _
    cases hgv : g ff fs with
    | no => trivial
    | val v f1 =>
      obtain ⟨σ1, b1, b2⟩ := (hc ff fr fs σ hf h).1 v f1 hgv
      obtain ⟨fr', h1, h2⟩ := hf.put hi hput v
      simp only [b1, h1]
      refine ih _ _ _ _ _ _ ?_ h2 b2
      intro e he
      rw [bc_eq]
      rcases List.mem_cons.1 he with rfl | he
      · cases hn : needs x.i l with
        | true => rw [if_pos rfl, h.next]; exact .inl (List.mem_cons_self ..)
        | false => exact .inr rfl
      · rcases hp.tail e he with hm | hn
        · left
          split
          · exact List.mem_cons_of_mem _ hm
          · exact hm
        · exact .inr hn
    | call hh args => trivial

theorem cDraw_spec (hi : FIOK i) {ops : Array Oper} {fc : FCall} {call : CallF} (hcall : CallR fc call) : ∀ (l : List DOp) (cl : DCl), cDraw E i ops.toList l = some cl → DOk E i ops fc call l cl
  | [], cl, hcl => by
    simp [cDraw] at hcl; subst hcl
    intro p q ff fr fs σ hp hf h
    exact ⟨fr, σ, rfl, hf, h⟩
  | x :: l, cl, hcl => by
    simp only [cDraw] at hcl
    split at hcl
    · cases hcl
    rename_i o ho
    split at hcl
    rotate_left
    · cases hcl
    rename_i rest gd put hrest hgd hput
    split at hcl
    rotate_left
    · cases hcl
    rename_i go hgo
    have ih := cDraw_spec hi hcall l rest hrest
    intro p q ff fr fs σ hp hf h
    have hstep : guardOk ops fr o.guard = some true → NormR i (go p fc ff fs) (evDraw E call ops (x :: l) q fr σ) := fun hg => by
      unfold cDOp at hgo
      split at hgo
      · rename_i hx
        exact heavyF_spec hi hcall ho hx (cOpD_spec o) hput ih hgo hg hp hf h
      rename_i hx
      have hx := notT hx
      split at hgo
      · rename_i hh
        split at hgo
        · rename_i rec hrec
          exact pureF_spec hi ho hx hh hput ih hrec hgo hg hp hf h
        · cases hgo
      rename_i hh
      have hh := notT hh
      split at hgo
      · rename_i hfr
        exact freshF_spec hi ho hx hh hfr (cOpD_spec o) hput ih hgo hg hp hf h
      · simp at hgo; subst hgo; trivial
    have hskip : guardOk ops fr o.guard = some false → NormR i (rest p fc (put U ff) fs) (evDraw E call ops (x :: l) q fr σ) := fun hh => by
      obtain ⟨fr', h1, h2⟩ := hf.put hi hput U
      have e : (U : V).av = .tup [] := rfl
      rw [e] at h1
      rw [evDraw_skip ho hh h1]
      exact ih _ _ _ _ _ _ hp.tail h2 h
    rcases cGuard_spec hgd hf with ⟨rfl, hg⟩ | ⟨g, w, rfl, hb, ht⟩
    · simp [guardD] at hcl; subst hcl
      exact hstep hg
    · cases w with
      | true =>
        simp [guardD] at hcl; subst hcl
        exact gdF_spec (fun b e e2 => by subst e2; exact hstep (by simpa using hb _ e)) (fun b e e2 => by subst e2; exact hskip (by simpa using hb _ e)) (fun l e => hskip (ht l e))
      | false =>
        simp [guardD] at hcl; subst hcl
        exact gdN_spec (fun b e e2 => by subst e2; exact hstep (by simpa using hb _ e)) (fun b e e2 => by subst e2; exact hskip (by simpa using hb _ e)) (fun l e => hskip (ht l e))
theorem eqBl_spec {x y : B} (h : eqBl x y = true) : x.blk = y.blk := by
  unfold eqBl at h
  split at h
  · simp only [Bool.and_eq_true] at h
    obtain ⟨h1, h2, h3⟩ := h
    have h2 := Nat.eq_of_beq_eq_true h2
    have h3 := eq_of_beq h3
    subst h2; subst h3
    simp only [B.blk, eqAVs_eq _ _ (eqVs_spec _ _ h1)]
  · simp only [Bool.and_eq_true] at h
    obtain ⟨⟨h1, h4⟩, h2, h3⟩ := h
    have h1 := Nat.eq_of_beq_eq_true h1
    have h4 := Nat.eq_of_beq_eq_true h4
    have h2 := Nat.eq_of_beq_eq_true h2
    have h3 := eq_of_beq h3
    subst h1; subst h4; subst h2; subst h3
    rfl
  · cases h
theorem sameB_spec {f1 f2 : FS} {σ1 σ2 : St} {x : Operand} {g : F → V} (hx : cO i x = some g) {ff : F} {fr : Fr} (hf : FfR i ff fr) (h1 : SR f1 σ1) (h2 : SR f2 σ2) (hs : sameB (g ff) f1 f2 = true) : sameAt fr x σ1 σ2 := by
  have hv := cO_spec hx hf
  unfold sameB at hs
  unfold sameAt
  split at hs
  · rename_i b o hb
    rw [hb] at hv
    rw [← hv]
    simp only [V.av]
    rw [h1.get, h2.get, eqBl_spec hs]
  · cases hs
theorem cReg_spec (hi : FIOK i) {ops : Array Oper} {fc : FCall} {call : CallF} (hcall : CallR fc call) {ords : List (Nat × List DOp)} {id : Nat} {d : Bool} {cl : FCl} (hcl : cReg E ords i id ops d = some cl) {ff : F} {fr : Fr} {fs : FS} (hf : FfR i ff fr) (h : SR fs σ) :
    NormR i (cl fc ff fs) (evReg E ords call id ops d fr σ) := by
  unfold cReg at hcl
  cases d with
  | false => exact cOps_spec hi hcall ops.toList cl hcl _ _ _ _ hf h
  | true =>
    simp only at hcl
    split at hcl
    rotate_left
    · cases hcl
    rename_i l hl
    split at hcl
    rotate_left
    · cases hcl
    rename_i g hg
    have r1 := cDraw_spec hi hcall l g hg [] [] _ _ _ _ (fun e he => by cases he) hf h
    split at hcl
    · rename_i hl2
      simp at hcl; subst hcl
      simp only [evReg, hl, hl2]
      exact r1
    · rename_i m hl2
      split at hcl
      rotate_left
      · cases hcl
      rename_i x y g2 ht hg2
      split at hcl
      rotate_left
      · cases hcl
      rename_i gx gy hgx hgy
      simp at hcl; subst hcl
      have r2 := cDraw_spec hi hcall m g2 hg2 [] [] _ _ _ _ (fun e he => by cases he) hf h
      show NormR i (FOut.rec (motive := fun _ => FOut) .no (fun f1 σ1 => FOut.rec (motive := fun _ => FOut) .no (fun _ σ2 => bc (sameB (gx f1) σ1 σ2) (bc (sameB (gy f1) σ1 σ2) (.norm f1 σ1) .no) .no) (fun _ _ _ => .no) (fun _ _ => .no) (g2 [] fc ff fs)) (fun _ _ _ => .no) (fun _ _ => .no) (g [] fc ff fs)) _
      cases h1 : g [] fc ff fs with
      | no => trivial
      | exit id f1 s1 => trivial
      | ret f1 s1 => trivial
      | norm f1 s1 =>
        rw [h1] at r1
        obtain ⟨fr1, σ1, a1, a2, a3⟩ := r1
        show NormR i (FOut.rec (motive := fun _ => FOut) .no (fun _ σ2 => bc (sameB (gx f1) s1 σ2) (bc (sameB (gy f1) s1 σ2) (.norm f1 s1) .no) .no) (fun _ _ _ => .no) (fun _ _ => .no) (g2 [] fc ff fs)) _
        cases h2 : g2 [] fc ff fs with
        | no => trivial
        | exit id f2 s2 => trivial
        | ret f2 s2 => trivial
        | norm f2 s2 =>
          rw [h2] at r2
          obtain ⟨fr2, σ2, b1, b2, b3⟩ := r2
          show NormR i (bc (sameB (gx f1) s1 s2) (bc (sameB (gy f1) s1 s2) (.norm f1 s1) .no) .no) _
          rw [bc_eq, bc_eq]
          split
          · rename_i sx
            split
            · rename_i sy
              refine ⟨fr1, σ1, ?_, a2, a3⟩
              simp only [evReg, hl, hl2, evTwin, ht, a1, b1]
              rw [if_pos ⟨sameB_spec hgx a2 a3 b3 sx, sameB_spec hgy a2 a3 b3 sy⟩]
            · trivial
          · trivial
end Go.Ev
