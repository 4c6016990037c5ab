/- The law of this seat holds of every input: a part of the proof (an evaluator that is proved to answer as the model does, and its runs by the kernel). -/
import Derived.Test.YtaomoiphkcbnkaaGreatDoorEvDr1
set_option linter.unusedVariables false
set_option linter.unusedSimpArgs false
section
namespace Go.Ev
variable {P : Program} {E : Env} {ρ : Rho} {σ σ' : St} {w : World} {fv : Operand → AV} {a : Act} {ops : Array Oper} {fr0 fr' : Fr}

theorem Fr.put_get {f f1 : Fr} {dst : Option Nat} {v : AV} (h : f.put dst v = some f1) : f1.n = f.n ∧ f1.g = f.g ∧ (∀ t, dst = some t → f1.get t = v) ∧ ∀ t, dst ≠ some t → f1.get t = f.get t := by
  unfold Fr.put at h
  split at h
  · simp at h; subst h
    exact ⟨rfl, rfl, (fun t e => by cases e), fun _ _ => rfl⟩
  · rename_i d
    split at h
    · simp at h; subst h
      refine ⟨rfl, rfl, fun t e => ?_, fun t e => ?_⟩
      · cases e
        simp only [Fr.get, T.get_set, if_true]
      · have : t ≠ d := fun e2 => e (by rw [e2])
        simp only [Fr.get, T.get_set, if_neg this]
    · cases h

/-- a temporary that the operations of a set write -/
def Wr (ops : Array Oper) (S : Nat → Prop) (t : Nat) : Prop := ∃ q o, S q ∧ ops[q]? = some o ∧ o.dst = some t
/-- the frame in which just the operations of a set have been carried out -/
structure FrS (ops : Array Oper) (fr0 fr' : Fr) (S : Nat → Prop) (f : Fr) : Prop where
  n : f.n = fr0.n
  g : f.g = fr0.g
  new : ∀ t, Wr ops S t → f.get t = fr'.get t
  old : ∀ t, ¬ Wr ops S t → f.get t = fr0.get t
theorem FrS.agree {S T : Nat → Prop} {f g : Fr} (h : FrS ops fr0 fr' S f) (k : FrS ops fr0 fr' T g) {t : Nat} (ht : Wr ops S t ↔ Wr ops T t) : f.get t = g.get t := by
  by_cases hw : Wr ops S t
  · rw [h.new t hw, k.new t (ht.1 hw)]
  · rw [h.old t hw, k.old t (fun e => hw (ht.2 e))]
theorem FrS.put {S : Nat → Prop} {f f1 : Fr} {i : Nat} {o : Oper} {v : AV} (h : FrS ops fr0 fr' S f) (ho : ops[i]? = some o) (hp : f.put o.dst v = some f1) (hv : ∀ d, o.dst = some d → fr'.get d = v) :
    FrS ops fr0 fr' (fun q => S q ∨ q = i) f1 := by
  obtain ⟨p1, p2, p3, p4⟩ := Fr.put_get hp
  refine ⟨p1.trans h.n, p2.trans h.g, fun t ht => ?_, fun t ht => ?_⟩
  · by_cases hd : o.dst = some t
    · rw [p3 t hd, hv t hd]
    · rw [p4 t hd]
      obtain ⟨q, p, hq, hp, hpd⟩ := ht
      rcases hq with hq | rfl
      · exact h.new t ⟨q, p, hq, hp, hpd⟩
      · rw [ho] at hp; cases hp
        exact absurd hpd hd
  · have hd : o.dst ≠ some t := fun e => ht ⟨i, o, .inr rfl, ho, e⟩
    rw [p4 t hd]
    exact h.old t (fun ⟨q, p, hq, hp, hpd⟩ => ht ⟨q, p, .inl hq, hp, hpd⟩)
theorem FrS.congr {S T : Nat → Prop} {f : Fr} (h : FrS ops fr0 fr' S f) (hst : ∀ q, S q ↔ T q) : FrS ops fr0 fr' T f := by
  have : S = T := funext fun q => propext (hst q)
  rw [← this]; exact h

/-- what the rest of a run does not write stays as it is -/
theorem evDraw_final {call : CallF} : ∀ (todo : List DOp) (pend : List (Nat × Touch)) (fr : Fr) (σ : St) (fr' : Fr) (σ' : St), evDraw E call ops todo pend fr σ = some (fr', σ') →
    fr'.n = fr.n ∧ fr'.g = fr.g ∧ ∀ t, (∀ x ∈ todo, ∀ o, ops[x.i]? = some o → o.dst ≠ some t) → fr'.get t = fr.get t
  | [], pend, fr, σ, fr', σ', h => by
    simp [evDraw] at h
    obtain ⟨rfl, rfl⟩ := h
    exact ⟨rfl, rfl, fun _ _ => rfl⟩
  | x :: rest, pend, fr, σ, fr', σ', h => by
    have key : ∀ {o : Oper} {v : AV} {fr1 : Fr} {pend1 : List (Nat × Touch)} {σ1 : St}, ops[x.i]? = some o → fr.put o.dst v = some fr1 → evDraw E call ops rest pend1 fr1 σ1 = some (fr', σ') →
        fr'.n = fr.n ∧ fr'.g = fr.g ∧ ∀ t, (∀ y ∈ x :: rest, ∀ o, ops[y.i]? = some o → o.dst ≠ some t) → fr'.get t = fr.get t := fun ho hp hr => by
      obtain ⟨h1, h2, h3⟩ := evDraw_final rest _ _ _ _ _ hr
      obtain ⟨p1, p2, p3, p4⟩ := Fr.put_get hp
      refine ⟨h1.trans p1, h2.trans p2, fun t ht => ?_⟩
      rw [h3 t (fun y hy => ht y (List.mem_cons_of_mem _ hy)), p4 t (ht x List.mem_cons_self _ ho)]
    simp only [evDraw] at h
    split at h
    · cases h
    rename_i o ho
    rw [nth_eq] at ho
    have ho : ops[x.i]? = some o := by simpa using ho
    split at h
    · split at h
      · rename_i hp; exact key ho hp h
      · cases h
    · split at h
      · split at h
        · split at h
          · split at h
            · rename_i hp; exact key ho hp h
            · cases h
          · cases h
        · split at h
          · split at h
            · split at h
              · rename_i hp; exact key ho hp h
              · cases h
            · cases h
          · cases h
        · cases h
      · split at h
        · split at h
          · split at h
            · rename_i hp
              split at h
              · split at h
                · exact key ho hp h
                · cases h
              · exact key ho hp h
            · cases h
          · cases h
        · split at h
          · split at h
            · split at h
              · rename_i hp; exact key ho hp h
              · cases h
            · cases h
          · cases h
    · cases h
theorem val_agree {f g : Fr} {x : Operand} (h : ∀ t, x = .tmp t → f.get t = g.get t) (hg : f.g = g.g) : f.val x = g.val x := by
  cases x with
  | tmp t => exact h t rfl
  | global q => simp only [Fr.val, hg]
  | _ => rfl
theorem guardOk_agree {f g : Fr} {o : Oper} (hn : f.n = g.n) (h : ∀ j want t, o.guard = some (j, want) → ((ops[j]?).bind (·.dst)) = some t → f.get t = g.get t) : guardOk ops f o.guard = guardOk ops g o.guard := by
  cases hg : o.guard with
  | none => rfl
  | some jw =>
    obtain ⟨j, want⟩ := jw
    have key : ∀ p d, nth ops.toList j = some p → p.dst = some d → f.get d = g.get d := fun p d hp hd => by
      rw [nth_eq] at hp
      have hp : ops[j]? = some p := by simpa using hp
      exact h j want d hg (by simp [hp, hd])
    simp only [guardOk, yield]
    cases hp : nth ops.toList j with
    | none => rfl
    | some p =>
      cases hd : p.dst with
      | none => simp [hd]
      | some d => simp only [hd, hn, key p d hp hd]
end Go.Ev
end
section
namespace Go.Ev
variable {P : Program} {E : Env} {ρ : Rho} {σ σ' : St} {w : World} {fv : Operand → AV} {a : Act} {ops : Array Oper} {fr0 fr' : Fr}

theorem StepOK.mono {l m : List DOp} {x : DOp} {o : Oper} (h : StepOK ops l x o) (hl : ∀ y, y ∈ l ↔ y ∈ m) : StepOK ops m x o where
  op := h.op
  deps d hd := let ⟨y, hy, e⟩ := h.deps d hd; ⟨y, (hl y).1 hy, e⟩
  anc q hq := (h.anc q hq).imp id fun ⟨y, hy, e⟩ => ⟨y, (hl y).1 hy, e⟩
  sel := h.sel
  other y hy := h.other y ((hl y).2 hy)

/-- an order that is in order -/
structure OrdOK (ops : Array Oper) (ord : List DOp) : Prop where
  step : ∀ pre x post, ord = pre ++ x :: post → ∃ o, StepOK ops pre x o
  cov : ∀ i, i < ops.size → ∃ y ∈ ord, y.i = i
theorem drawChk_spec {ord : List DOp} (h : drawChk ops ord = true) : OrdOK ops ord := by
  obtain ⟨h1, h2⟩ := ordChk_spec ord [] h
  refine ⟨fun pre x post e => ?_, fun i hi => ?_⟩
  · obtain ⟨o, ho⟩ := h2 pre x post e
    exact ⟨o, ho.mono (fun y => by simp)⟩
  · obtain ⟨y, hy, e⟩ := h1 i hi
    exact ⟨y, by simpa using hy, e⟩

def Down (ops : Array Oper) (L : Nat → Prop) : Prop := ∀ q o, L q → ops[q]? = some o → ∀ d ∈ depsOf o, L d
/-- what must be behind an operation is -/
theorem anc_listed {ord : List DOp} (hO : OrdOK ops ord) {L : Nat → Prop} (hd : Down ops L) : ∀ (n : Nat) (pre : List DOp) (x : DOp) (post : List DOp), pre.length = n → ord = pre ++ x :: post → ∀ o, ops[x.i]? = some o → (∀ d ∈ depsOf o, L d) → ∀ q ∈ x.anc, L q := by
  intro n
  induction n using Nat.strongRecOn with
  | _ n ih =>
    intro pre x post hn he o ho hdeps q hq
    obtain ⟨o', hs⟩ := hO.step pre x post he
    have : o' = o := by have := hs.op; rw [ho] at this; exact (Option.some.inj this).symm
    subst this
    rcases hs.anc q hq with h | ⟨y, hy, h1, h2⟩
    · exact hdeps q h
    · obtain ⟨p1, p2, rfl⟩ := List.append_of_mem hy
      have he' : ord = p1 ++ y :: (p2 ++ x :: post) := by rw [he]; simp
      obtain ⟨oy, hoy⟩ := hO.step p1 y _ he'
      refine ih p1.length (by rw [← hn]; simp) p1 y _ rfl he' oy hoy.op (fun d hd' => hd y.i oy (hdeps _ h1) hoy.op d hd') q h2
theorem ord_inj {ord : List DOp} (hO : OrdOK ops ord) {x y : DOp} (hx : x ∈ ord) (hy : y ∈ ord) (h : x.i = y.i) : x = y := by
  obtain ⟨p, q, rfl⟩ := List.append_of_mem hx
  rcases List.mem_append.1 hy with h1 | h1
  · obtain ⟨o, ho⟩ := hO.step p x q rfl
    exact absurd h.symm (ho.other y h1).1
  · rcases List.mem_cons.1 h1 with h1 | h1
    · exact h1.symm
    · obtain ⟨r, s, rfl⟩ := List.append_of_mem h1
      obtain ⟨o, ho⟩ := hO.step (p ++ x :: r) y s (by simp)
      exact absurd h (ho.other x (by simp)).1
/-- an operation that looks at what another writes: which of the two comes first is settled -/
theorem looks_settled {ord : List DOp} (hO : OrdOK ops ord) {L : Nat → Prop} (hd : Down ops L) {pre post : List DOp} {x : DOp} {o : Oper} (he : ord = pre ++ x :: post) (ho : ops[x.i]? = some o) (hx : ¬ L x.i) (hdeps : ∀ d ∈ depsOf o, L d)
    (hsz : ∀ q, L q → q < ops.size) {t : Nat} (ht : t ∈ o.looksAt ops) : Wr ops (fun q => ∃ y ∈ pre, y.i = q) t ↔ Wr ops L t := by
  constructor
  · rintro ⟨q, p, ⟨y, hy, rfl⟩, hp, hpd⟩
    obtain ⟨o', hs⟩ := hO.step pre x post he
    have : o' = o := by have := hs.op; rw [ho] at this; exact (Option.some.inj this).symm
    subst this
    obtain ⟨_, _, p', hp', _, h1, _⟩ := hs.other y hy
    rw [hp] at hp'; cases hp'
    exact ⟨y.i, p, anc_listed hO hd _ pre x post rfl he _ ho hdeps _ (h1 ⟨t, hpd, ht⟩), hp, hpd⟩
  · rintro ⟨q, p, hq, hp, hpd⟩
    obtain ⟨y, hy, rfl⟩ := hO.cov q (hsz q hq)
    rw [he] at hy
    rcases List.mem_append.1 hy with h1 | h1
    · exact ⟨y.i, p, ⟨y, h1, rfl⟩, hp, hpd⟩
    · rcases List.mem_cons.1 h1 with h1 | h1
      · subst h1; exact absurd hq hx
      · obtain ⟨r, s, rfl⟩ := List.append_of_mem h1
        have he2 : ord = (pre ++ x :: r) ++ y :: s := by rw [he]; simp
        obtain ⟨oy, hs⟩ := hO.step _ y s he2
        have : oy = p := by have := hs.op; rw [hp] at this; exact (Option.some.inj this).symm
        subst this
        obtain ⟨_, _, o', ho', _, _, h2⟩ := hs.other x (by simp)
        rw [ho] at ho'; cases ho'
        exact absurd (anc_listed hO hd _ _ y s rfl he2 _ hp (fun d hd' => hd y.i _ hq hp d hd') _ (h2 ⟨t, hpd, ht⟩)) hx
end Go.Ev
end
section
namespace Go.Ev
variable {P : Program} {E : Env} {ρ : Rho} {σ σ' : St} {w : World} {fv : Operand → AV} {a : Act} {ops : Array Oper} {fr0 fr' : Fr}

def unlog (σ : St) : St := { h := σ.h, next := σ.next, log := [] }
def relog (σ1 σ : St) : St := { h := σ1.h, next := σ1.next, log := σ1.log ++ σ.log }
theorem Post.relog {ρ' : Rho} {σ1 : St} {w' : World} (hp : Post ρ (unlog σ) w ρ' σ1 w') : Post ρ σ w ρ' (relog σ1 σ) w' :=
  ⟨hp.ext, hp.next, hp.hr.same (fun _ => rfl) rfl, ⟨hp.keep.size, hp.keep.os, hp.keep.tape, hp.keep.output, hp.keep.block⟩, hp.img, fun b hb hn => hp.log b hb (fun e => hn (List.mem_append_left _ e)), fun b hb => List.mem_append_right _ hb⟩
theorem HR.unlog (h : HR ρ σ w) : HR ρ (unlog σ) w := h.same (fun _ => rfl) rfl

/-- what the check at a heavy operation says of one that waits -/
theorem apartLog_spec {anc : List Nat} {σ1 : St} : ∀ {pend : List (Nat × Touch)}, apartLog anc σ σ1 pend = true → (∀ b, b < σ.next → b ∉ σ1.log → σ1.get b = σ.get b) → ∀ j t, (j, t) ∈ pend → j ∉ anc → Kept σ σ1 t
  | [], _, _, j, t, h, _ => by cases h
  | (i, u) :: pend, h, hl, j, t, hm, hj => by
    simp only [apartLog, Bool.and_eq_true, Bool.or_eq_true, memN_iff] at h
    rcases List.mem_cons.1 hm with e | hm
    · cases e
      rcases h.1 with h1 | ⟨h1, h2⟩ | h1
      · exact absurd h1 hj
      · refine .inl (hl u.b (by simpa using h1) (fun e => ?_))
        have := (memN_iff σ1.log u.b).2 e
        rw [this] at h2; cases h2
      · unfold sameCells at h1
        split at h1
        · cases h1
        · rename_i n hn
          split at h1
          · rename_i c e r d f s hc hd
            exact .inr ⟨n, hn, c, e, r, d, f, s, hc, hd, eqAVs_eq _ _ h1⟩
          · cases h1
    · exact apartLog_spec h.2 hl j t hm hj

/-- an operation that the evaluator has carried out and the model has not -/
def Pend (E : Env) (ops : Array Oper) (ord : List DOp) (fr0 fr' : Fr) (σ0 : St) (fb : Nat → Option Nat) (pend : List (Nat × Touch)) (σ : St) (ρ : Rho) (x : DOp) : Prop :=
  ∃ pre post o frp v, ord = pre ++ x :: post ∧ ops[x.i]? = some o ∧ FrS ops fr0 fr' (fun q => ∃ y ∈ pre, y.i = q) frp ∧ (∀ d, o.dst = some d → fr'.get d = v ∧ d < fr0.n) ∧
   ((guardOk ops frp o.guard = some false ∧ v = .tup []) ∨
    (guardOk ops frp o.guard = some true ∧ hoistPure E o.op = true ∧ evOp E frp.val o.op σ = some (.val v σ) ∧ ∀ t, touch E frp.val o.op = some t → (x.i, t) ∈ pend) ∨
    (guardOk ops frp o.guard = some true ∧ hoistFresh o.op = true ∧ ∃ σp l e, evOp E frp.val o.op σp = some (.val v (σp.new (.row l e false))) ∧ fb x.i = some σp.next ∧ σ.get σp.next = .row l e false ∧ σ0.next ≤ σp.next ∧ ρ σp.next = none ∧ (x.i, ⟨σp.next, 0, none⟩) ∈ pend))

/-- a heavy operation is carried out: those that wait go on to wait -/
theorem Pend.heavy {ord : List DOp} {σ0 σ1 : St} {fb : Nat → Option Nat} {pend : List (Nat × Touch)} {ρ' : Rho} {w' : World} {x : DOp} {anc : List Nat} (h : Pend E ops ord fr0 fr' σ0 fb pend σ ρ x) (hp : Post ρ (unlog σ) w ρ' σ1 w')
    (ha : apartLog anc σ σ1 pend = true) (hx : x.i ∉ anc) (hfb : ∀ i b, fb i = some b → b < σ.next) : Pend E ops ord fr0 fr' σ0 fb pend (relog σ1 σ) ρ' x := by
  obtain ⟨pre, post, o, frp, v, h1, h2, h3, h4, h5⟩ := h
  have hl : ∀ b, b < σ.next → b ∉ σ1.log → σ1.get b = σ.get b := fun b hb hn => hp.log b hb hn
  refine ⟨pre, post, o, frp, v, h1, h2, h3, h4, ?_⟩
  rcases h5 with h5 | ⟨g1, g2, g3, g4⟩ | ⟨g1, g2, σp, l, e, g3, g4, g5, g6, g7, g8⟩
  · exact .inl h5
  · refine .inr (.inl ⟨g1, g2, ?_, g4⟩)
    obtain ⟨v', e1, e2⟩ := pure_indep g2 g3
    have : v' = v := by simp at e1; exact e1.symm
    subst this
    exact e2 (relog σ1 σ) (fun t ht => by
      have := apartLog_spec ha hl x.i t (g4 t ht) hx
      exact this)
  · have hb := hfb _ _ g4
    refine .inr (.inr ⟨g1, g2, σp, l, e, g3, g4, ?_, g6, ?_, g8⟩)
    · have := apartLog_spec ha hl x.i _ g8 hx
      rcases this with hk | ⟨n, hn, _⟩
      · exact hk.trans g5
      · simp at hn
    · exact (hp.ext _ hb).trans g7
end Go.Ev
end
