/- The law of this seat holds of every input: a part of the proof (an evaluator that is proved to answer as the model does, and its runs by the kernel). -/
import Derived.Test.YtaomoiphkcbnkaaGreatDoorEvDr4
set_option linter.unusedVariables false
set_option linter.unusedSimpArgs false
section
namespace Go.Ev
variable {P : Program} {E : Env} {ρ : Rho} {σ σ' : St} {w : World} {fv : Operand → AV} {a : Act} {ops : Array Oper} {fr0 fr' : Fr}

theorem looks_operand {o : Oper} {t : Nat} (h : Operand.tmp t ∈ o.op.operands) : t ∈ o.looksAt ops :=
  List.mem_append_left _ (List.mem_filterMap.2 ⟨.tmp t, by simpa using h, rfl⟩)
theorem looks_guard {o : Oper} {j t : Nat} {want : Bool} (h : o.guard = some (j, want)) (hd : (ops[j]?).bind (·.dst) = some t) : t ∈ o.looksAt ops :=
  List.mem_append_right _ (by simp [h, hd])

/-- the model carries out what waits -/
theorem Pend.run {call : CallF} {ord : List DOp} {σ0 : St} {ρ0 : Rho} {w0 : World} {fb : Nat → Option Nat} {pend : List (Nat × Touch)} {x : DOp} {L : Nat → Prop} {frL : Fr} (hE : EnvOK P E) (hC : CallOK P E call) (hO : OrdOK ops ord)
    (hx : Pend E ops ord fr0 fr' σ0 fb pend σ ρ x) (hd : Down ops L) (hsz : ∀ q, L q → q < ops.size) (hxL : ¬ L x.i) (hdeps : ∀ o, ops[x.i]? = some o → ∀ d ∈ depsOf o, L d)
    (hL : FrS ops fr0 fr' L frL) (hf : FrR ρ frL a) (hg : Glob E ρ) (hp : Post ρ0 σ0 w0 ρ σ w) (Q : Exit → Act → World → Prop) (K : Act → World → Prop)
    (hk : ∀ o v v' ρ' w', ops[x.i]? = some o → (∀ d, o.dst = some d → fr'.get d = v ∧ d < fr0.n) → VR ρ' v v' → Post ρ0 σ0 w0 ρ' σ w' → (∀ b y, ρ b = some y → ρ' b = some y) → (∀ b, b < σ.next → fb x.i ≠ some b → ρ' b = ρ b) → K (a.put o.dst v') w') :
    wpOp P ops Q x.i K a w := by
  obtain ⟨pre, post, o, frp, v, h1, h2, h3, h4, h5⟩ := hx
  have hag : ∀ t ∈ o.looksAt ops, frL.get t = frp.get t := fun t ht => (h3.agree hL (looks_settled hO hd h1 h2 hxL (hdeps o h2) hsz ht)).symm
  have hgd : guardOk ops frL o.guard = guardOk ops frp o.guard := guardOk_agree (hL.n.trans h3.n.symm) (fun j want t hj ht => hag t (looks_guard hj ht))
  have hval : ∀ y ∈ o.op.operands, frL.val y = frp.val y := fun y hy => val_agree (fun t e => hag t (looks_operand (by rw [← e]; exact hy))) (hL.g.trans h3.g.symm)
  have hev : ∀ s, evOp E frL.val o.op s = evOp E frp.val o.op s := fun s => evOp_congr hval s
  obtain ⟨s1, s2, s3⟩ := op_step (call := call) hE hC Q K h2 hf hg hp.hr (σ := σ)
  rcases h5 with ⟨g1, rfl⟩ | ⟨g1, g2, g3, g4⟩ | ⟨g1, g2, σp, l, e, g3, g4, g5, g6, g7, g8⟩
  · exact s3 (hgd.trans g1) (hk o _ undef ρ w h2 h4 (.tup .nil) hp (fun _ _ h => h) (fun _ _ _ => rfl))
  · exact s1 v σ (hgd.trans g1) ((hev σ).trans g3) (fun v' ρ' w' hv hq => hk o v v' ρ' w' h2 h4 hv (hp.trans hq) (hq.sub hp.hr) (fun b hb _ => hq.ext b hb))
  · obtain ⟨v2, l2, e2, q1, q2⟩ := fresh_makes hE g2 ((hev σp).trans g3)
    simp at q1
    obtain ⟨q0, q3⟩ := q1
    subst q0
    have hrow : Blk.row l e false = Blk.row l2 e2 false := by
      have := congrArg (fun s : St => s.get σp.next) q3
      simpa [St.get_new] using this
    simp at hrow
    obtain ⟨rfl, rfl⟩ := hrow
    obtain ⟨v', vs, r1, r2, r3⟩ := q2 ρ a w hf.vl
    have hw := guard_sound hf (hgd.trans g1)
    simp only [wpOp, h2, hw, if_true]
    refine .inl ?_
    simp only [Oper.wp, r1, Oper.upon]
    exact hk o v v' _ _ h2 h4 r3 (hp.fill g6 g7 g5 r2) (sub_upR g7 _) (fun b _ hb => by unfold upR; rw [if_neg (fun e => hb (by rw [e]; exact g4))])
end Go.Ev
end
section
namespace Go.Ev
variable {P : Program} {E : Env} {ρ : Rho} {σ σ' : St} {w : World} {fv : Operand → AV} {a : Act} {ops : Array Oper} {fr0 fr' : Fr}

theorem Pend.more {ord : List DOp} {σ0 σ2 : St} {fb fb' : Nat → Option Nat} {pend pend' : List (Nat × Touch)} {x : DOp} (h : Pend E ops ord fr0 fr' σ0 fb pend σ ρ x) (hs : ∀ p ∈ pend, p ∈ pend') (hf : ∀ b, fb x.i = some b → fb' x.i = some b)
    (hg : ∀ b, b < σ.next → σ2.get b = σ.get b) (hpb : ∀ p ∈ pend, p.2.b < σ.next) : Pend E ops ord fr0 fr' σ0 fb' pend' σ2 ρ x := by
  obtain ⟨pre, post, o, frp, v, h1, h2, h3, h4, h5⟩ := h
  refine ⟨pre, post, o, frp, v, h1, h2, h3, h4, ?_⟩
  rcases h5 with h5 | ⟨g1, g2, g3, g4⟩ | ⟨g1, g2, σp, l, e, g3, g4, g5, g6, g7, g8⟩
  · exact .inl h5
  · refine .inr (.inl ⟨g1, g2, ?_, fun t ht => hs _ (g4 t ht)⟩)
    obtain ⟨v', e1, e2⟩ := pure_indep g2 g3
    have : v' = v := by simp at e1; exact e1.symm
    subst this
    exact e2 σ2 (fun t ht => .inl (hg _ (hpb _ (g4 t ht))))
  · exact .inr (.inr ⟨g1, g2, σp, l, e, g3, hf _ g4, (hg _ (hpb _ g8)).trans g5, g6, g7, hs _ g8⟩)

/-- where the evaluator stands, ahead of the model -/
structure Ahead (E : Env) (call : CallF) (ops : Array Oper) (ord : List DOp) (fr0 fr' : Fr) (σ0 σ' : St) (ρ0 : Rho) (w0 : World) (L : Nat → Prop) (done todo : List DOp) (pend : List (Nat × Touch)) (fr : Fr) (σ : St) (fb : Nat → Option Nat) (ρ : Rho) (w : World) : Prop where
  he : ord = done ++ todo
  run : evDraw E call ops todo pend fr σ = some (fr', σ')
  frS : FrS ops fr0 fr' (fun q => ∃ y ∈ done, y.i = q) fr
  wait : ∀ x ∈ done, ¬ L x.i → x.heavy = false ∧ Pend E ops ord fr0 fr' σ0 fb pend σ ρ x
  fbl : ∀ i b, fb i = some b → b < σ.next
  fbi : ∀ i j b, fb i = some b → fb j = some b → i = j
  fbd : ∀ i b, fb i = some b → ∃ x ∈ done, x.i = i
  pb : ∀ p ∈ pend, p.2.b < σ.next
  post : Post ρ0 σ0 w0 ρ σ w

/-- after a step: the frame, and what the rest will not write -/
theorem Ahead.dst {call : CallF} {ord done rest : List DOp} {x : DOp} {o : Oper} {fr1 : Fr} {v : AV} {fr : Fr} {pend1 : List (Nat × Touch)} {σ1 : St} (hO : OrdOK ops ord) (he : ord = done ++ x :: rest) (ho : ops[x.i]? = some o) (hfr : FrS ops fr0 fr' (fun q => ∃ y ∈ done, y.i = q) fr)
    (hp : fr.put o.dst v = some fr1) (hr : evDraw E call ops rest pend1 fr1 σ1 = some (fr', σ')) :
    (∀ d, o.dst = some d → fr'.get d = v ∧ d < fr0.n) ∧ FrS ops fr0 fr' (fun q => ∃ y ∈ done ++ [x], y.i = q) fr1 := by
  have key : ∀ d, o.dst = some d → fr'.get d = v ∧ d < fr0.n := fun d hd => by
    obtain ⟨_, _, h3⟩ := evDraw_final rest _ _ _ _ _ hr
    obtain ⟨_, _, p3, _⟩ := Fr.put_get hp
    refine ⟨(h3 d (fun y hy p hpy e => ?_)).trans (p3 d hd), ?_⟩
    · obtain ⟨r, s, rfl⟩ := List.append_of_mem hy
      obtain ⟨oy, hs⟩ := hO.step (done ++ x :: r) y s (by rw [he]; simp)
      have : oy = p := by have := hs.op; rw [hpy] at this; exact (Option.some.inj this).symm
      subst this
      obtain ⟨_, _, o', ho', h4, _⟩ := hs.other x (by simp)
      rw [ho] at ho'; cases ho'
      exact h4 d hd e
    · unfold Fr.put at hp
      rw [hd] at hp
      simp only at hp
      split at hp
      · rename_i hlt
        rw [← hfr.n]; simpa using hlt
      · cases hp
  refine ⟨key, (hfr.put ho hp (fun d hd => (key d hd).1)).congr (fun q => ?_)⟩
  constructor
  · rintro (⟨y, hy, e⟩ | e)
    · exact ⟨y, List.mem_append_left _ hy, e⟩
    · exact ⟨x, by simp, e.symm⟩
  · rintro ⟨y, hy, e⟩
    rcases List.mem_append.1 hy with h | h
    · exact .inl ⟨y, h, e⟩
    · simp at h; subst h; exact .inr e.symm
end Go.Ev
end
section
namespace Go.Ev
variable {P : Program} {E : Env} {ρ : Rho} {σ σ' : St} {w : World} {fv : Operand → AV} {a : Act} {ops : Array Oper} {fr0 fr' : Fr}

/-- the evaluator goes on to the next heavy operation -/
theorem Ahead.hoist {call : CallF} {ord : List DOp} {σ0 : St} {ρ0 : Rho} {w0 : World} {L : Nat → Prop} (hE : EnvOK P E) (hO : OrdOK ops ord) : ∀ (todo done : List DOp) (pend : List (Nat × Touch)) (fr : Fr) (σ : St) (fb : Nat → Option Nat),
    Ahead E call ops ord fr0 fr' σ0 σ' ρ0 w0 L done todo pend fr σ fb ρ w → ∃ done2 todo2 pend2 fr2 σ2 fb2, Ahead E call ops ord fr0 fr' σ0 σ' ρ0 w0 L done2 todo2 pend2 fr2 σ2 fb2 ρ w ∧ (todo2 = [] ∨ ∃ h t, todo2 = h :: t ∧ h.heavy = true) ∧ (∀ x ∈ todo2, x ∈ todo)
  | [], done, pend, fr, σ, fb, h => ⟨done, [], pend, fr, σ, fb, h, .inl rfl, fun _ h => h⟩
  | x :: rest, done, pend, fr, σ, fb, h => by
    by_cases hh : x.heavy = true
    · exact ⟨done, x :: rest, pend, fr, σ, fb, h, .inr ⟨x, rest, rfl, hh⟩, fun _ h => h⟩
    have hnh : x.heavy = false := by simpa using hh
    have hrun := h.run
    simp only [evDraw] at hrun
    have he2 : ord = (done ++ [x]) ++ rest := by rw [h.he]; simp
    have go : ∀ pend1 fr1 σ1 fb1, Ahead E call ops ord fr0 fr' σ0 σ' ρ0 w0 L (done ++ [x]) rest pend1 fr1 σ1 fb1 ρ w →
        ∃ done2 todo2 pend2 fr2 σ2 fb2, Ahead E call ops ord fr0 fr' σ0 σ' ρ0 w0 L done2 todo2 pend2 fr2 σ2 fb2 ρ w ∧ (todo2 = [] ∨ ∃ h t, todo2 = h :: t ∧ h.heavy = true) ∧ (∀ y ∈ todo2, y ∈ x :: rest) := fun pend1 fr1 σ1 fb1 h1 => by
      obtain ⟨d2, t2, p2, f2, s2, b2, a1, a2, a3⟩ := Ahead.hoist hE hO rest (done ++ [x]) pend1 fr1 σ1 fb1 h1
      exact ⟨d2, t2, p2, f2, s2, b2, a1, a2, fun y hy => List.mem_cons_of_mem _ (a3 y hy)⟩
    split at hrun
    · cases hrun
    rename_i o ho
    rw [nth_eq] at ho
    have ho : ops[x.i]? = some o := by simpa using ho
    split at hrun
    · -- guarded off
      rename_i hgd
      split at hrun
      · rename_i fr1 hp
        obtain ⟨k1, k2⟩ := Ahead.dst hO h.he ho h.frS hp hrun
        refine go pend fr1 σ fb ⟨he2, hrun, k2, fun y hy hyL => ?_, h.fbl, h.fbi, fun i b hb => ?_, h.pb, h.post⟩
        · rcases List.mem_append.1 hy with hy | hy
          · exact h.wait y hy hyL
          · simp at hy; subst hy
            exact ⟨hnh, done, rest, o, fr, .tup [], h.he, ho, h.frS, k1, .inl ⟨hgd, rfl⟩⟩
        · obtain ⟨y, hy, e⟩ := h.fbd i b hb
          exact ⟨y, List.mem_append_left _ hy, e⟩
      · cases hrun
    · rename_i hgd
      rw [if_neg hh] at hrun
      split at hrun
      · -- pure
        rename_i hpu
        split at hrun
        · rename_i v σd hop
          obtain ⟨v2, e1, e2⟩ := pure_indep hpu hop
          simp at e1
          obtain ⟨rfl, rfl⟩ := e1
          split at hrun
          · rename_i fr1 hp
            have fin : ∀ pend1, (∀ p ∈ pend, p ∈ pend1) → (∀ t, touch E fr.val o.op = some t → (x.i, t) ∈ pend1) → (∀ p ∈ pend1, p.2.b < σd.next) → evDraw E call ops rest pend1 fr1 σd = some (fr', σ') →
                ∃ done2 todo2 pend2 fr2 σ2 fb2, Ahead E call ops ord fr0 fr' σ0 σ' ρ0 w0 L done2 todo2 pend2 fr2 σ2 fb2 ρ w ∧ (todo2 = [] ∨ ∃ h t, todo2 = h :: t ∧ h.heavy = true) ∧ (∀ y ∈ todo2, y ∈ x :: rest) := fun pend1 hs ht hb hrun => by
              obtain ⟨k1, k2⟩ := Ahead.dst hO h.he ho h.frS hp hrun
              refine go pend1 fr1 σd fb ⟨he2, hrun, k2, fun y hy hyL => ?_, h.fbl, h.fbi, fun i b hb => ?_, hb, h.post⟩
              · rcases List.mem_append.1 hy with hy | hy
                · obtain ⟨q1, q2⟩ := h.wait y hy hyL
                  exact ⟨q1, q2.more hs (fun _ h => h) (fun _ _ => rfl) h.pb⟩
                · simp at hy; subst hy
                  exact ⟨hnh, done, rest, o, fr, v, h.he, ho, h.frS, k1, .inr (.inl ⟨hgd, hpu, hop, ht⟩)⟩
              · obtain ⟨y, hy, e⟩ := h.fbd i b hb
                exact ⟨y, List.mem_append_left _ hy, e⟩
            split at hrun
            · rename_i t ht
              split at hrun
              · rename_i hlt
                refine fin ((x.i, t) :: pend) (fun p hp => List.mem_cons_of_mem _ hp) (fun u hu => by rw [ht] at hu; cases hu; exact List.mem_cons_self) (fun p hp => ?_) hrun
                rcases List.mem_cons.1 hp with e | hp
                · subst e; simpa using hlt
                · exact h.pb p hp
              · cases hrun
            · rename_i ht
              exact fin pend (fun p hp => hp) (fun u hu => by rw [ht] at hu; cases hu) h.pb hrun
          · cases hrun
        · cases hrun
      · split at hrun
        · -- fresh
          rename_i hfr
          split at hrun
          · rename_i v σ1 hop
            split at hrun
            · rename_i fr1 hp
              obtain ⟨v2, l, e, e1, _⟩ := fresh_makes hE hfr hop
              simp at e1
              obtain ⟨rfl, rfl⟩ := e1
              obtain ⟨k1, k2⟩ := Ahead.dst hO h.he ho h.frS hp hrun
              have hxd : ∀ y ∈ done, y.i ≠ x.i := fun y hy => by
                obtain ⟨_, hs⟩ := hO.step done x rest h.he
                exact (hs.other y hy).1
              refine go ((x.i, ⟨σ.next, 0, none⟩) :: pend) fr1 _ (fun j => if j = x.i then some σ.next else fb j) ⟨he2, hrun, k2, fun y hy hyL => ?_, fun i b hb => ?_, fun i j b hi hj => ?_, fun i b hb => ?_, fun p hp => ?_, h.post.fresh _⟩
              · rcases List.mem_append.1 hy with hy | hy
                · obtain ⟨q1, q2⟩ := h.wait y hy hyL
                  exact ⟨q1, q2.more (fun p hp => List.mem_cons_of_mem _ hp) (fun b hb => by rw [if_neg (hxd y hy)]; exact hb) (fun b hb => by rw [St.get_new, if_neg (by omega)]) h.pb⟩
                · simp at hy; subst hy
                  refine ⟨hnh, done, rest, o, fr, v, h.he, ho, h.frS, k1, .inr (.inr ⟨hgd, hfr, σ, l, e, hop, by simp, by rw [St.get_new, if_pos rfl], h.post.next, h.post.hr.fresh, List.mem_cons_self⟩)⟩
              · show b < σ.next + 1
                split at hb
                · simp at hb; omega
                · have := h.fbl i b hb; omega
              · split at hi <;> split at hj
                · omega
                · have := h.fbl j b hj
                  simp at hi; omega
                · have := h.fbl i b hi
                  simp at hj; omega
                · exact h.fbi i j b hi hj
              · split at hb
                · rename_i hi
                  exact ⟨x, by simp, hi.symm⟩
                · obtain ⟨y, hy, e⟩ := h.fbd i b hb
                  exact ⟨y, List.mem_append_left _ hy, e⟩
              · rcases List.mem_cons.1 hp with e | hp
                · subst e; exact Nat.lt_succ_self _
                · exact Nat.lt_succ_of_lt (h.pb p hp)
            · cases hrun
          · cases hrun
        · cases hrun
    · cases hrun
end Go.Ev
end
section
namespace Go.Ev
variable {P : Program} {E : Env} {ρ : Rho} {σ σ' : St} {w : World} {fv : Operand → AV} {a : Act} {ops : Array Oper} {fr0 fr' : Fr}

def Lst (listed : Array Bool) (q : Nat) : Prop := listed.getD q false = true
theorem Lst.lt {listed : Array Bool} {q : Nat} (h : Lst listed q) : q < listed.size := by
  unfold Lst at h
  rcases Nat.lt_or_ge q listed.size with h' | h'
  · exact h'
  · simp [Array.getElem?_eq_none h'] at h
theorem Lst.set {listed : Array Bool} {i q : Nat} (hi : i < listed.size) : Lst (listed.setIfInBounds i true) q ↔ Lst listed q ∨ q = i := by
  unfold Lst
  by_cases h : i = q
  · subst h; simp [hi]
  · simp [Array.getElem?_setIfInBounds_ne h]
    intro e; exact absurd e.symm h
theorem not_Lst {listed : Array Bool} {q : Nat} (h : q < listed.size) : listed.getD q true = false ↔ ¬ Lst listed q := by
  unfold Lst
  simp [h]
theorem filter_lt {p q : Nat → Bool} : ∀ (l : List Nat) (x : Nat), x ∈ l → (∀ y, q y = true → p y = true) → p x = true → q x = false → (l.filter q).length < (l.filter p).length
  | [], x, h, _, _, _ => by cases h
  | y :: l, x, h, hpq, hp, hq => by
    have hle : ∀ l : List Nat, (l.filter q).length ≤ (l.filter p).length := fun l => by
      induction l with
      | nil => simp
      | cons z l ih =>
        by_cases hz : q z = true
        · simp [hz, hpq z hz]; exact ih
        · simp only [Bool.not_eq_true] at hz
          by_cases hz2 : p z = true
          · simp [hz, hz2]; omega
          · simp [hz, hz2]; exact ih
    rcases List.mem_cons.1 h with e | h
    · subst e
      simp [hp, hq]
      exact Nat.lt_succ_of_le (hle l)
    · have ih := filter_lt l x h hpq hp hq
      by_cases hz : q y = true
      · simp [hz, hpq y hz]; exact ih
      · simp only [Bool.not_eq_true] at hz
        by_cases hz2 : p y = true
        · simp [hz, hz2]; omega
        · simp [hz, hz2]; exact ih
def left (listed : Array Bool) : Nat := ((List.range listed.size).filter fun i => !listed.getD i true).length
theorem left_set {listed : Array Bool} {i : Nat} (hi : i < listed.size) (h : ¬ Lst listed i) : left (listed.setIfInBounds i true) < left listed := by
  unfold left
  rw [Array.size_setIfInBounds]
  refine filter_lt _ i (List.mem_range.2 hi) (fun y hy => ?_) ?_ ?_
  · by_cases e : i = y
    · subst e; simp [hi] at hy
    · simpa [Array.getElem?_setIfInBounds_ne e] using hy
  · have := (not_Lst hi).2 h
    simp only [this]; rfl
  · simp [hi]
/-- where nothing may come up, all has come up -/
theorem ready_nil {ord : List DOp} (hO : OrdOK ops ord) {listed : Array Bool} (hsz : listed.size = ops.size) (hr : Region.ready .any ops listed = []) : ∀ (n : Nat) (pre : List DOp) (x : DOp) (post : List DOp), pre.length = n → ord = pre ++ x :: post → Lst listed x.i := by
  intro n
  induction n using Nat.strongRecOn with
  | _ n ih =>
    intro pre x post hn he
    apply Classical.byContradiction
    intro hx
    obtain ⟨o, hs⟩ := hO.step pre x post he
    have hlt : x.i < listed.size := by rw [hsz]; exact (Array.getElem?_eq_some_iff.1 hs.op).1
    have : x.i ∈ Region.ready .any ops listed := mem_ready.2 ⟨(not_Lst hlt).2 hx, o, hs.op, fun e he' hb => by
      have hd : e.on ∈ depsOf o := List.mem_map.2 ⟨e, List.mem_filter.2 ⟨by simpa using he', hb⟩, rfl⟩
      obtain ⟨y, hy, hyi⟩ := hs.deps _ hd
      obtain ⟨r, s, rfl⟩ := List.append_of_mem hy
      have := ih r.length (by rw [← hn]; simp) r y (s ++ x :: post) rfl (by rw [he]; simp)
      rw [hyi] at this
      exact this⟩
    rw [hr] at this; cases this
end Go.Ev
end
