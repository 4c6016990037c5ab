/- The law of this seat holds of every input: a part of the proof (an evaluator that is proved to answer as the model does, and its runs by the kernel). -/
import Derived.Test.YtaomoiphkcbnkaaGreatDoorEvDr7
set_option linter.unusedVariables false
set_option linter.unusedSimpArgs false
namespace Go.Ev
variable {P : Program} {E : Env} {ρ : Rho} {σ σ' : St} {w : World} {fv : Operand → AV} {a : Act} {ops : Array Oper} {fr0 fr' : Fr}

theorem put_some {f : Fr} {dst : Option Nat} (v : AV) (h : ∀ d, dst = some d → d < f.n) : ∃ f1, f.put dst v = some f1 := by
  unfold Fr.put
  cases dst with
  | none => exact ⟨f, rfl⟩
  | some d =>
    simp only
    rw [if_pos (by simpa using h d rfl)]
    exact ⟨_, rfl⟩
theorem Down.set {listed : Array Bool} {i : Nat} {o : Oper} (hi : i < listed.size) (ho : ops[i]? = some o) (hd : Down ops (Lst listed)) (hdeps : ∀ d ∈ depsOf o, Lst listed d) : Down ops (Lst (listed.setIfInBounds i true)) := by
  intro q p hq hp d hd'
  rw [Lst.set hi] at hq ⊢
  rcases hq with hq | rfl
  · exact .inl (hd q p hq hp d hd')
  · rw [ho] at hp; cases hp
    exact .inl (hdeps d hd')
theorem FrS.set {listed : Array Bool} {i : Nat} {o : Oper} {f f1 : Fr} {v : AV} (hi : i < listed.size) (h : FrS ops fr0 fr' (Lst listed) f) (ho : ops[i]? = some o) (hp : f.put o.dst v = some f1) (hv : ∀ d, o.dst = some d → fr'.get d = v) :
    FrS ops fr0 fr' (Lst (listed.setIfInBounds i true)) f1 := (h.put ho hp hv).congr (fun q => (Lst.set hi).symm)

theorem Pend.rho {ord : List DOp} {σ0 : St} {fb : Nat → Option Nat} {pend : List (Nat × Touch)} {x : DOp} {ρ' : Rho} (h : Pend E ops ord fr0 fr' σ0 fb pend σ ρ x) (hr : ∀ b, fb x.i = some b → ρ' b = ρ b) : Pend E ops ord fr0 fr' σ0 fb pend σ ρ' x := by
  obtain ⟨pre, post, o, frp, v, h1, h2, h3, h4, h5⟩ := h
  refine ⟨pre, post, o, frp, v, h1, h2, h3, h4, ?_⟩
  rcases h5 with h5 | h5 | ⟨g1, g2, σp, l, e, g3, g4, g5, g6, g7, g8⟩
  · exact .inl h5
  · exact .inr (.inl h5)
  · exact .inr (.inr ⟨g1, g2, σp, l, e, g3, g4, g5, g6, (hr _ g4).trans g7, g8⟩)
theorem draw_main {call : CallF} {ord : List DOp} {σ0 : St} {ρ0 : Rho} {w0 : World} {Q : Exit → Act → World → Prop} (hE : EnvOK P E) (hC : CallOK P E call) (hO : OrdOK ops ord) (hn : fr'.n = fr0.n ∧ fr'.g = fr0.g)
    (hQ : ∀ ρ' a' w', FrR ρ' fr' a' → fr'.g = fr0.g → Post ρ0 σ0 w0 ρ' σ' w' → Q .normal a' w') : ∀ (fuel : Nat) (listed : Array Bool) (a : Act) (w : World) (ρ : Rho) (frL : Fr) (done todo : List DOp) (pend : List (Nat × Touch)) (fr : Fr) (σ : St) (fb : Nat → Option Nat),
    left listed ≤ fuel → listed.size = ops.size → Ahead E call ops ord fr0 fr' σ0 σ' ρ0 w0 (Lst listed) done todo pend fr σ fb ρ w → (todo = [] ∨ ∃ h t, todo = h :: t ∧ h.heavy = true) → (∀ x ∈ todo, ¬ Lst listed x.i) → Down ops (Lst listed) →
    FrS ops fr0 fr' (Lst listed) frL → FrR ρ frL a → Glob E ρ → wpAny P .any ops Q fuel listed a w := by
  have fin : ∀ (listed : Array Bool) (a : Act) (w : World) (ρ : Rho) (frL : Fr) (done todo : List DOp) (pend : List (Nat × Touch)) (fr : Fr) (σ : St) (fb : Nat → Option Nat), listed.size = ops.size → Ahead E call ops ord fr0 fr' σ0 σ' ρ0 w0 (Lst listed) done todo pend fr σ fb ρ w → (∀ x ∈ todo, ¬ Lst listed x.i) →
      FrS ops fr0 fr' (Lst listed) frL → FrR ρ frL a → Region.ready .any ops listed = [] → Q .normal a w := by
    intro listed a w ρ frL done todo pend fr σ fb hsz hA htd hL hf hr
    have hall : ∀ x ∈ ord, Lst listed x.i := fun x hx => by
      obtain ⟨p, s, e⟩ := List.append_of_mem hx
      exact ready_nil hO hsz hr _ p x s rfl e
    have h0 : todo = [] := by
      cases todo with
      | nil => rfl
      | cons x t => exact absurd (hall x (by rw [hA.he]; simp)) (htd x List.mem_cons_self)
    subst h0
    have hrun := hA.run
    simp [evDraw] at hrun
    obtain ⟨rfl, rfl⟩ := hrun
    have hw : ∀ t, Wr ops (Lst listed) t ↔ Wr ops (fun q => ∃ y ∈ done, y.i = q) t := fun t => by
      constructor
      · rintro ⟨q, p, hq, hp, hpd⟩
        obtain ⟨y, hy, e⟩ := hO.cov q (by rw [← hsz]; exact hq.lt)
        exact ⟨q, p, ⟨y, by rw [hA.he] at hy; simpa using hy, e⟩, hp, hpd⟩
      · rintro ⟨q, p, ⟨y, hy, e⟩, hp, hpd⟩
        exact ⟨q, p, by rw [← e]; exact hall y (by rw [hA.he]; simpa using hy), hp, hpd⟩
    have hget : ∀ t, frL.get t = fr.get t := fun t => hL.agree hA.frS (hw t)
    exact hQ ρ a w ⟨hf.size.trans (hL.n.trans hn.1.symm), fun t => by rw [← hget]; exact hf.val t, hf.defers, fun g hg => hf.glob g (by rw [hL.g, ← hn.2]; exact hg)⟩ hn.2 hA.post
  intro fuel
  induction fuel with
  | zero =>
    intro listed a w ρ frL done todo pend fr σ fb hle hsz hA hh htd hd hL hf hg
    have hr : Region.ready .any ops listed = [] := by
      cases hq : Region.ready .any ops listed with
      | nil => rfl
      | cons i l =>
        have hi : i ∈ Region.ready .any ops listed := by rw [hq]; exact List.mem_cons_self
        obtain ⟨h0, o, ho, _⟩ := mem_ready.1 hi
        have hlt : i < listed.size := by rw [hsz]; exact (Array.getElem?_eq_some_iff.1 ho).1
        have := left_set hlt ((not_Lst hlt).1 h0)
        omega
    exact ⟨hr, fin listed a w ρ frL done todo pend fr σ fb hsz hA htd hL hf hr⟩
  | succ fuel ih =>
    intro listed a w ρ frL done todo pend fr σ fb hle hsz hA hh htd hd hL hf hg
    refine ⟨fun hr => fin listed a w ρ frL done todo pend fr σ fb hsz hA htd hL hf hr, fun i hi => ?_⟩
    obtain ⟨h0, o, ho, hall⟩ := mem_ready.1 hi
    have hlt : i < listed.size := by rw [hsz]; exact (Array.getElem?_eq_some_iff.1 ho).1
    have hnL : ¬ Lst listed i := (not_Lst hlt).1 h0
    have hdeps : ∀ d ∈ depsOf o, Lst listed d := fun d hd' => by
      obtain ⟨e, he, rfl⟩ := List.mem_map.1 hd'
      obtain ⟨he1, he2⟩ := List.mem_filter.1 he
      exact hall e (by simpa using he1) he2
    have hsz' : (listed.setIfInBounds i true).size = ops.size := by rw [Array.size_setIfInBounds]; exact hsz
    have hleft : left (listed.setIfInBounds i true) ≤ fuel := by have := left_set hlt hnL; omega
    have hdn := Down.set hlt ho hd hdeps
    obtain ⟨x, hx, rfl⟩ := hO.cov i (by rw [← hsz]; exact hlt)
    have hx0 := hx
    rw [hA.he] at hx
    rcases List.mem_append.1 hx with hxd | hxt
    · -- one that waits
      refine (hA.wait x hxd hnL).2.run hE hC hO hd (fun q hq => by rw [← hsz]; exact hq.lt) hnL (fun p hp => by rw [ho] at hp; cases hp; exact hdeps) hL hf hg hA.post Q _ (fun o' v v' ρ' w' ho' hv hvr hpost hsub hext => ?_)
      rw [ho] at ho'; cases ho'
      obtain ⟨frL1, hput⟩ := put_some (f := frL) v (fun d hd' => by rw [hL.n]; exact (hv d hd').2)
      refine ih _ _ w' ρ' frL1 done todo pend fr σ fb hleft hsz' ⟨hA.he, hA.run, hA.frS, fun y hy hyL => ?_, hA.fbl, hA.fbi, hA.fbd, hA.pb, hpost⟩ hh (fun y hy e => ?_) hdn (hL.set hlt ho hput (fun d hd' => (hv d hd').1)) ((hf.mono hsub).put hvr hput) (fun g hg' => (hg g hg').imp fun z hz => hsub _ _ hz)
      · rw [Lst.set hlt] at hyL
        obtain ⟨q1, q2⟩ := hA.wait y hy (fun e => hyL (.inl e))
        exact ⟨q1, q2.rho (fun b hb => hext b (hA.fbl _ _ hb) (fun e => hyL (.inr (hA.fbi _ _ _ hb e))))⟩
      · rw [Lst.set hlt] at e
        rcases e with e | e
        · exact htd y hy e
        · have := ord_inj hO (x := y) (y := x) (by rw [hA.he]; exact List.mem_append_right _ hy) hx0 e
          subst this
          obtain ⟨r, s, rfl⟩ := List.append_of_mem hy
          obtain ⟨oo, hs⟩ := hO.step (done ++ r) y s (by rw [hA.he]; simp)
          exact (hs.other y (List.mem_append_left _ hxd)).1 rfl
    · rcases hh with e0 | ⟨h, t, e0, hheavy⟩
      · subst e0; cases hxt
      subst e0
      rcases List.mem_cons.1 hxt with e0 | hxt
      · subst e0
        have hanc : ∀ q ∈ x.anc, Lst listed q := anc_listed hO hd _ done x t rfl hA.he o ho hdeps
        have hag : ∀ u ∈ o.looksAt ops, frL.get u = fr.get u := fun u hu => (hA.frS.agree hL (looks_settled hO hd hA.he ho hnL hdeps (fun q hq => by rw [← hsz]; exact hq.lt) hu)).symm
        have hgd : guardOk ops frL o.guard = guardOk ops fr o.guard := guardOk_agree (hL.n.trans hA.frS.n.symm) (fun j want u hj hu => hag u (looks_guard hj hu))
        have hval : ∀ y ∈ o.op.operands, frL.val y = fr.val y := fun y hy => val_agree (fun u e => hag u (looks_operand (by rw [← e]; exact hy))) (hL.g.trans hA.frS.g.symm)
        have hev : ∀ s, evOp E frL.val o.op s = evOp E fr.val o.op s := fun s => evOp_congr hval s
        have next : ∀ (v : AV) (v' : Value) (ρ' : Rho) (w' : World) (σ2 : St) (fr1 : Fr), fr.put o.dst v = some fr1 → evDraw E call ops t pend fr1 σ2 = some (fr', σ') → VR ρ' v v' → Post ρ σ w ρ' σ2 w' →
            (∀ y ∈ done, ¬ Lst listed y.i → Pend E ops ord fr0 fr' σ0 fb pend σ2 ρ' y) → wpAny P .any ops Q fuel (listed.setIfInBounds x.i true) (a.put o.dst v') w' := fun v v' ρ' w' σ2 fr1 hput hrun hvr hpost hpend => by
          obtain ⟨k1, k2⟩ := Ahead.dst hO hA.he ho hA.frS hput hrun
          obtain ⟨frL1, hputL⟩ := put_some (f := frL) v (fun d hd' => by rw [hL.n]; exact (k1 d hd').2)
          have hA2 : Ahead E call ops ord fr0 fr' σ0 σ' ρ0 w0 (Lst (listed.setIfInBounds x.i true)) (done ++ [x]) t pend fr1 σ2 fb ρ' w' := by
            refine ⟨by rw [hA.he]; simp, hrun, k2, fun y hy hyL => ?_, fun i b hb => Nat.lt_of_lt_of_le (hA.fbl i b hb) hpost.next, hA.fbi, fun i b hb => ?_, fun p hp => Nat.lt_of_lt_of_le (hA.pb p hp) hpost.next, hA.post.trans hpost⟩
            · rw [Lst.set hlt] at hyL
              rcases List.mem_append.1 hy with hy | hy
              · exact ⟨(hA.wait y hy (fun e => hyL (.inl e))).1, hpend y hy (fun e => hyL (.inl e))⟩
              · simp at hy; subst hy; exact absurd (.inr rfl) hyL
            · obtain ⟨y, hy, e⟩ := hA.fbd i b hb
              exact ⟨y, List.mem_append_left _ hy, e⟩
          obtain ⟨d2, t2, p2, f2, s2, b2, a1, a2, a3⟩ := hA2.hoist hE hO
          refine ih _ _ w' ρ' frL1 d2 t2 p2 f2 s2 b2 hleft hsz' a1 a2 (fun y hy e => ?_) hdn (hL.set hlt ho hputL (fun d hd' => (k1 d hd').1)) ((hf.mono (hpost.sub hA.post.hr)).put hvr hputL) (hg.post hA.post.hr hpost)
          rw [Lst.set hlt] at e
          rcases e with e | e
          · exact htd y (List.mem_cons_of_mem _ (a3 y hy)) e
          · obtain ⟨r, s, e2⟩ := List.append_of_mem (a3 y hy)
            obtain ⟨oo, hs⟩ := hO.step (done ++ x :: r) y s (by rw [hA.he, e2]; simp)
            exact (hs.other x (by simp)).1 e.symm
        have hrun := hA.run
        simp only [evDraw] at hrun
        split at hrun
        · cases hrun
        rename_i o2 ho2
        rw [nth_eq] at ho2
        have h3 : ops[x.i]? = some o2 := by simpa using ho2
        have h3 : o2 = o := by rw [ho] at h3; exact (Option.some.inj h3).symm
        subst h3
        have heavyP : ∀ σ1 ρ' w', Post ρ (unlog σ) w ρ' σ1 w' → apartLog x.anc σ σ1 pend = true → ∀ y ∈ done, ¬ Lst listed y.i → Pend E ops ord fr0 fr' σ0 fb pend (relog σ1 σ) ρ' y := fun σ1 ρ' w' hp ha y hy hyL =>
          (hA.wait y hy hyL).2.heavy hp ha (fun e => hyL (hanc _ e)) hA.fbl
        obtain ⟨s1, s2, s3⟩ := op_step (call := call) hE hC Q (wpAny P .any ops Q fuel (listed.setIfInBounds x.i true)) ho hf hg hA.post.hr.unlog
        split at hrun
        · rename_i hg0
          split at hrun
          · rename_i fr1 hput
            exact s3 (hgd.trans hg0) (next (.tup []) undef ρ w σ fr1 hput hrun (.tup .nil) (.refl hA.post.hr) (fun y hy hyL => (hA.wait y hy hyL).2))
          · cases hrun
        · rename_i hg1
          rw [if_pos hheavy] at hrun
          split at hrun
          · rename_i v σ1 hop
            split at hrun
            · rename_i ha
              split at hrun
              · rename_i fr1 hput
                exact s1 v σ1 (hgd.trans hg1) ((hev _).trans hop) (fun v' ρ' w' hvr hpost => next v v' ρ' w' (relog σ1 σ) fr1 hput hrun hvr hpost.relog (heavyP σ1 ρ' w' hpost ha))
              · cases hrun
            · cases hrun
          · rename_i f args hop
            split at hrun
            · rename_i v σ1 hc
              split at hrun
              · rename_i ha
                split at hrun
                · rename_i fr1 hput
                  exact s2 f args v σ1 (hgd.trans hg1) ((hev _).trans hop) hc (fun v' ρ' w' hvr hpost => next v v' ρ' w' (relog σ1 σ) fr1 hput hrun hvr hpost.relog (heavyP σ1 ρ' w' hpost ha))
                · cases hrun
              · cases hrun
            · cases hrun
          · cases hrun
        · cases hrun
      · obtain ⟨r, s, rfl⟩ := List.append_of_mem hxt
        obtain ⟨oo, hs⟩ := hO.step (done ++ h :: r) x s (by rw [hA.he]; simp)
        exact absurd (anc_listed hO hd _ (done ++ h :: r) x s rfl (by rw [hA.he]; simp) o ho hdeps _ ((hs.other h (by simp)).2.1 hheavy)) (htd h List.mem_cons_self)
end Go.Ev
