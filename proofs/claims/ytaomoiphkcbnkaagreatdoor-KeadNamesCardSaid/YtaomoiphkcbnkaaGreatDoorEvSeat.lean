/- The law of this seat holds of every input: a part of the proof (an evaluator that is proved to answer as the model does, and its runs by the kernel). -/
import Derived.Test.YtaomoiphkcbnkaaGreatDoorEvOnce
import Derived.Lib.LaidU8
import Derived.OpenShut
import Derived.ChangeArms
import Derived.FnData
import GoSem.ClaimChange
import Derived.Test.YtaomoiphkcbnkaaGreatDoorEvPrim
import Derived.Shelf.Vars
import Derived.Handed
import Derived.LaidLaws
set_option linter.unusedVariables false
set_option linter.unusedSimpArgs false
section
namespace Go.Ev
variable {P : Program} {E : Env}

-- functions
def fnE (P : Program) (o : Nat → Option (List (Nat × List DOp))) (f : Nat) : Option FnI := match o f with
  | none => none
  | some os => match P.funcs[f]? with
    | some F => match F.body with
      | some c => some { ords := os, code := c, results := F.results.toList, ntmps := F.ntmps }
      | none => none
    | none => none
def fnB (P : Program) (f : Nat) (os : List (Nat × List DOp)) : Bool := match P.funcs[f]? with
  | some F => !(F.name == "runtime.NumGoroutine") && (match F.body with
    | some c => codeChk os findOrd c
    | none => true)
  | none => true
theorem fnE_ok {ordT : T (List (Nat × List DOp))} (hfn : E.fn = fnE P ordT.get) (h : ordT.allI (fnB P) 1 0 = true) (hm : P.follows .mixedOrders = true) (hE : EnvOK P E) :
    ∀ f fi, E.fn f = some fi → (∃ F, P.funcs[f]? = some F ∧ F.body = some fi.code ∧ F.results.toList = fi.results ∧ F.ntmps = fi.ntmps ∧ (F.name == "runtime.NumGoroutine") = false) ∧ ∀ call, CallOK P E call → allReg (RegOK P E fi.ords call) fi.code := by
  intro f fi hf
  rw [hfn] at hf
  unfold fnE at hf
  split at hf
  · cases hf
  rename_i os hos
  split at hf
  rotate_left
  · cases hf
  rename_i F hF
  split at hf
  rotate_left
  · cases hf
  rename_i c hc
  simp at hf; subst hf
  have := T.all_spec h hos
  simp only [fnB, hF, hc, Bool.and_eq_true, Bool.not_eq_true'] at this
  exact ⟨⟨F, hF, hc, rfl, rfl, this.1⟩, fun call hC => codeChk_spec hE hC hm c this.2⟩
/-- a call of a function with a body -/
theorem callN_body (hF : FnOK P E) (hE : EnvOK P E) {k d f : Nat} {args : List AV} {σ σ' : St} {v : AV} (hp : E.prim f = none) (h : callN E k d f args σ = some (v, σ')) :
    Bodied P f ∧ ∀ ρ w vs, HR ρ σ w → Glob E ρ → VRL ρ args vs → Calls P f vs.toArray w (fun e w' => ∃ v' ρ', e = .returned v' ∧ VR ρ' v v' ∧ Post ρ σ w ρ' σ' w') := by
  have hb : Bodied P f := by
    cases d with
    | zero => cases h
    | succ d =>
      simp only [callN, hp] at h
      split at h
      · cases h
      rename_i fi hfi
      obtain ⟨⟨F, h1, h2, _, _, h5⟩, _⟩ := hF.fn f fi hfi
      exact ⟨F, h1, by rw [h2]; rfl, h5⟩
  rcases callN_sound hE hF k d f args σ v σ' h with hl | hr
  · exact hl
  · refine ⟨hb, fun ρ w vs h1 h2 h3 => ?_⟩
    obtain ⟨v', ρ', w', hx, _⟩ := hr ρ w vs h1 h2 h3
    rw [hb.run] at hx
    cases hx

-- the first memory: blocks by their numbers
noncomputable def mkH : List (Nat × B) → H
  | [] => .e
  | (b, x) :: l => (mkH l).set b x
noncomputable def mkT : List (Nat × B) → T Blk
  | [] => .e
  | (b, x) :: l => (mkT l).set b x.blk
theorem mk_get : ∀ (l : List (Nat × B)) (b : Nat), (match (mkT l).get b with | some x => x | none => .dead) = ((mkH l).get b).blk
  | [], b => by rw [show (mkT []).get b = none from by cases b <;> rfl]; rfl
  | (c, x) :: l, b => by
    have ih := mk_get l b
    simp only [mkT, mkH]
    rw [T.get_set, H.get_set]
    by_cases h : b = c
    · rw [if_pos h, if_pos h]
    · rw [if_neg h, if_neg h]; exact ih
theorem mk_SR (l : List (Nat × B)) (n : Nat) : SR { h := mkH l, next := n, log := [] } { h := mkT l, next := n, log := [] } where
  next := rfl
  log _ := Iff.rfl
  get b := by
    rw [FS.get_def]
    unfold St.get
    by_cases h : b < n
    · rw [if_pos (by simpa using h), if_pos h]; exact mk_get l b
    · rw [if_neg (by simpa using h), if_neg h]; rfl

-- package-level variables, laid
/-- the table's cells are numbers of a kind -/
def NumsAt (w : World) (g : Nat) (k : IntKind) (ns : List Nat) : Prop := ∀ (j n : Nat), ns[j]? = some n → w.cell? ⟨g, j, none⟩ = some (.int k n)
theorem numsAt_of {w : World} {name : String} {g t e len : Nat} {k : IntKind} {ns : List Nat} (h : Lib.VarReads P w name (.agg (ns.map fun (n : Nat) => .lit (.int k n)))) (hg : P.globalNamed name = some g) (ht : (P.globals[g]?).map (·.type) = some t)
    (hu : P.underlying t = some (.array len e)) (he : P.underlying e = some (.int k)) (hc : P.cellsOf e = 1) : NumsAt w g k ns := by
  obtain ⟨g', t', cs, fuel, p, h1, h2, h3, h4⟩ := h
  obtain rfl := Option.some.inj (hg.symm.trans h1)
  obtain rfl := Option.some.inj (ht.symm.trans h2)
  obtain ⟨xs, m, rfl, hx, hl, hn, hel⟩ := DataW.trod_array hu h4
  simp only [Prod.mk.injEq, DataW.agg.injEq] at hx
  intro j n hj
  have hlen : xs.length = ns.length := by have := congrArg List.length hx.1; simpa using this.symm
  have hj' : j < len := by rw [← hn, hlen]; exact (List.getElem?_eq_some_iff.1 hj).1
  have := hel j hj'
  rw [hc, Nat.mul_one] at this
  have hxj : (xs[j]?).map (·.1) = some (.lit (.int k n)) := by
    rw [← List.getElem?_map, ← hx.1, List.getElem?_map, hj]; rfl
  cases hxs : xs[j]? with
  | none => rw [hxs] at hxj; cases hxj
  | some x =>
    rw [hxs] at this hxj
    obtain ⟨n', e1, e2, _⟩ := DataW.trod_int he this
    subst e2
    simp at hxj
    subst hxj
    rw [World.var?_cell h1 h3 j]
    have h5 : (cs.toList.drop j)[0]? = some (Value.int k n) := by
      have : ((cs.toList.drop j).take 1)[0]? = some (Value.int k n) := by rw [e1]; rfl
      rwa [List.getElem?_take_of_lt (by omega)] at this
    rw [List.getElem?_drop] at h5
    simpa using h5

/-- what the first memory holds of the laid variables -/
structure Tab where
  g : Nat
  k : IntKind
  ns : List Nat
def Tab.cells (t : Tab) : List AV := t.ns.map fun (n : Nat) => AV.int t.k n
theorem ints_rel (ρ : Rho) (k : IntKind) : ∀ ns : List Nat, VRL ρ (ns.map fun (n : Nat) => AV.int k n) (ns.map fun (n : Nat) => Value.int k n)
  | [] => .nil
  | _ :: ns => .cons (.int _ _) (ints_rel ρ k ns)
def rho0 (n : Nat) : Rho := fun b => if b < n then some (b, 0, 1000000) else none
theorem start_HR {w : World} {n : Nat} {σ : St} (hn : σ.next = n) (tabs : List Tab) (hσ : ∀ b, b < n → σ.get b = .dead ∨ ∃ t ∈ tabs, t.g = b ∧ σ.get b = .row t.cells 0 true ∧ 0 < t.ns.length ∧ t.ns.length ≤ 1000000) (hw : ∀ t ∈ tabs, NumsAt w t.g t.k t.ns) :
    HR (rho0 n) σ w where
  dom b x hb := by
    rw [hn]
    unfold rho0 at hb
    split at hb
    · assumption
    · cases hb
  row b B d z cells e ro hb hr := by
    unfold rho0 at hb
    split at hb
    · rename_i hlt
      simp at hb; obtain ⟨rfl, rfl, rfl⟩ := hb
      rcases hσ b hlt with h | ⟨t, ht, rfl, h, _, hle⟩
      · rw [h] at hr; cases hr
      · rw [h] at hr
        simp at hr; obtain ⟨rfl, rfl, rfl⟩ := hr
        refine ⟨fun j v hv => ?_, by simpa [Tab.cells] using hle, fun h => by cases h⟩
        simp only [Tab.cells, List.getElem?_map] at hv
        cases hj : t.ns[j]? with
        | none => rw [hj] at hv; cases hv
        | some m =>
          rw [hj] at hv
          simp at hv; subst hv
          exact ⟨_, by rw [Nat.zero_add]; exact hw t ht j m hj, .int _ _⟩
    · cases hb
  iter b B d z s pos hb hr := by
    unfold rho0 at hb
    split at hb
    · rename_i hlt
      rcases hσ b hlt with h | ⟨t, ht, _, h, _⟩
      · rw [h] at hr; cases hr
      · rw [h] at hr; cases hr
    · cases hb
  lt b B d z hb hl := by
    unfold rho0 at hb
    split at hb
    · rename_i hlt
      simp at hb; obtain ⟨rfl, rfl, rfl⟩ := hb
      rcases hσ b hlt with h | ⟨t, ht, rfl, h, hpos, _⟩
      · unfold live at hl; rw [h] at hl; cases hl
      · have := hw t ht 0 (t.ns[0]) (by simp [hpos])
        refine Nat.lt_of_not_le fun hle => ?_
        unfold World.cell? at this
        simp [Array.getElem?_eq_none hle] at this
    · cases hb
  inj b1 b2 B d1 z1 d2 z2 h1 h2 _ _ := by
    unfold rho0 at h1 h2
    split at h1
    · split at h2
      · simp at h1 h2; omega
      · cases h2
    · cases h1
theorem rho0_glob {n : Nat} (h : E.g = n) : Glob E (rho0 n) := fun g hg => ⟨1000000, by unfold rho0; rw [if_pos (by omega)]⟩

/-- nothing that was there has turned -/
structure Stays (w w' : World) : Prop where
  size : w.heap.size ≤ w'.heap.size
  os : w'.os = w.os
  output : w'.output = w.output
  block : ∀ B, B < w.heap.size → w'.heap[B]? = w.heap[B]?
theorem Stays.of_post {ρ ρ' : Rho} {σ σ' : St} {w w' : World} (h : Post ρ σ w ρ' σ' w') (hw : ∀ b, writable σ b = false) : Stays w w' :=
  ⟨h.keep.size, h.keep.os, h.keep.output, fun B hB => h.keep.block B hB (fun b _ _ _ => hw b)⟩
theorem Stays.keptBut {w w' : World} (h : Stays w w') (may : MemPlace → Prop) : w.keptBut w' may := by
  refine ⟨h.os, h.output, fun i hi => ?_⟩
  rw [h.block i hi]
  rw [Array.getElem?_eq_getElem hi]
  split
  · rename_i c t fr c' t' fr' e1 e2
    rw [e1] at e2
    simp at e2
    obtain ⟨rfl, rfl, rfl⟩ := e2
    exact ⟨rfl, rfl, rfl, fun _ _ => rfl⟩
  · rename_i e1 e2
    rw [e1] at e2
    simp at e2
    obtain ⟨rfl, rfl⟩ := e2
    exact .inr ⟨rfl, rfl⟩
  · rfl
/-- from the fast run to the call: one whole number in, true out -/
theorem run_int {T : FT} {k d f n m r : Nat} {kk : IntKind} {l : List (Nat × B)} {fs' : FS} {w : World} {x : Int} (hE : EnvOK P E) (hF : FnOK P E) (hT : TOK E k T) (hg : E.g = n) (hprim : E.prim f = none)
    (hrun : callF T d f [.low (kNo kk) m r] { h := mkH l, next := n, log := [] } = .ok (.bo true) fs') (hr : HR (rho0 n) { h := mkT l, next := n, log := [] } w) (hw : ∀ b, writable { h := mkT l, next := n, log := [] } b = false)
    (hx : lowP m r x) (hm : m < 1000 → m ≤ kk.bits) : Calls P f #[.int kk x] w fun e w' => e = .returned (.bool true) ∧ Stays w w' := by
  obtain ⟨σ', h1, _⟩ := callF_spec hT d f _ _ _ _ _ (mk_SR l n) hrun
  obtain ⟨_, hc⟩ := callN_body hF hE hprim h1
  have hv : VRL (rho0 n) (V.avs [.low (kNo kk) m r]) [.int kk x] := by
    simp only [V.avs, V.av, kOf_kNo]
    exact .cons (.low hx hm) .nil
  refine (hc (rho0 n) w [.int kk x] hr (rho0_glob hg) hv).mono fun e w' he => ?_
  obtain ⟨v', ρ', rfl, hv', hp⟩ := he
  have : v' = .bool true := hv'.inv_bool
  subst this
  exact ⟨rfl, Stays.of_post hp hw⟩
noncomputable def okT (r : FV) : Bool := match r with
  | .ok (.bo true) _ => true
  | _ => false
theorem okT_spec {r : FV} (h : okT r = true) : ∃ fs', r = .ok (.bo true) fs' := by
  unfold okT at h
  split at h
  · exact ⟨_, rfl⟩
  · cases h
end Go.Ev
end
section
namespace Go.Ev
variable {P : Program} {E : Env}

theorem start_HR2 {w : World} {n : Nat} {σ : St} (hn : σ.next = n)
    (hσ : ∀ b, b < n → σ.get b = .dead ∨ ∃ cells, σ.get b = .row cells 0 true ∧ 0 < cells.length ∧ cells.length ≤ 1000000 ∧ ∀ (j : Nat) (v : AV), cells[j]? = some v → ∃ v', w.cell? ⟨b, j, none⟩ = some v' ∧ VR (rho0 n) v v') :
    HR (rho0 n) σ w where
  dom b x hb := by
    rw [hn]
    unfold rho0 at hb
    split at hb
    · assumption
    · cases hb
  row b B d z cells e ro hb hr := by
    unfold rho0 at hb
    split at hb
    · rename_i hlt
      simp at hb; obtain ⟨rfl, rfl, rfl⟩ := hb
      rcases hσ b hlt with h | ⟨cs, h, _, hle, hw⟩
      · rw [h] at hr; cases hr
      · rw [h] at hr
        simp at hr; obtain ⟨rfl, rfl, rfl⟩ := hr
        exact ⟨fun j v hv => by rw [Nat.zero_add]; exact hw j v hv, hle, fun h => by cases h⟩
    · cases hb
  iter b B d z s pos hb hr := by
    unfold rho0 at hb
    split at hb
    · rename_i hlt
      rcases hσ b hlt with h | ⟨cs, h, _⟩
      · rw [h] at hr; cases hr
      · rw [h] at hr; cases hr
    · cases hb
  lt b B d z hb hl := by
    unfold rho0 at hb
    split at hb
    · rename_i hlt
      simp at hb; obtain ⟨rfl, rfl, rfl⟩ := hb
      rcases hσ b hlt with h | ⟨cs, h, hpos, _, hw⟩
      · unfold live at hl; rw [h] at hl; cases hl
      · obtain ⟨v', hv', _⟩ := hw 0 cs[0] (by simp [hpos])
        refine Nat.lt_of_not_le fun hle => ?_
        unfold World.cell? at hv'
        simp [Array.getElem?_eq_none hle] at hv'
    · cases hb
  inj b1 b2 B d1 z1 d2 z2 h1 h2 _ _ := by
    unfold rho0 at h1 h2
    split at h1
    · split at h2
      · simp at h1 h2; omega
      · cases h2
    · cases h1
theorem tab_rel {w : World} {ρ : Rho} {t : Tab} (h : NumsAt w t.g t.k t.ns) (j : Nat) (v : AV) (hv : t.cells[j]? = some v) : ∃ v', w.cell? ⟨t.g, j, none⟩ = some v' ∧ VR ρ v v' := by
  simp only [Tab.cells, List.getElem?_map] at hv
  cases hj : t.ns[j]? with
  | none => rw [hj] at hv; cases hv
  | some m =>
    rw [hj] at hv
    simp at hv; subst hv
    exact ⟨_, h j m hj, .int _ _⟩
theorem low_rel {w : World} {ρ : Rho} {g m r : Nat} {x : Int} (hx : w.cell? ⟨g, 0, none⟩ = some (.int .i64 x)) (hp : lowP m r x) (hm : 1000 ≤ m) (j : Nat) (v : AV) (hv : [AV.low .i64 m r][j]? = some v) :
    ∃ v', w.cell? ⟨g, j, none⟩ = some v' ∧ VR ρ v v' := by
  cases j with
  | zero => simp at hv; subst hv; exact ⟨_, hx, .low hp (by omega)⟩
  | succ j => simp at hv
theorem low_split (y : Int) : lowP 3000 2 y ∨ lowP 3001 2 y := by
  by_cases h : y < 2
  · exact .inl (by rw [lowP, if_neg (by decide), if_neg (by decide), if_neg (by decide), if_pos rfl]; exact h)
  · exact .inr (by rw [lowP, if_neg (by decide), if_neg (by decide), if_neg (by decide), if_neg (by decide)]; omega)

variable {H : Type} {enc : TypeId × Value → H}
/-- the change's wrap, with a look at what is laid, and the world's shape kept -/
theorem handed_shaped {a : Assume} {C : Checked} {os : Os} {f : FuncId} {fn : Func} {s : ChangeSpec} {conds : List PathCond} {apart fresh handsOn again : Bool} {X : World → Array Value → Prop}
    (hX : ∀ (w w' : World) (args : Array Value), w.heap = w'.heap → X w args → X w' args)
    (own : ownKnob C.prog.godebug = none) (started : os.Started) (noInit : C.prog.inits.idxOf? f = none) (hfn : C.prog.funcs[f]? = some fn)
    (witness : ∃ (w : World) (tape : Tape) (i : Input), w.os = os ∧ (w.forCall tape i).Shaped C.prog ∧ i.vars = [] ∧ Input.okWide C.prog (w.forCall tape i) .any w.heap.size f i ∧
      ((s.pre enc C.prog fn conds apart (w.forCall tape i).memory i.args ∧ X (w.forCall tape i).memory i.args) ∧ sizedMet enc C.prog fn (OpenSpec.ofChange s) apart (w.forCall tape i).memory i.args) ∧ a.holds C.prog (lone (Frame.enter C.prog f i.args .normal) [] (w.forCall tape i)))
    (contract : ∀ (W : World) (base : Nat) (args : Array Value) (ds gs : List (DataW H)) (before : List MemPlace),
      (∀ (j : Nat) t v, fn.params[j]? = some t → args[j]? = some v → Value.okWide C.prog W .any base t v) →
      DataW.Whole enc C.prog fn.params.toList s.vars apart W args.toList ds gs before →
      W.ShapedOpen C.prog → X W args →
      Calls C.prog f args W fun e W' => ∃ v, e = .returned v ∧ s.post enc C.prog fn apart fresh handsOn again W args v W') :
    ReturnsInHanded a C os f .any (fun w args => (s.pre enc C.prog fn conds apart w args ∧ X w args) ∧ sizedMet enc C.prog fn (OpenSpec.ofChange s) apart w args) (s.post enc C.prog fn apart fresh handsOn again) := by
  refine returnsInHanded_of_calls own started noInit witness ?_
  intro w tape i _ hsh _ hok hpre _
  obtain ⟨_, _, _, fn', hfn', _, _, _, _, hval⟩ := hok
  have e : fn' = fn := Option.some.inj (hfn'.symm.trans hfn)
  subst e
  obtain ⟨⟨⟨ds, gs, before, hw, _⟩, hx⟩, _⟩ := hpre
  have hw' := DataW.Whole.of_heap (w' := w.forCall tape i) (by rfl) hw
  refine (contract (w.forCall tape i) w.heap.size i.args ds gs before hval hw' hsh (hX _ _ _ (by rfl) hx)).mono fun e W' ⟨v, he, hp⟩ => ?_
  subst he
  exact ChangeSpec.post_blind hp
end Go.Ev
end
