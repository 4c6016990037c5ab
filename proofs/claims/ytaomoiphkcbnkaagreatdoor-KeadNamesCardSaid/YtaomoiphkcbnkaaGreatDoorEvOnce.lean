/- The law of this seat holds of every input: a part of the proof (an evaluator that is proved to answer as the model does, and its runs by the kernel). -/
import Derived.Test.YtaomoiphkcbnkaaGreatDoorEvPrim
set_option linter.unusedVariables false
set_option linter.unusedSimpArgs false
namespace Go.Ev
variable {P : Program} {E : Env}

/-- what the program has of sync.Once's Do, for one goroutine, the first time -/
structure OnceOK (P : Program) (f : Nat) : Prop where
  bodied : Bodied P f
  walk : ∀ (B off g : Nat) (cs : List Value) (R : World → Prop) (w : World),
    w.cell? ⟨B, off, none⟩ = some (.int .u32 0) → w.cell? ⟨B, off + 1, none⟩ = some (.int .i32 0) → w.frozen? ⟨B, off, none⟩ = false → w.frozen? ⟨B, off + 1, none⟩ = false →
    Calls P g cs.toArray (w.setCell ⟨B, off + 1, none⟩ (.int .i32 1)) (fun e w' => e = .returned (.tuple #[]) ∧ (w'.cell? ⟨B, off, none⟩ = some (.int .u32 0) ∧ w'.cell? ⟨B, off + 1, none⟩ = some (.int .i32 1) ∧ w'.frozen? ⟨B, off, none⟩ = false ∧ w'.frozen? ⟨B, off + 1, none⟩ = false) ∧ R w') → Bodied P g →
    Calls P f #[.pointer (some ⟨B, off, none⟩), .func (.func g) #[] cs.toArray] w (fun e w' => e = .returned (.tuple #[]) ∧ ∃ w1, R w1 ∧ w' = (w1.drew.setCell ⟨B, off, none⟩ (.int .u32 1)).setCell ⟨B, off + 1, none⟩ (.int .i32 0))

def isI (k : IntKind) (n : Int) : Option AV → Bool
  | some (.int k' m) => decide (k' = k) && decide (m = n)
  | _ => false
theorem isI_eq {k : IntKind} {n : Int} {x : Option AV} (h : isI k n x = true) : x = some (.int k n) := by
  unfold isI at h
  split at h
  · simp only [Bool.and_eq_true, decide_eq_true_eq] at h
    rw [h.1, h.2]
  · cases h
noncomputable def pOnce (call : CallF) : List AV → St → Option (AV × St)
  | [.ptr b o, .fn f cs], σ =>
    if isI .u32 0 (ld1 σ b o) && isI .i32 0 (ld1 σ b (o + 1)) then
      match stN σ b (o + 1) [.int .i32 1] with
      | none => none
      | some σ1 => match call f cs σ1 with
        | some (.tup [], σ2) =>
          if isI .u32 0 (ld1 σ2 b o) && (isI .i32 1 (ld1 σ2 b (o + 1)) && writable σ2 b) then
            match stN σ2 b o [.int .u32 1] with
            | none => none
            | some σ3 => match stN σ3 b (o + 1) [.int .i32 0] with
              | some σ4 => some (.tup [], σ4)
              | none => none
          else none
        | _ => none
    else none
  | _, _ => none
theorem stN_row {σ σ' : St} {b o : Nat} {vs : List AV} (h : stN σ b o vs = some σ') : ∃ cells e, σ.get b = .row cells e false := by
  unfold stN at h
  split at h
  · rename_i cells e hb; exact ⟨cells, e, hb⟩
  · cases h
theorem row_free {ρ : Rho} {σ : St} {w : World} (h : HR ρ σ w) {b B d z o : Nat} {cells : List AV} {e : Nat} (hb : ρ b = some (B, d, z)) (hr : σ.get b = .row cells e false) (ho : o < cells.length) : w.frozen? ⟨B, d + o, none⟩ = false := by
  obtain ⟨_, h2, h3⟩ := h.row b B d z cells e false hb hr
  obtain ⟨_, ht, _⟩ := h3 rfl
  exact (ht o (by omega)).2
theorem ld1_len {σ : St} {b o : Nat} {v : AV} {cells : List AV} {e : Nat} {ro : Bool} (hr : σ.get b = .row cells e ro) (h : ld1 σ b o = some v) : o < cells.length := by
  unfold ld1 at h
  rw [hr] at h
  exact (List.getElem?_eq_some_iff.1 h).1
theorem pOnce_ok {f : Nat} (hO : OnceOK P f) {call : CallF} (hC : ∀ g cs σ v σ', call g cs σ = some (v, σ') → Bodied P g ∧ ∀ ρ w vs, HR ρ σ w → Glob E ρ → VRL ρ cs vs → Calls P g vs.toArray w (fun e w' => ∃ v' ρ', e = .returned v' ∧ VR ρ' v v' ∧ Post ρ σ w ρ' σ' w'))
    {args : List AV} {σ σ' : St} {v : AV} (hp : pOnce call args σ = some (v, σ')) : CallSays P E f args σ v σ' := by
  unfold pOnce at hp
  split at hp
  rotate_left
  · cases hp
  rename_i b o g cs
  split at hp
  rotate_left
  · cases hp
  rename_i hc0
  simp only [Bool.and_eq_true] at hc0
  have l0 := isI_eq hc0.1
  have l1 := isI_eq hc0.2
  split at hp
  · cases hp
  rename_i σ1 hs1
  split at hp
  rotate_left
  · cases hp
  rename_i σ2 hcall
  split at hp
  rotate_left
  · cases hp
  rename_i hc1
  simp only [Bool.and_eq_true] at hc1
  have m0 := isI_eq hc1.1
  have m1 := isI_eq hc1.2.1
  split at hp
  · cases hp
  rename_i σ3 hs3
  split at hp
  rotate_left
  · cases hp
  rename_i σ4 hs4
  simp at hp; obtain ⟨rfl, rfl⟩ := hp
  refine .inl ⟨hO.bodied, fun ρ w vs hr hg hv => ?_⟩
  cases hv
  rename_i h1 hl
  cases hl
  rename_i h2 hl
  cases hl
  obtain ⟨B, d, z, hb, rfl⟩ := h1.inv_ptr
  cases h2 with
  | fn hvs =>
  rename_i vs
  obtain ⟨cells, e, hrow⟩ := stN_row hs1
  obtain ⟨u0, hu0, c0⟩ := ld1_spec hr hb l0
  rw [hu0.inv_int] at c0
  obtain ⟨u1, hu1, c1⟩ := ld1_spec hr hb l1
  rw [hu1.inv_int] at c1
  have z0 := row_free hr hb hrow (ld1_len hrow l0)
  have z1 := row_free hr hb hrow (ld1_len hrow l1)
  rw [← Nat.add_assoc] at c1 z1
  obtain ⟨p1, _, _⟩ := Post.store hr hb hs1 (.cons (.int .i32 1) .nil)
  have e1 : w.setCells B (d + (o + 1)) [Value.int .i32 1] = w.setCell ⟨B, d + o + 1, none⟩ (.int .i32 1) := by rw [← Nat.add_assoc]; rfl
  rw [e1] at p1
  obtain ⟨hbg, hcalls⟩ := hC g cs σ1 _ σ2 hcall
  have hfn := hcalls ρ _ vs p1.hr hg hvs
  have := hO.walk B (d + o) g vs (fun w' => ∃ ρ', Post ρ σ1 (w.setCell ⟨B, d + o + 1, none⟩ (.int .i32 1)) ρ' σ2 w') w c0 c1 z0 z1 (hfn.mono fun ex w' hex => ?_) hbg
  · refine this.mono fun ex w' hex => ?_
    obtain ⟨rfl, w1, ⟨ρ', hpost⟩, rfl⟩ := hex
    have q0 := p1.trans hpost
    have hb' : ρ' b = some (B, d, z) := q0.sub hr _ _ hb
    have qd := q0.trans (Post.drew q0.hr 1)
    obtain ⟨p3, _, _⟩ := Post.store qd.hr hb' hs3 (.cons (.int .u32 1) .nil)
    have q3 := qd.trans p3
    obtain ⟨p4, _, _⟩ := Post.store q3.hr hb' hs4 (.cons (.int .i32 0) .nil)
    have q4 := q3.trans p4
    refine ⟨_, ρ', rfl, .tup .nil, ?_⟩
    have e4 : ((w1.drewN 1).setCells B (d + o) [Value.int .u32 1]).setCells B (d + (o + 1)) [Value.int .i32 0] = (w1.drew.setCell ⟨B, d + o, none⟩ (.int .u32 1)).setCell ⟨B, d + o + 1, none⟩ (.int .i32 0) := by rw [← Nat.add_assoc]; rfl
    rw [e4] at q4
    exact q4
  · obtain ⟨v', ρ', rfl, hv', hpost⟩ := hex
    have hb' : ρ' b = some (B, d, z) := (p1.trans hpost).sub hr _ _ hb
    obtain ⟨vs', rfl, hvs'⟩ := hv'.inv_tup
    cases hvs'
    obtain ⟨cells2, e2, hrow2⟩ := stN_row hs3
    obtain ⟨u0, hu0, c0⟩ := ld1_spec hpost.hr hb' m0
    rw [hu0.inv_int] at c0
    obtain ⟨u1, hu1, c1⟩ := ld1_spec hpost.hr hb' m1
    rw [hu1.inv_int] at c1
    have z0 := row_free hpost.hr hb' hrow2 (ld1_len hrow2 m0)
    have z1 := row_free hpost.hr hb' hrow2 (ld1_len hrow2 m1)
    rw [← Nat.add_assoc] at c1 z1
    exact ⟨rfl, ⟨c0, c1, z0, z1⟩, ρ', hpost⟩

-- the same, fast
def isIF (k n : Nat) : Option V → Bool
  | some (.w k' m) => Nat.beq k' k && Nat.beq m n
  | _ => false
def writF (σ : B) : Bool := match σ with
  | .row _ _ false => true
  | _ => false
noncomputable def fOnce (call : FCall) : List V → FS → FV
  | [.ptr b o, .fn f cs], σ =>
    bc (isIF 6 0 (ld1F σ b o) && isIF 2 0 (ld1F σ b (Nat.succ o))) (match stNF σ b (Nat.succ o) [.w 2 1] with
      | none => .no
      | some σ1 => match call f cs σ1 with
        | .ok (.tup []) σ2 =>
          bc (isIF 6 0 (ld1F σ2 b o) && (isIF 2 1 (ld1F σ2 b (Nat.succ o)) && writF (σ2.get b))) (match stNF σ2 b o [.w 6 1] with
            | none => .no
            | some σ3 => match stNF σ3 b (Nat.succ o) [.w 2 0] with
              | some σ4 => .ok (.tup []) σ4
              | none => .no) .no
        | _ => .no) .no
  | _, _ => .no
theorem isIF_spec {fs : FS} {σ : St} (h : SR fs σ) {b o n : Nat} {k : IntKind} (hi : isIF (kNo k) n (ld1F fs b o) = true) : isI k n (ld1 σ b o) = true := by
  unfold isIF at hi
  split at hi
  · rename_i k' m hl
    simp only [Bool.and_eq_true] at hi
    rw [ld1F_spec h hl]
    have hm := Nat.eq_of_beq_eq_true hi.2
    subst hm
    simp [V.av, kOf_eq hi.1, isI]
  · cases hi
theorem fOnce_r {fc : FCall} {call : CallF} (hc : CallR fc call) : PrimR (fOnce fc) (pOnce call) := by
  intro args fs σ v fs' h hp
  unfold fOnce at hp
  split at hp
  rotate_left
  · cases hp
  rename_i b o g cs
  rw [bc_eq] at hp
  split at hp
  rotate_left
  · cases hp
  rename_i hc0
  simp only [Bool.and_eq_true] at hc0
  split at hp
  · cases hp
  rename_i f1 hs1
  split at hp
  rotate_left
  · cases hp
  rename_i f2 hcall
  rw [bc_eq] at hp
  split at hp
  rotate_left
  · cases hp
  rename_i hc1
  simp only [Bool.and_eq_true] at hc1
  split at hp
  · cases hp
  rename_i f3 hs3
  split at hp
  rotate_left
  · cases hp
  rename_i f4 hs4
  simp at hp; obtain ⟨rfl, rfl⟩ := hp
  have a0 := isIF_spec (k := .u32) h hc0.1
  have a1 := isIF_spec (k := .i32) h hc0.2
  obtain ⟨σ1, b1, b2⟩ := stNF_spec h hs1
  obtain ⟨σ2, c1, c2⟩ := hc g cs f1 σ1 _ f2 b2 hcall
  have d0 := isIF_spec (k := .u32) c2 hc1.1
  have d1 := isIF_spec (k := .i32) c2 hc1.2.1
  obtain ⟨σ3, e1, e2⟩ := stNF_spec c2 hs3
  obtain ⟨σ4, g1, g2⟩ := stNF_spec e2 hs4
  have hw : writable σ2 b = true := by
    have := hc1.2.2
    unfold writF at this
    split at this
    · rename_i cells e hb
      unfold writable
      rw [c2.row hb]
    · cases this
  refine ⟨σ4, ?_, g2⟩
  have a0' : isI .u32 0 (ld1 σ b o) = true := a0
  have a1' : isI .i32 0 (ld1 σ b (o + 1)) = true := a1
  have d0' : isI .u32 0 (ld1 σ2 b o) = true := d0
  have d1' : isI .i32 1 (ld1 σ2 b (o + 1)) = true := d1
  have b1' : stN σ b (o + 1) [.int .i32 1] = some σ1 := b1
  have c1' : call g (V.avs cs) σ1 = some (.tup [], σ2) := c1
  have e1' : stN σ2 b o [.int .u32 1] = some σ3 := e1
  have g1' : stN σ3 b (o + 1) [.int .i32 0] = some σ4 := g1
  simp only [V.avs, V.av, pOnce, a0', a1', Bool.and_self, if_true, b1', c1', d0', d1', hw, e1', g1']
end Go.Ev
