/- The law of this seat holds of every input: a part of the proof (an evaluator that is proved to answer as the model does, and its runs by the kernel). -/
import Derived.Test.YtaomoiphkcbnkaaGreatDoorEvF7
set_option linter.unusedVariables false
set_option linter.unusedSimpArgs false
namespace Go.Ev
variable {E : Env} {i : FI} {f f' : FS} {σ σ' : St}

/-- the fast calls do what the calls do -/
def CallR (fc : FCall) (call : CallF) : Prop := ∀ h args fs σ v fs', SR fs σ → fc h args fs = .ok v fs' → ∃ σ', call h (V.avs args) σ = some (v.av, σ') ∧ SR fs' σ'
/-- what came out of a region -/
def NormR (i : FI) (r : FOut) (s : Option (Fr × St)) : Prop := match r with
  | .no => True
  | .norm ff fs => ∃ fr σ, s = some (fr, σ) ∧ FfR i ff fr ∧ SR fs σ
  | _ => False
theorem NormR.no {s : Option (Fr × St)} : NormR i .no s := trivial

theorem cOpD_spec (o : Oper) : COk E i o.op (cOpD E i o) := by
  unfold cOpD
  split
  · rename_i c hc; exact cOp_spec hc
  · intro ff fr σ v _ hv; cases hv

theorem cGuard_spec {ops : Array Oper} {gd : Option (Nat × Bool)} {r : Option ((F → V) × Bool)} (h : cGuard i ops.toList gd = some r) {ff : F} {fr : Fr} (hf : FfR i ff fr) :
    (r = none ∧ guardOk ops fr gd = some true) ∨ (∃ g w, r = some (g, w) ∧ (∀ b, g ff = .bo b → guardOk ops fr gd = some (b == w)) ∧ (∀ l, g ff = .tup l → guardOk ops fr gd = some false)) := by
  cases gd with
  | none => simp [cGuard] at h; subst h; exact .inl ⟨rfl, rfl⟩
  | some jw =>
    obtain ⟨j, w⟩ := jw
    simp only [cGuard] at h
    split at h
    · rename_i o ho
      split at h
      · rename_i d hd
        split at h
        · rename_i hlt
          split at h
          · rename_i g hg
            simp at h; subst h
            have hv : (g ff).av = fr.get d := by rw [getC_eq _ _ hg]; exact hf.get d hlt
            have hlt' : Nat.blt d fr.n = true := by simpa [hf.n] using hlt
            refine .inr ⟨g, w, rfl, fun b hb => ?_, fun l hl => ?_⟩
            · rw [hb] at hv
              simp only [guardOk, yield, ho, hd, hlt', if_true, ← hv, V.av]
            · rw [hl] at hv
              simp only [guardOk, yield, ho, hd, hlt', if_true, ← hv, V.av]
          · cases h
        · cases h
      · cases h
    · cases h

/-- one operation, and what is behind it -/
def slowStep (E : Env) (call : CallF) (o : Oper) (k : Fr → St → Option (Fr × St)) (fr : Fr) (σ : St) : Option (Fr × St) :=
  match evOp E fr.val o.op σ with
  | some (.val v σ') => match fr.put o.dst v with
    | some fr' => k fr' σ'
    | none => none
  | some (.call f args) => match call f args σ with
    | some (v, σ') => match fr.put o.dst v with
      | some fr' => k fr' σ'
      | none => none
    | none => none
  | none => none
theorem stepF_spec (hi : FIOK i) {o : Oper} {c : CO} {put : V → F → F} {rest go : FCl} {fc : FCall} {call : CallF} {k : Fr → St → Option (Fr × St)} (hcall : CallR fc call) (hc : COk E i o.op c) (hput : cDst i o.dst = some put)
    (hk : ∀ ff fr fs σ, FfR i ff fr → SR fs σ → NormR i (rest fc ff fs) (k fr σ)) (hgo : stepF c put rest = some go) {ff : F} {fr : Fr} {fs : FS} {σ : St} (hf : FfR i ff fr) (h : SR fs σ) :
    NormR i (go fc ff fs) (slowStep E call o k fr σ) := by
  cases c with
  | pure g =>
    simp [stepF] at hgo; subst hgo
    obtain ⟨fr', h1, h2⟩ := hf.put hi hput (g ff)
    have := hk _ _ _ _ h2 h
    simp only [slowStep, hc ff fr σ hf, h1]
    exact this
  | part g =>
    simp [stepF] at hgo; subst hgo
    show NormR i (Option.rec (motive := fun _ => FOut) .no (fun v => rest fc (put v ff) fs) (g ff)) _
    cases hg : g ff with
    | none => trivial
    | some v =>
      obtain ⟨fr', h1, h2⟩ := hf.put hi hput v
      have := hk _ _ _ _ h2 h
      simp only [slowStep, hc ff fr σ v hf hg, h1]
      exact this
  | eff g =>
    simp [stepF] at hgo; subst hgo
    obtain ⟨a1, a2⟩ := hc ff fr fs σ hf h
    show NormR i (FR.rec (motive := fun _ => FOut) .no (fun v σ' => rest fc (put v ff) σ') (fun h args => FV.rec (motive := fun _ => FOut) .no (fun v σ' => rest fc (put v ff) σ') (fc h args fs)) (g ff fs)) _
    cases hg : g ff fs with
    | no => trivial
    | val v fs' =>
      obtain ⟨σ', b1, b2⟩ := a1 v fs' hg
      obtain ⟨fr', h1, h2⟩ := hf.put hi hput v
      have := hk _ _ _ _ h2 b2
      simp only [slowStep, b1, h1]
      exact this
    | call hh args =>
      have b1 := a2 hh args hg
      show NormR i (FV.rec (motive := fun _ => FOut) .no (fun v σ' => rest fc (put v ff) σ') (fc hh args fs)) _
      cases hcl : fc hh args fs with
      | no => trivial
      | ok v fs' =>
        obtain ⟨σ', c1, c2⟩ := hcall hh args fs σ v fs' h hcl
        obtain ⟨fr', h1, h2⟩ := hf.put hi hput v
        have := hk _ _ _ _ h2 c2
        simp only [slowStep, b1, c1, h1]
        exact this
theorem gdF_spec {x : V} {yes nay : FOut} {s : Option (Fr × St)} (hy : ∀ b, x = .bo b → b = true → NormR i yes s) (hn : ∀ b, x = .bo b → b = false → NormR i nay s) (ht : ∀ l, x = .tup l → NormR i nay s) : NormR i (gdF x yes nay) s := by
  unfold gdF
  split
  · rename_i b; cases b
    · exact hn _ rfl rfl
    · exact hy _ rfl rfl
  · exact ht _ rfl
  · trivial
theorem gdN_spec {x : V} {yes nay : FOut} {s : Option (Fr × St)} (hy : ∀ b, x = .bo b → b = false → NormR i yes s) (hn : ∀ b, x = .bo b → b = true → NormR i nay s) (ht : ∀ l, x = .tup l → NormR i nay s) : NormR i (gdN x yes nay) s := by
  unfold gdN
  split
  · rename_i b; cases b
    · exact hy _ rfl rfl
    · exact hn _ rfl rfl
  · exact ht _ rfl
  · trivial
theorem cOps_spec (hi : FIOK i) {ops : Array Oper} {fc : FCall} {call : CallF} (hcall : CallR fc call) : ∀ (l : List Oper) (cl : FCl), cOps E i ops.toList l = some cl →
    ∀ ff fr fs σ, FfR i ff fr → SR fs σ → NormR i (cl fc ff fs) (evOps E call ops l fr σ)
  | [], cl, hcl, ff, fr, fs, σ, hf, h => by
    simp [cOps] at hcl; subst hcl
    exact ⟨fr, σ, rfl, hf, h⟩
  | o :: l, cl, hcl, ff, fr, fs, σ, hf, h => by
    simp only [cOps] at hcl
    split at hcl
    · rename_i rest gd put hrest hgd hput
      split at hcl
      · rename_i go hgo
        have ih := cOps_spec hi hcall l rest hrest
        have hstep := stepF_spec hi (k := evOps E call ops l) hcall (cOpD_spec o) hput ih hgo hf h
        have hslow : guardOk ops fr o.guard = some true → evOps E call ops (o :: l) fr σ = slowStep E call o (evOps E call ops l) fr σ := fun hh => by
          simp only [evOps, hh]; rfl
        have hskip : guardOk ops fr o.guard = some false → NormR i (rest fc (put U ff) fs) (evOps E call ops (o :: l) fr σ) := fun hh => by
          obtain ⟨fr', h1, h2⟩ := hf.put hi hput U
          have := ih _ _ _ _ h2 h
          have e : (U : V).av = .tup [] := rfl
          rw [e] at h1
          simp only [evOps, hh, h1]
          exact this
        rcases cGuard_spec hgd hf with ⟨rfl, hg⟩ | ⟨g, w, rfl, hb, ht⟩
        · simp [guardF] at hcl; subst hcl
          rw [hslow hg]; exact hstep
        · cases w with
          | true =>
            simp [guardF] at hcl; subst hcl
            exact gdF_spec (fun b e e2 => by subst e2; rw [hslow (by simpa using hb _ e)]; exact hstep) (fun b e e2 => by subst e2; exact hskip (by simpa using hb _ e)) (fun l e => hskip (ht l e))
          | false =>
            simp [guardF] at hcl; subst hcl
            exact gdN_spec (fun b e e2 => by subst e2; rw [hslow (by simpa using hb _ e)]; exact hstep) (fun b e e2 => by subst e2; exact hskip (by simpa using hb _ e)) (fun l e => hskip (ht l e))
      · cases hcl
    · cases hcl

-- regions with a draw
mutual
theorem eqV_spec : ∀ x y : V, eqV x y = true → eqAV x.av y.av = true
  | .w k a, y, h => by
    cases y <;> simp [eqV] at h
    obtain ⟨rfl, rfl⟩ := h; simp [V.av, eqAV]
  | .neg k a, y, h => by
    cases y <;> simp [eqV] at h
    obtain ⟨rfl, rfl⟩ := h; simp [V.av, eqAV]
  | .low k m r, y, h => by cases y <;> simp [eqV] at h
  | .bo b, y, h => by
    cases y <;> simp [eqV] at h
    subst h; simp [V.av, eqAV]
  | .st l n, y, h => by
    cases y <;> simp [eqV] at h
    obtain ⟨rfl, rfl⟩ := h; simp [V.av, eqAV, eqS_iff]
  | .nilp, y, h => by cases y <;> simp [eqV] at h; rfl
  | .ptr b o, y, h => by
    cases y <;> simp [eqV] at h
    obtain ⟨rfl, rfl⟩ := h; simp [V.av, eqAV]
  | .nils, y, h => by cases y <;> simp [eqV] at h; rfl
  | .sl b o n c e, y, h => by
    cases y <;> simp [eqV] at h
    obtain ⟨⟨⟨⟨rfl, rfl⟩, rfl⟩, rfl⟩, rfl⟩ := h
    cases c <;> simp [V.av, capO, eqAV]
  | .esl, y, h => by cases y <;> simp [eqV] at h; rfl
  | .agg l, y, h => by
    cases y <;> simp [eqV] at h
    simpa [V.av, eqAV] using eqVs_spec _ _ h
  | .tup l, y, h => by
    cases y <;> simp [eqV] at h
    simpa [V.av, eqAV] using eqVs_spec _ _ h
  | .fn g l, y, h => by
    cases y <;> simp [eqV] at h
    obtain ⟨rfl, h⟩ := h
    simpa [V.av, eqAV] using eqVs_spec _ _ h
  | .nilf, y, h => by cases y <;> simp [eqV] at h; rfl
  | .nili, y, h => by cases y <;> simp [eqV] at h; rfl
  | .ifc t v, y, h => by
    cases y <;> simp [eqV] at h
    obtain ⟨rfl, h⟩ := h
    simpa [V.av, eqAV] using eqV_spec _ _ h
  | .unk, y, h => by cases y <;> simp [eqV] at h; rfl
theorem eqVs_spec : ∀ l m : List V, eqVs l m = true → eqAVs (V.avs l) (V.avs m) = true
  | [], m, h => by cases m <;> simp [eqVs] at h; rfl
  | a :: l, m, h => by
    cases m with
    | nil => simp [eqVs] at h
    | cons b m =>
      simp only [eqVs, Bool.and_eq_true] at h
      simp only [V.avs, eqAVs, eqV_spec a b h.1, eqVs_spec l m h.2, Bool.and_self]
end
theorem eqAVs_bytes : ∀ s : List UInt8, eqAVs (bytesOf s) (bytesOf s) = true
  | [] => rfl
  | c :: s => by
    have := eqAVs_bytes s
    simp only [bytesOf, List.map_cons, eqAVs, eqAV] at this ⊢
    simp [this]
theorem nb_take_mod (l n k : Nat) : (nb l k).take n = (nb l (k % 256 ^ n)).take n := by
  by_cases h : n ≤ l
  · rw [nb_take _ _ _ h, nb_take _ _ _ h, nb_mod _ _ _ (Nat.le_refl _)]
  · rw [nb_mod _ _ _ (by omega)]
theorem sameF_spec {f1 : FS} {σ1 : St} (h : SR f σ) (h1 : SR f1 σ1) {x : Touch} (hs : sameF f f1 x = true) : sameCells σ σ1 x = true := by
  unfold sameF at hs
  unfold sameCells
  split at hs
  · cases hs
  · rename_i n hn
    rw [hn]
    simp only
    split at hs
    · rename_i c e ro d e' ro' hb hb1
      rw [h.row hb, h1.row hb1]
      simp only
      split at hs
      · rename_i l m hl hm
        have e1 := takeR_avs hl
        have e2 := takeR_avs hm
        rw [dropR_avs] at e1 e2
        rw [e1, e2]
        exact eqVs_spec _ _ hs
      · cases hs
    · rename_i l c e ro m d e' ro' hb hb1
      rw [h.bs hb, h1.bs hb1]
      simp only
      rw [bc_eq] at hs
      split at hs
      · rename_i hlm
        have hlm : l = m := by simpa using hlm
        subst hlm
        have hs : c / 256 ^ x.o % 256 ^ n = d / 256 ^ x.o % 256 ^ n := by
          have := Nat.eq_of_beq_eq_true hs
          simpa [n_mod, n_div, n_pow] using this
        rw [bytesOf_drop, bytesOf_drop, bytesOf_take, bytesOf_take, nb_drop, nb_drop, nb_take_mod, nb_take_mod (l - x.o) n (d / 256 ^ x.o), hs]
        exact eqAVs_bytes _
      · cases hs
    · cases hs
/-- what waits: what the fast one has not kept, nobody looks at -/
def PendR (l : List DOp) (p q : FPend) : Prop := ∀ e ∈ q, e ∈ p ∨ needs e.1 l = false
theorem PendR.tail {x : DOp} {l : List DOp} {p q : FPend} (h : PendR (x :: l) p q) : PendR l p q := fun e he => (h e he).imp_right fun hn => by
  simp only [needs, Bool.or_eq_false_iff] at hn; exact hn.2
theorem apartLog_iff (anc : List Nat) (σ σ1 : St) : ∀ q, apartLog anc σ σ1 q = true ↔ ∀ e ∈ q, (memN anc e.1 || ((Nat.blt e.2.b σ.next && !memN σ1.log e.2.b) || sameCells σ σ1 e.2)) = true
  | [] => by simp [apartLog]
  | (j, x) :: q => by simp only [apartLog, Bool.and_eq_true, apartLog_iff anc σ σ1 q, List.forall_mem_cons]
theorem apartF_iff (anc : List Nat) (f f1 : FS) : ∀ q, apartF anc f f1 q = true ↔ ∀ e ∈ q, bc (memR anc e.1) true (bc (bc (Nat.blt e.2.b f.next) (not (memR f1.log e.2.b)) false) true (sameF f f1 e.2)) = true
  | [] => by simp [apartF]
  | x :: q => by
    have e : apartF anc f f1 (x :: q) = bc (bc (memR anc x.1) true (bc (bc (Nat.blt x.2.b f.next) (not (memR f1.log x.2.b)) false) true (sameF f f1 x.2))) (apartF anc f f1 q) false := rfl
    rw [e, List.forall_mem_cons, ← apartF_iff anc f f1 q]
    cases bc (memR anc x.1) true (bc (bc (Nat.blt x.2.b f.next) (not (memR f1.log x.2.b)) false) true (sameF f f1 x.2)) <;> simp [bc_true, bc_false]
theorem memR_memN (l : List Nat) (b : Nat) : memR l b = memN l b := by
  cases h : memN l b with
  | true => exact (memR_eq l b).2 ((memN_iffF l b).1 h)
  | false =>
    cases h2 : memR l b with
    | true => exact absurd ((memN_iffF l b).2 ((memR_eq l b).1 h2)) (by rw [h]; simp)
    | false => rfl
theorem apart_spec {f1 : FS} {σ1 : St} (h : SR f σ) (h1 : SR f1 σ1) {x : DOp} {l : List DOp} {p q : FPend} (hx : x.heavy = true) (hp : PendR (x :: l) p q) (ha : apartF x.anc f f1 p = true) : apartLog x.anc σ σ1 q = true := by
  rw [apartLog_iff]
  intro e he
  rcases hp e he with hm | hn
  · have := (apartF_iff _ _ _ _).1 ha e hm
    rw [memR_memN] at this
    cases ha : memN x.anc e.1 with
    | true => rfl
    | false =>
      rw [ha] at this
      rw [bc_false] at this
      rw [h.next]
      have hlog : memN σ1.log e.2.b = memR f1.log e.2.b := by
        rw [memR_memN]
        cases h2 : memN f1.log e.2.b with
        | true => exact (memN_iffF _ _).2 ((h1.log _).2 ((memN_iffF _ _).1 h2))
        | false =>
          cases h3 : memN σ1.log e.2.b with
          | true => exact absurd ((memN_iffF _ _).2 ((h1.log _).1 ((memN_iffF _ _).1 h3))) (by rw [h2]; simp)
          | false => rfl
      rw [hlog]
      cases hb : Nat.blt e.2.b f.next with
      | false =>
        rw [hb] at this
        simp only [bc_false] at this
        simp [sameF_spec h h1 this]
      | true =>
        rw [hb] at this
        rw [bc_true] at this
        cases hm2 : memR f1.log e.2.b with
        | false => simp
        | true =>
          rw [hm2] at this
          simp only [Bool.not_true, bc_false] at this
          simp [sameF_spec h h1 this]
  · simp only [needs, hx, Bool.true_and, Bool.or_eq_false_iff, Bool.not_eq_false'] at hn
    simp [hn.1]
end Go.Ev
