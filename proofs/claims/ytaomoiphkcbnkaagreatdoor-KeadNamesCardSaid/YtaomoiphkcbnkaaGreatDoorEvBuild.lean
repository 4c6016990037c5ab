/- The law of this seat holds of every input: a part of the proof (an evaluator that is proved to answer as the model does, and its runs by the kernel). -/
import Derived.Test.YtaomoiphkcbnkaaGreatDoorEvOps
import Derived.Great.BuildSlice
set_option linter.unusedVariables false
set_option linter.unusedSimpArgs false
section
namespace Go.Ev
variable {P : Program} {E : Env} {ρ : Rho} {σ σ' : St} {w : World} {fr : Fr} {a : Act}

theorem isUnk_ne {v : AV} (h : isUnk v = false) : v ≠ .unk := fun e => by subst e; cases h

theorem foldl_put (off : Nat) : ∀ (cl : List Value) (k : Nat) (arr : Array Value),
    ((cl.zipIdx k).foldl (fun cs (p : Value × Nat) => cs.setIfInBounds (off + p.2) p.1) arr).size = arr.size ∧
    ∀ j, ((cl.zipIdx k).foldl (fun cs (p : Value × Nat) => cs.setIfInBounds (off + p.2) p.1) arr)[j]? = if off + k ≤ j ∧ j < off + k + cl.length ∧ j < arr.size then cl[j - (off + k)]? else arr[j]?
  | [], k, arr => ⟨rfl, fun j => by simp; intros; omega⟩
  | c :: cl, k, arr => by
    obtain ⟨h1, h2⟩ := foldl_put off cl (k + 1) (arr.setIfInBounds (off + k) c)
    simp only [List.zipIdx_cons, List.foldl_cons]
    refine ⟨by rw [h1]; simp, fun j => ?_⟩
    rw [h2 j]
    simp only [Array.size_setIfInBounds, List.length_cons]
    by_cases hj : off + (k + 1) ≤ j ∧ j < off + (k + 1) + cl.length ∧ j < arr.size
    · rw [if_pos hj, if_pos (by omega)]
      rw [show j - (off + k) = (j - (off + (k + 1))) + 1 by omega]
      simp
    · rw [if_neg hj]
      by_cases he : j = off + k
      · subst he
        by_cases hs : off + k < arr.size
        · rw [if_pos (by omega), Array.getElem?_setIfInBounds_self_of_lt hs]
          simp
        · rw [if_neg (by omega)]
          rw [Array.getElem?_eq_none (by simp; omega), Array.getElem?_eq_none (by omega)]
      · rw [Array.getElem?_setIfInBounds_ne (fun e => he e.symm), if_neg (by omega)]

theorem fill_sound {place place' : Nat → Option (Nat × Nat)} (hp : ∀ i x, place i = some x → place' i = some x) :
    ∀ (ps : List (Nat × AV)) (ps' : List (Nat × Value)) (cells l : List AV) (vs : List Value), ps.length = ps'.length → (∀ (j : Nat) (x : Nat × AV), ps[j]? = some x → ∃ v', ps'[j]? = some (x.1, v') ∧ VR ρ x.2 v') →
      VRL ρ cells vs → fillC place cells ps = some l → ∃ vs', Instr.fill place' vs.toArray ps' = some vs'.toArray ∧ VRL ρ l vs'
  | [], [], cells, l, vs, _, _, hv, h => by simp [fillC] at h; subst h; exact ⟨vs, rfl, hv⟩
  | [], _ :: _, _, _, _, hl, _, _, _ => by simp at hl
  | _ :: _, [], _, _, _, hl, _, _, _ => by simp at hl
  | (i, v) :: ps, p' :: ps', cells, l, vs, hl, hr, hv, h => by
    obtain ⟨v', h0, hvv⟩ := hr 0 (i, v) rfl
    simp at h0; subst h0
    simp only [fillC] at h
    split at h
    · cases h
    · rename_i off size hpl
      split at h
      · cases h
      · rename_i hu
        simp only [Bool.or_eq_true, not_or, Bool.not_eq_true] at hu
        have hu1 := isUnk_ne hu.1
        have hu2 : size ≠ 0 := fun e => by have := hu.2; subst e; cases this
        split at h
        · rename_i hsz
          split at h
          · rename_i l1 hput
            have hsz : v.cells.length = size := by simpa using hsz
            obtain ⟨p1, p2, p3⟩ := putL_spec _ _ _ _ hput
            have hc := hvv.cells hu1
            have hcl := hc.length
            have hcl' : v'.cells.size = size := by rw [← hsz, hcl]; simp
            have hvl := hv.length
            obtain ⟨f1, f2⟩ := foldl_put off v'.cells.toList 0 vs.toArray
            have hfold : v'.cells.zipIdx.foldl (fun cs (x : Value × Nat) => match x with | (c, j) => cs.setIfInBounds (off + j) c) vs.toArray = (v'.cells.toList.zipIdx 0).foldl (fun cs (p : Value × Nat) => cs.setIfInBounds (off + p.2) p.1) vs.toArray := by
              rw [← Array.foldl_toList]
              simp
            have hin : off + v.cells.length ≤ cells.length := p2 (fun e => by rw [e] at hsz; simp at hsz; omega)
            generalize hA : (v'.cells.toList.zipIdx 0).foldl (fun cs (p : Value × Nat) => cs.setIfInBounds (off + p.2) p.1) vs.toArray = A at f1 f2 hfold
            have hrel : VRL ρ l1 A.toList := by
              refine VRL.of_get ?_ (fun j u hu => ?_)
              · rw [p1, hvl]; simpa using f1.symm
              · rw [p3 j] at hu
                have hj2 := f2 j
                by_cases hj : off ≤ j ∧ j < off + v.cells.length
                · rw [if_pos hj] at hu
                  obtain ⟨u', h1, h2⟩ := hc.get _ _ hu
                  refine ⟨u', ?_, h2⟩
                  rw [if_pos (by simp; omega)] at hj2
                  rw [Array.getElem?_toList, hj2, Nat.add_zero]
                  simpa using h1
                · rw [if_neg hj] at hu
                  obtain ⟨u', h1, h2⟩ := hv.get _ _ hu
                  refine ⟨u', ?_, h2⟩
                  rw [if_neg (by simp; omega)] at hj2
                  rw [Array.getElem?_toList, hj2]
                  simpa using h1
            obtain ⟨vs2, g1, g2⟩ := fill_sound hp ps ps' l1 l A.toList (by simpa using hl) (fun j x hx => by simpa using hr (j + 1) x (by simpa using hx)) hrel h
            refine ⟨vs2, ?_, g2⟩
            simp only [Instr.fill, hp _ _ hpl]
            rw [if_neg (by simp; omega), hfold]
            simpa using g1
          · cases h
        · cases h
end Go.Ev
end
section
namespace Go.Ev
variable {P : Program} {E : Env} {ρ : Rho} {σ σ' : St} {w : World} {fv : Operand → AV} {a : Act}

theorem nth_eq {α : Type} : ∀ (l : List α) (n : Nat), nth l n = l[n]?
  | [], n => by simp [nth]
  | _ :: _, 0 => rfl
  | _ :: l, n + 1 => by simp [nth, nth_eq l n]
theorem mapM_get {α β : Type} {f : α → Option β} : ∀ {l : List α} {r : List β}, l.mapM f = some r → ∀ (i : Nat) (x : α), l[i]? = some x → ∃ y, f x = some y ∧ r[i]? = some y
  | [], r, _, i, x, hx => by simp at hx
  | c :: l, r, h, i, x, hx => by
    simp only [List.mapM_cons, Option.bind_eq_bind, Option.pure_def, Option.bind_eq_some_iff, Option.some.injEq] at h
    obtain ⟨y, h1, r', h2, rfl⟩ := h
    cases i with
    | zero => simp at hx; subst hx; exact ⟨y, h1, rfl⟩
    | succ i => simpa using mapM_get h2 i x (by simpa using hx)
theorem parts_rel (hf : VlR ρ fv a) (ps : Array (Nat × Operand)) :
    (parts fv ps).length = (ps.map fun (i, x) => (i, a.eval x)).toList.length ∧ ∀ (j : Nat) (x : Nat × AV), (parts fv ps)[j]? = some x → ∃ v', (ps.map fun (i, x) => (i, a.eval x)).toList[j]? = some (x.1, v') ∧ VR ρ x.2 v' := by
  unfold parts
  refine ⟨by simp, fun j x hx => ?_⟩
  simp only [List.getElem?_map] at hx
  cases hp : ps.toList[j]? with
  | none => rw [hp] at hx; simp at hx
  | some p =>
    rw [hp] at hx
    simp at hx
    subst hx
    refine ⟨a.eval p.2, ?_, hf.eval p.2⟩
    have : ps[j]? = some p := by simpa using hp
    simp [this]
theorem TyOK.zero {t : Nat} {ti : TyI} (h : TyOK P t ti) (ρ : Rho) : ∃ i z, P.info? t = some i ∧ i.zero = some z ∧ VRL ρ ti.zero z.cells.toList := by
  obtain ⟨i, hi, _, _, z, hz, hr⟩ := h.info
  exact ⟨i, z, hi, hz, hr ρ⟩

theorem step_build {o : Oper} {t : Nat} {ps : Array (Nat × Operand)} {ti : TyI} {l : List AV} {pl : Nat → Option (Nat × Nat)} (ho : o.op = .build t ps) (ht : TyOK P t ti) (hf : VlR ρ fv a) (h : HR ρ σ w)
    (hpl : (∃ (n e : Nat) (te : TyI), ti.k = .arr n e ∧ TyOK P e te ∧ pl = fun i => some (i * te.size, te.size)) ∨ (∃ fs, ti.k = .struct fs ∧ ∀ i x, pl i = some x → ∃ off ft tf, fs[i]? = some (off, ft) ∧ TyOK P ft tf ∧ x = (off, tf.size)))
    (hl : fillC pl ti.zero (parts fv ps) = some l) : Does P o a ρ σ w (.agg l) σ := by
  obtain ⟨i, z, hi, hz, hzr⟩ := ht.zero ρ
  obtain ⟨hp1, hp2⟩ := parts_rel hf ps
  have hzz : z.cells.toList.toArray = z.cells := by simp
  rcases hpl with ⟨_, e, te, hk, hte, rfl⟩ | ⟨fs, hk, hpl⟩
  · have hu := ht.arr hk
    obtain ⟨ie, hie, hsz, _⟩ := hte.info
    obtain ⟨vs, h1, h2⟩ := fill_sound (place' := fun i => some (i * ie.size, ie.size)) (fun i x hx => by rw [hsz]; exact hx) _ _ _ _ _ hp1 hp2 hzr hl
    rw [hzz] at h1
    refine .same h (v' := .agg vs.toArray) ?_ (.agg h2)
    have := run_build (P := P) w t (ps.map fun (i, x) => (i, a.eval x)) vs.toArray (by simp only [Program.built, hi, hu, hz, hie]; exact h1)
    simp [execOp, ho, this]
  · obtain ⟨fields, hu, hfs⟩ := ht.struct hk
    obtain ⟨places, hpm⟩ := ht.places fields hu
    have hplace : ∀ i x, pl i = some x → places.toArray[i]? = some x := fun i x hx => by
      obtain ⟨off, ft, tf, h1, h2, rfl⟩ := hpl i x hx
      rw [hfs, List.getElem?_map] at h1
      cases hq : fields.toList[i]? with
      | none => rw [hq] at h1; simp at h1
      | some f =>
        rw [hq] at h1
        simp at h1
        obtain ⟨y, g1, g2⟩ := mapM_get hpm i f hq
        obtain ⟨it, hit, hs, _⟩ := h2.info
        rw [h1.2, hit] at g1
        simp at g1
        rw [List.getElem?_toArray, g2, ← g1, h1.1, hs]
    obtain ⟨vs, h1, h2⟩ := fill_sound (place' := fun i => places.toArray[i]?) hplace _ _ _ _ _ hp1 hp2 hzr hl
    rw [hzz] at h1
    refine .same h (v' := .agg vs.toArray) ?_ (.agg h2)
    have := run_build (P := P) w t (ps.map fun (i, x) => (i, a.eval x)) vs.toArray (by simp only [Program.built, hi, hu, hz, hpm]; exact h1)
    simp [execOp, ho, this]

theorem rep_spec (z : List AV) : ∀ n, (rep n z).length = n * z.length ∧ ∀ j, j < n * z.length → (rep n z)[j]? = z[j % z.length]?
  | 0 => ⟨by simp [rep], by simp⟩
  | n + 1 => by
    obtain ⟨h1, h2⟩ := rep_spec z n
    refine ⟨by simp only [rep, List.length_append, h1]; rw [Nat.add_mul]; omega, fun j hj => ?_⟩
    simp only [rep]
    by_cases hlt : j < z.length
    · rw [List.getElem?_append_left hlt, Nat.mod_eq_of_lt hlt]
    · have e1 : (n + 1) * z.length = n * z.length + z.length := Nat.succ_mul ..
      rw [List.getElem?_append_right (by omega), h2 _ (by omega)]
      rw [← Nat.mod_eq_sub_mod (by omega : j ≥ z.length)]
theorem rep_rel {z : List AV} {zv : Array Value} (hz : VRL ρ z zv.toList) (n : Nat) : VRL ρ (rep n z) ((Array.range (n * zv.size)).map (zv[· % zv.size]!)).toList := by
  obtain ⟨h1, h2⟩ := rep_spec z n
  have hl : z.length = zv.size := by rw [hz.length]; simp
  refine VRL.of_get (by rw [h1, hl]; simp) (fun j v hj => ?_)
  have hlt : j < n * z.length := by rw [← h1]; exact (List.getElem?_eq_some_iff.1 hj).1
  rw [h2 j hlt] at hj
  obtain ⟨v', g1, g2⟩ := hz.get _ _ hj
  refine ⟨v', ?_, g2⟩
  have hpos : 0 < z.length := by
    cases hq : z.length with
    | zero => rw [hq] at hlt; omega
    | succ m => omega
  have hm : j % zv.size < zv.size := Nat.mod_lt _ (by omega)
  rw [hl] at g1 hlt
  have g1' : zv[j % zv.size]? = some v' := by simpa using g1
  simp only [Array.toList_map, List.getElem?_map, Array.toList_range, List.getElem?_range hlt, Option.map_some]
  rw [getElem!_pos zv _ hm]
  rw [Array.getElem?_eq_getElem hm] at g1'
  exact g1'

theorem buildSlice_makes {o : Oper} {t e n : Nat} {ps : Array (Nat × Operand)} {ti te : TyI} {l : List AV} (ho : o.op = .buildSlice t n ps) (ht : TyOK P t ti) (hk : ti.k = .slice e) (hte : TyOK P e te) (hf : VlR ρ fv a)
    (hl : fillC (fun i => some (i * te.size, te.size)) (rep n te.zero) (parts fv ps) = some l) (hsm : n * te.size ≤ 16777216) : ∃ vs : List Value, (execOp a.eval o).run P w = .ok (.value (.slice (some ⟨w.heap.size, 0, none⟩) n n)) (w.alloc (.cells vs.toArray e)) ∧ VRL ρ l vs ∧ l.length = n * te.size := by
  have hu := ht.slice hk
  obtain ⟨ie, z, hie, hz, hzr⟩ := hte.zero ρ
  obtain ⟨ie', hie', hsz, _⟩ := hte.info
  rw [hie] at hie'; simp at hie'; subst hie'
  have hzl : z.cells.size = te.size := by rw [← hte.zlen, hzr.length]; simp
  obtain ⟨hp1, hp2⟩ := parts_rel hf ps
  have hrep := rep_rel hzr n
  obtain ⟨vs, h1, h2⟩ := fill_sound (place' := fun i => some (i * ie.size, ie.size)) (fun i x hx => by rw [hsz]; exact hx) _ _ _ _ _ hp1 hp2 hrep hl
  have hlen : l.length = n * te.size := by
    have h3 := (rep_spec te.zero n).1
    rw [hte.zlen] at h3
    rw [← h3]
    -- fillC keeps the length
    have key : ∀ (ps : List (Nat × AV)) (c l : List AV), fillC (fun i => some (i * te.size, te.size)) c ps = some l → l.length = c.length := by
      intro ps
      induction ps with
      | nil => intro c l hh; simp [fillC] at hh; rw [hh]
      | cons p ps ih =>
        intro c l hh
        simp only [fillC] at hh
        split at hh
        · cases hh
        · split at hh
          · split at hh
            · rename_i hput
              rw [ih _ _ hh]; exact (putL_spec _ _ _ _ hput).1
            · cases hh
          · cases hh
    exact key _ _ _ hl
  refine ⟨vs, ?_, h2, hlen⟩
  · by_cases h0 : n * ie.size = 0
    · have h0' : n * te.size = 0 := by rw [← hsz]; exact h0
      have hvs : vs = [] := by
        have := h2.length; rw [hlen, h0'] at this
        exact List.eq_nil_of_length_eq_zero this.symm
      subst hvs
      have h1' : Instr.fill (fun i => some (i * ie.size, ie.size)) #[] (ps.map fun (i, x) => (i, a.eval x)).toList = some #[] := by
        rw [show ((Array.range (n * z.cells.size)).map (z.cells[· % z.cells.size]!)).toList.toArray = #[] by rw [hzl, h0']; simp] at h1
        exact h1
      simp at h1'
      have hr0 : ∀ (f : Nat → Value), Array.map f (Array.range 0) = #[] := fun f => by simp
      simp [execOp, ho, Instr.buildSlice, run_underlying hu, sizeOf, typeInfo, hie, h0, newRow, hr0, h1']
    · have h1' : Instr.fill (fun i => some (i * ie.size, ie.size)) ((Array.range (n * ie.size)).map (z.cells[· % z.cells.size]!)) (ps.map fun (i, x) => (i, a.eval x)).toList = some vs.toArray := by
        rw [Array.toArray_toList, hsz, ← hzl] at h1
        rw [hsz, ← hzl]
        exact h1
      have := run_buildSlice (P := P) w t e n (ps.map fun (i, x) => (i, a.eval x)) vs.toArray ie z hu hie hz (by rw [hsz]; omega) h0 h1'
      simp [execOp, ho, this]
theorem step_buildSlice {o : Oper} {t e n : Nat} {ps : Array (Nat × Operand)} {ti te : TyI} {l : List AV} (ho : o.op = .buildSlice t n ps) (ht : TyOK P t ti) (hk : ti.k = .slice e) (hte : TyOK P e te) (hf : VlR ρ fv a) (h : HR ρ σ w)
    (hl : fillC (fun i => some (i * te.size, te.size)) (rep n te.zero) (parts fv ps) = some l) (hsm : n * te.size ≤ 16777216) : Does P o a ρ σ w (.sl σ.next 0 n (some n) te.size) (σ.new (.row l e false)) := by
  obtain ⟨vs, h1, h2, hlen⟩ := buildSlice_makes (P := P) (w := w) ho ht hk hte hf hl hsm
  refine ⟨.slice (some ⟨w.heap.size, 0, none⟩) n n, _, _, .inl h1, ?_, new_row h h2 e⟩
  refine .sl (d := 0) (upR_same ..) (fun x hx => by simpa using hx) (Nat.le_refl _) ?_
  rw [hlen]; omega

theorem step_fieldAddr {o : Oper} {t f b off : Nat} {x : Operand} {ti : TyI} {fs : List (Nat × Nat)} {fo ft : Nat} {tf : TyI} (ho : o.op = .fieldAddr t x f) (ht : TyOK P t ti) (hk : ti.k = .struct fs) (hfs : fs[f]? = some (fo, ft)) (htf : TyOK P ft tf)
    (hsz : tf.size ≠ 0) (hf : VlR ρ fv a) (h : HR ρ σ w) (hx : fv x = .ptr b off) : Does P o a ρ σ w (.ptr b (off + fo)) σ := by
  have hp := hf.eval x
  rw [hx] at hp
  obtain ⟨B, d, z, hb, hv⟩ := hp.inv_ptr
  obtain ⟨fields, hu, hfe⟩ := ht.struct hk
  rw [hfe, List.getElem?_map] at hfs
  cases hq : fields.toList[f]? with
  | none => rw [hq] at hfs; simp at hfs
  | some fd =>
    rw [hq] at hfs
    simp at hfs
    have hq' : fields[f]? = some fd := by simpa using hq
    refine .same h (v' := .pointer (some ⟨B, d + (off + fo), none⟩)) ?_ (.ptr hb)
    simp [execOp, ho, hv, Instr.fieldAt, run_underlying hu, hq', Instr.sureAddr, fieldPlace, hfs.2, htf.size_run, hsz, Addr.add_mid, hfs.1, Nat.add_assoc]
theorem step_indexAddr_slice {o : Oper} {t e b off n we : Nat} {c : Option Nat} {x i : Operand} {k : IntKind} {j : Int} {ti te : TyI} (ho : o.op = .indexAddr t x i) (ht : TyOK P t ti) (hk : ti.k = .slice e) (hte : TyOK P e te) (hf : VlR ρ fv a) (h : HR ρ σ w)
    (hx : fv x = .sl b off n c we) (hi : fv i = .int k j) (h0 : 0 ≤ j) (h1 : j.toNat < n) : Does P o a ρ σ w (.ptr b (off + j.toNat * te.size)) σ := by
  have hp := hf.eval x
  rw [hx] at hp
  obtain ⟨B, d, z, c', hb, _, _, _, hv⟩ := hp.inv_sl
  have hiv := hf.eval i
  rw [hi] at hiv
  have hiv := hiv.inv_int
  have hu := ht.slice hk
  refine .same h (v' := .pointer (some ⟨B, d + (off + j.toNat * te.size), none⟩)) ?_ (.ptr hb)
  have hj : j < (n : Int) := by omega
  simp [execOp, ho, hv, hiv, Instr.indexAt, asIntOf, run_underlying hu, h0, hj, hte.size_run, Addr.add_mid, Nat.add_assoc]
theorem step_indexAddr_arr {o : Oper} {t e b off n : Nat} {x i : Operand} {k : IntKind} {j : Int} {ti te : TyI} (ho : o.op = .indexAddr t x i) (ht : TyOK P t ti) (hk : ti.k = .arr n e) (hte : TyOK P e te) (hf : VlR ρ fv a) (h : HR ρ σ w)
    (hx : fv x = .ptr b off) (hi : fv i = .int k j) (h0 : 0 ≤ j) (h1 : j.toNat < n) : Does P o a ρ σ w (.ptr b (off + j.toNat * te.size)) σ := by
  have hp := hf.eval x
  rw [hx] at hp
  obtain ⟨B, d, z, hb, hv⟩ := hp.inv_ptr
  have hiv := hf.eval i
  rw [hi] at hiv
  have hiv := hiv.inv_int
  have hu := ht.arr hk
  refine .same h (v' := .pointer (some ⟨B, d + (off + j.toNat * te.size), none⟩)) ?_ (.ptr hb)
  have hj : j < (n : Int) := by omega
  simp [execOp, ho, hv, hiv, Instr.indexAt, Instr.sureAddr, asIntOf, run_underlying hu, h0, hj, hte.size_run, Addr.add_mid, Nat.add_assoc]
theorem step_index_string {o : Oper} {t : Nat} {x i : Operand} {k : IntKind} {j : Int} {ti : TyI} {s : List UInt8} {c : UInt8} (ho : o.op = .index t x i) (ht : TyOK P t ti) (hk : ti.k = .string) (hf : VlR ρ fv a) (h : HR ρ σ w)
    (hx : fv x = .str s) (hi : fv i = .int k j) (h0 : 0 ≤ j) (h1 : s[j.toNat]? = some c) : Does P o a ρ σ w (.int .u8 c.toNat) σ := by
  have hp := hf.eval x
  rw [hx] at hp
  obtain ⟨sb, hv, hs⟩ := hp.inv_str
  have hiv := hf.eval i
  rw [hi] at hiv
  have hiv := hiv.inv_int
  have hu := ht.string hk
  refine .same h (v' := .int .u8 c.toNat) ?_ (.int _ _)
  have hlt : j.toNat < sb.size := by
    have := (List.getElem?_eq_some_iff.1 h1).1
    rw [← hs] at this
    simpa using this
  have hg : sb[j.toNat]? = some c := by
    rw [getElem?_pos sb _ hlt]
    rw [← hs] at h1
    have : sb.data[j.toNat]? = some c := by simpa using h1
    rw [Array.getElem?_eq_getElem (by exact hlt)] at this
    exact this
  simp [execOp, ho, hv, hiv, Instr.index, asIntOf, run_underlying hu, h0, hg]
theorem part_one {t : Nat} {ti : TyI} (ht : TyOK P t ti) (hk : isAggK ti.k = false) {vs : List Value} {off : Nat} {v : Value} (hv : vs[off]? = some v) : (part t vs.toArray off).run P w = .ok v w := by
  have : vs.toArray[off]? = some v := by simpa using hv
  simp [part, ht.agg_run, hk, this]
theorem part_agg {t : Nat} {ti : TyI} (ht : TyOK P t ti) (hk : isAggK ti.k = true) (vs : List Value) (off : Nat) : (part t vs.toArray off).run P w = .ok (.agg ((vs.drop off).take ti.size).toArray) w := by
  simp [part, ht.agg_run, hk, ht.size_run]
theorem step_field {o : Oper} {t f : Nat} {x : Operand} {ti : TyI} {fs : List (Nat × Nat)} {fo ft : Nat} {tf : TyI} {cs : List AV} {v : AV} (ho : o.op = .field t x f) (ht : TyOK P t ti) (hk : ti.k = .struct fs) (hfs : fs[f]? = some (fo, ft)) (htf : TyOK P ft tf)
    (hf : VlR ρ fv a) (h : HR ρ σ w) (hx : fv x = .agg cs) (hv : (isAggK tf.k = true ∧ v = .agg ((cs.drop fo).take tf.size)) ∨ (isAggK tf.k = false ∧ cs[fo]? = some v)) : Does P o a ρ σ w v σ := by
  have hp := hf.eval x
  rw [hx] at hp
  obtain ⟨vs, he, hr⟩ := hp.inv_agg
  obtain ⟨fields, hu, hfe⟩ := ht.struct hk
  rw [hfe, List.getElem?_map] at hfs
  cases hq : fields.toList[f]? with
  | none => rw [hq] at hfs; simp at hfs
  | some fd =>
    rw [hq] at hfs
    simp at hfs
    have hq' : fields[f]? = some fd := by simpa using hq
    obtain ⟨e1, e2⟩ := hfs
    subst e1; subst e2
    rcases hv with ⟨hg, rfl⟩ | ⟨hg, hv⟩
    · refine .same h (v' := .agg ((vs.drop fd.offset).take tf.size).toArray) ?_ (.agg ((hr.drop _).take tf.size))
      have := part_agg (w := w) htf hg vs fd.offset
      simp [execOp, ho, he, Instr.field, run_underlying hu, hq', asAgg, this]
    · obtain ⟨v', g1, g2⟩ := hr.get _ _ hv
      refine .same h (v' := v') ?_ g2
      have := part_one (w := w) htf hg g1
      simp [execOp, ho, he, Instr.field, run_underlying hu, hq', asAgg, this]
theorem step_index_arr {o : Oper} {t e n : Nat} {x i : Operand} {k : IntKind} {j : Int} {ti te : TyI} {cs : List AV} {v : AV} (ho : o.op = .index t x i) (ht : TyOK P t ti) (hk : ti.k = .arr n e) (hte : TyOK P e te) (hf : VlR ρ fv a) (h : HR ρ σ w)
    (hx : fv x = .agg cs) (hi : fv i = .int k j) (h0 : 0 ≤ j) (h1 : j.toNat < n) (hv : (isAggK te.k = true ∧ v = .agg ((cs.drop (j.toNat * te.size)).take te.size)) ∨ (isAggK te.k = false ∧ cs[j.toNat * te.size]? = some v)) : Does P o a ρ σ w v σ := by
  have hp := hf.eval x
  rw [hx] at hp
  obtain ⟨vs, he, hr⟩ := hp.inv_agg
  have hiv := hf.eval i
  rw [hi] at hiv
  have hiv := hiv.inv_int
  have hu := ht.arr hk
  have hj : j < (n : Int) := by omega
  rcases hv with ⟨hg, rfl⟩ | ⟨hg, hv⟩
  · refine .same h (v' := .agg ((vs.drop (j.toNat * te.size)).take te.size).toArray) ?_ (.agg ((hr.drop _).take _))
    have := part_agg (w := w) hte hg vs (j.toNat * te.size)
    simp [execOp, ho, he, hiv, Instr.index, asIntOf, run_underlying hu, h0, hj, hte.size_run, this]
  · obtain ⟨v', g1, g2⟩ := hr.get _ _ hv
    refine .same h (v' := v') ?_ g2
    have := part_one (w := w) hte hg g1
    simp [execOp, ho, he, hiv, Instr.index, asIntOf, run_underlying hu, h0, hj, hte.size_run, this]
end Go.Ev
end
