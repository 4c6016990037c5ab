/- The law of this seat holds of every input: a part of the proof (an evaluator that is proved to answer as the model does, and its runs by the kernel). -/
import Derived.Test.YtaomoiphkcbnkaaGreatDoorEvCv
import Derived.Laws.MakeOwn
set_option linter.unusedVariables false
set_option linter.unusedSimpArgs false
section
namespace Go.Ev
variable {P : Program} {E : Env} {ρ : Rho} {σ σ' : St} {w : World} {fv : Operand → AV} {a : Act}

theorem equal_run {t : Nat} {x y : Value} {b : Bool} (h : ∀ d : Nat, (Op.equalIn (d + 1) t x y).run P w = .ok b w) : (Op.equal t x y).run P w = .ok b w := h 9999
theorem binop_equal {op : BinOp} {t : Nat} {x y : Value} {b : Bool} (hop : op = .eql ∨ op = .neq) (hx : ∀ k n, x ≠ .int k n) (hx2 : ∀ s, x ≠ .string s) (hx3 : ∀ k n, x ≠ .float k n) (hx4 : ∀ k n m, x ≠ .complex k n m) (h : (Op.equal t x y).run P w = .ok b w) :
    (binOp op t x y).run P w = .ok (.bool (if op = .eql then b else !b)) w := by
  rcases hop with rfl | rfl
  · have : binOp .eql t x y = (do pure (.bool (← Op.equal t x y))) := by
      cases x <;> first | rfl | simp_all
    simp [this, h]
  · have : binOp .neq t x y = (do pure (.bool (!(← Op.equal t x y)))) := by
      cases x <;> first | rfl | simp_all
    simp [this, h]

theorem eqT_sound {t : Nat} {cst : Bool} {x y : AV} {x' y' : Value} {b : Bool} (hE : EnvOK P E) (hx : VR ρ x x') (hy : VR ρ y y') (h : eqT E t cst x y = some b) :
    (Op.equal t x' y').run P w = .ok b w ∧ (∀ k n, x' ≠ .int k n) ∧ (∀ s, x' ≠ .string s) ∧ (∀ k n, x' ≠ .float k n) ∧ (∀ k n m, x' ≠ .complex k n m) ∧
      (∀ op ox oy, cst = (isConstO ox || isConstO oy) → (eqGuard op t ox oy x' y').run P w = .ok () w) := by
  unfold eqT at h
  split at h
  · cases h
  rename_i ti hty
  have ht := hE.ty _ _ hty
  obtain ⟨d, hd, hk⟩ := ht.kind
  have gs : ∀ {u v : Value}, (∀ c d, u = .agg c → v = .agg d → False) → (u = .nilIface → v = .nilIface → False) → (∀ op ox oy, cst = (isConstO ox || isConstO oy) → (eqGuard op t ox oy u v).run P w = .ok () w) := fun h1 h2 op ox oy _ => eqGuard_scalar h1 h2
  split at h
  · rename_i c1 c2 hti
    rw [hti] at hk; cases d <;> simp [KOK] at hk
    rw [hx.inv_bool, hy.inv_bool]
    simp at h; subst h
    exact ⟨equal_run fun d => by simp [Op.equalIn, run_underlying hd], by simp, by simp, by simp, by simp, gs (by simp) (by simp)⟩
  · rename_i e hti
    rw [hti] at hk; cases d <;> simp [KOK] at hk
    cases hx; cases hy
    simp at h; subst h
    exact ⟨equal_run fun d => by simp [Op.equalIn, run_underlying hd], by simp, by simp, by simp, by simp, gs (by simp) (by simp)⟩
  · rename_i e _ _ hti
    rw [hti] at hk; cases d <;> simp [KOK] at hk
    cases hx; cases hy
    simp at h; subst h
    exact ⟨equal_run fun d => by simp [Op.equalIn, run_underlying hd], by simp, by simp, by simp, by simp, gs (by simp) (by simp)⟩
  · rename_i e _ _ hti
    rw [hti] at hk; cases d <;> simp [KOK] at hk
    cases hx; cases hy
    simp at h; subst h
    exact ⟨equal_run fun d => by simp [Op.equalIn, run_underlying hd], by simp, by simp, by simp, by simp, gs (by simp) (by simp)⟩
  · rename_i e b1 o1 b2 o2 hti
    rw [hti] at hk; cases d <;> simp [KOK] at hk
    subst hk
    split at h
    · rename_i te hte
      have hte := hE.ty _ _ hte
      obtain ⟨i, hi, _⟩ := hte.info
      split at h
      · rename_i hh
        simp only [Bool.and_eq_true] at hh
        have e1 : b1 = b2 := by simpa using hh.1
        have e2 : o1 = o2 := by simpa using hh.2
        subst e1; subst e2
        obtain ⟨B, d0, z, hb, he⟩ := hx.inv_ptr
        obtain ⟨B', d0', z', hb', he'⟩ := hy.inv_ptr
        rw [hb] at hb'
        simp at hb'
        obtain ⟨rfl, rfl, rfl⟩ := hb'
        subst he; subst he'
        simp at h; subst h
        exact ⟨equal_run fun d => by simp [Op.equalIn, run_underlying hd, sizeOf, typeInfo, hi, run_sameAddr_same], by simp, by simp, by simp, by simp, gs (by simp) (by simp)⟩
      · cases h
    · cases h
  · rename_i e hti
    rw [hti] at hk; cases d <;> simp [KOK] at hk
    cases hx; cases hy
    simp at h; subst h
    exact ⟨equal_run fun d => by simp [Op.equalIn, run_underlying hd], by simp, by simp, by simp, by simp, gs (by simp) (by simp)⟩
  · rename_i hti
    rw [hti] at hk; cases d <;> simp [KOK] at hk
    cases hx; cases hy
    simp at h; subst h
    exact ⟨equal_run fun d => by simp [Op.equalIn, run_underlying hd], by simp, by simp, by simp, by simp, gs (by simp) (by simp)⟩
  · rename_i hti
    rw [hti] at hk; cases d <;> simp [KOK] at hk
    cases hx; cases hy
    simp at h; subst h
    exact ⟨equal_run fun d => by simp [Op.equalIn, run_underlying hd], by simp, by simp, by simp, by simp, gs (by simp) (by simp)⟩
  · rename_i hti
    rw [hti] at hk; cases d <;> simp [KOK] at hk
    cases hx; cases hy
    simp at h; subst h
    exact ⟨equal_run fun d => by simp [Op.equalIn, run_underlying hd], by simp, by simp, by simp, by simp, gs (by simp) (by simp)⟩
  · rename_i hti
    rw [hti] at hk; cases d <;> simp [KOK] at hk
    cases hx; cases hy
    simp at h; subst h
    exact ⟨equal_run fun d => by simp [Op.equalIn, run_underlying hd], by simp, by simp, by simp, by simp, gs (by simp) (by simp)⟩
  · rename_i hti
    rw [hti] at hk; cases d <;> simp [KOK] at hk
    cases hx; cases hy
    simp at h; subst h
    exact ⟨equal_run fun d => by simp [Op.equalIn, run_underlying hd], by simp, by simp, by simp, by simp, gs (by simp) (by simp)⟩
  · rename_i hti
    rw [hti] at hk; cases d <;> simp [KOK] at hk
    cases hx; cases hy
    simp at h; subst h
    exact ⟨equal_run fun d => by simp [Op.equalIn, run_underlying hd], by simp, by simp, by simp, by simp, gs (by simp) (by simp)⟩
  · rename_i hti
    rw [hti] at hk; cases d <;> simp [KOK] at hk
    cases hx; cases hy
    simp at h; subst h
    exact ⟨equal_run fun d => by simp [Op.equalIn, run_underlying hd], by simp, by simp, by simp, by simp, gs (by simp) (by simp)⟩
  · rename_i hti
    rw [hti] at hk; cases d <;> simp [KOK] at hk
    cases hx; cases hy
    split at h
    · rename_i hc
      simp at h; subst h
      exact ⟨equal_run fun d => by simp [Op.equalIn, run_underlying hd], by simp, by simp, by simp, by simp, fun op ox oy hcst => eqGuard_nil (by rw [← hcst]; exact hc)⟩
    · cases h
  · rename_i hti
    rw [hti] at hk; cases d <;> simp [KOK] at hk
    cases hx; cases hy
    simp at h; subst h
    exact ⟨equal_run fun d => by simp [Op.equalIn, run_underlying hd], by simp, by simp, by simp, by simp, gs (by simp) (by simp)⟩
  · rename_i hti
    rw [hti] at hk; cases d <;> simp [KOK] at hk
    cases hx; cases hy
    simp at h; subst h
    exact ⟨equal_run fun d => by simp [Op.equalIn, run_underlying hd], by simp, by simp, by simp, by simp, gs (by simp) (by simp)⟩
  · rename_i fs as bs hti
    split at h
    · rename_i hh
      simp only [Bool.and_eq_true] at hh
      obtain ⟨xs, rfl, hxs⟩ := hx.inv_agg
      obtain ⟨ys, rfl, hys⟩ := hy.inv_agg
      obtain ⟨h1, h2⟩ := hE.eq t ti hty hh.1 ρ as bs xs ys w b hxs hys hh.2.1 hh.2.2 h
      exact ⟨h2, by simp, by simp, by simp, by simp, fun op ox oy _ => h1 op ox oy⟩
    · cases h
  · cases h

theorem step_eq {o : Oper} {op : BinOp} {t t2 : Nat} {x y : Operand} {b : Bool} (hE : EnvOK P E) (ho : o.op = .binOp op t x y t2) (hop : op = .eql ∨ op = .neq) (hf : VlR ρ fv a) (h : HR ρ σ w)
    (hv : eqT E t (isConstO x || isConstO y) (fv x) (fv y) = some b) : Does P o a ρ σ w (.bool (if op = .eql then b else !b)) σ := by
  obtain ⟨h1, h2, h3, h4, h5, h6⟩ := eqT_sound (P := P) (w := w) hE (hf.eval x) (hf.eval y) hv
  refine .same h (v' := .bool (if op = .eql then b else !b)) ?_ (.bool _)
  have := binop_equal (op := op) hop h2 h3 h4 h5 h1
  simp [execOp, ho, h6 op x y rfl, this]

theorem step_range {o : Oper} {t : Nat} {x : Operand} {ti : TyI} {s : List UInt8} (ho : o.op = .range t x) (ht : TyOK P t ti) (hk : ti.k = .string) (hf : VlR ρ fv a) (h : HR ρ σ w) (hx : fv x = .str s) :
    Does P o a ρ σ w (.ptr σ.next 0) (σ.new (.iter s 0)) := by
  have hp := hf.eval x
  rw [hx] at hp
  obtain ⟨sb, he, hsb⟩ := hp.inv_str
  have hpost : Post ρ σ w (upR ρ σ.next (w.heap.size, 0, 0)) (σ.new (.iter s 0)) (w.alloc (.stringIter sb 0)) :=
    Post.new h (.iter s 0) (.stringIter sb 0) 0 rfl rfl rfl rfl ⟨sb, hsb, rfl⟩
  refine ⟨.pointer (some ⟨w.heap.size, 0, none⟩), _, _, .inl ?_, ?_, hpost⟩
  · simp [execOp, ho, Instr.range, run_underlying (ht.string hk), he]
  · have : VR (upR ρ σ.next (w.heap.size, 0, 0)) (.ptr σ.next 0) (.pointer (some ⟨w.heap.size, 0 + 0, none⟩)) := .ptr (upR_same ..)
    exact this
theorem step_next {o : Oper} {x : Operand} {b pos : Nat} {s : List UInt8} (ho : o.op = .next x true) (hf : VlR ρ fv a) (h : HR ρ σ w) (hx : fv x = .ptr b 0) (hg : σ.get b = .iter s pos) :
    (pos < s.length → Does P o a ρ σ w (.tup [.bool true, .int .i64 pos, .int .i32 (Utf8.decode ⟨⟨s⟩⟩ pos).1]) (σ.upd b (.iter s (pos + (Utf8.decode ⟨⟨s⟩⟩ pos).2)))) ∧ (¬ pos < s.length → Does P o a ρ σ w (.tup [.bool false]) σ) := by
  have hp := hf.eval x
  rw [hx] at hp
  obtain ⟨B, d, z, hb, he⟩ := hp.inv_ptr
  obtain ⟨hd, sb, hsb, hh⟩ := h.iter b B d z s pos hb hg
  subst hd
  have hsz : sb.size = s.length := by rw [← hsb]; rfl
  have hsbe : (⟨⟨s⟩⟩ : ByteArray) = sb := by
    subst hsb; rfl
  have hgo : (getObj B).run P w = .ok (.stringIter sb pos) w := by simp [getObj, Sem.run, hh]
  refine ⟨fun hlt => ?_, fun hlt => ?_⟩
  · have hpost := Post.iter h hb hg sb hsb (pos + (Utf8.decode sb pos).2)
    rw [hsbe]
    refine ⟨.tuple #[.bool true, .int .i64 pos, .int .i32 (Utf8.decode sb pos).1], _, ρ, .inl ?_, ?_, hpost⟩
    · have hlt' : pos < sb.size := by omega
      have hso : ∀ o', (setObj B o').run P w = .ok () { w with heap := w.heap.setIfInBounds B o' } := fun o' => by simp [setObj, Sem.run, hh]
      simp [execOp, ho, Instr.next, he, hgo, hlt', goInt, hso]
    · exact .tup (.cons (.bool _) (.cons (.int _ _) (.cons (.int _ _) .nil)))
  · refine .same h (v' := .tuple #[.bool false]) ?_ (.tup (.cons (.bool _) .nil))
    have hlt' : ¬ pos < sb.size := by omega
    simp [execOp, ho, Instr.next, he, hgo, hlt']
end Go.Ev
end
section
namespace Go.Ev
variable {P : Program} {E : Env} {ρ : Rho} {σ σ' : St} {w : World} {fv : Operand → AV} {a : Act}

/-- what one operation comes to: it is done, or it calls -/
def DoesT (P : Program) (o : Oper) (a : Act) (ρ : Rho) (σ : St) (w : World) : Todo → Prop
  | .val v σ' => Does P o a ρ σ w v σ'
  | .call f args => ∃ vs : List Value, VRL ρ args vs ∧ (execOp a.eval o).run P w = (callFunc f vs.toArray).run P w

/-- what 'callFunc' does with a function that has a body, and what the program has of it -/
def Bodied (P : Program) (f : Nat) : Prop := ∃ fn, P.funcs[f]? = some fn ∧ fn.body.isSome = true ∧ (fn.name == "runtime.NumGoroutine") = false

theorem Bodied.run {f : Nat} (h : Bodied P f) (args : Array Value) : (callFunc f args).run P w = .ok (.enter f args) w := by
  obtain ⟨fn, hfn, hbody, hname⟩ := h
  have hbn : fn.body ≠ none := fun e => by rw [e] at hbody; cases hbody
  have hname' : fn.name ≠ "runtime.NumGoroutine" := fun e => by rw [e] at hname; simp at hname
  simp [callFunc, hfn, hname', hbn]
theorem beq_ne {a b : Nat} (h : ¬ Nat.beq a b = true) : a ≠ b := fun e => h (by rw [e]; simp)
theorem beq_eq {a b : Nat} (h : Nat.beq a b = true) : a = b := by simpa using h
theorem unk_ne {v : AV} (h : ¬ isUnk v = true) : v ≠ .unk := fun e => h (by rw [e]; rfl)

theorem step_makeSlice {o : Oper} {t e : Nat} {lo co : Operand} {l c : Int} {ti te : TyI} (ho : o.op = .makeSlice t lo co) (ht : TyOK P t ti) (hk : ti.k = .slice e) (hte : TyOK P e te) (hf : VlR ρ fv a) (h : HR ρ σ w)
    (hl : fv lo = .int .i64 l) (hc : fv co = .int .i64 c) (h0 : 0 ≤ l) (h1 : l ≤ c) (h2 : c ≤ 65536) (h3 : (te.bytes : Int) * c ≤ 65536) :
    Does P o a ρ σ w (.sl σ.next 0 l.toNat (some c.toNat) te.size) (σ.new (.row (rep c.toNat te.zero) e false)) := by
  have hlv := hf.eval lo
  rw [hl] at hlv
  have hcv := hf.eval co
  rw [hc] at hcv
  have hlv := hlv.inv_int
  have hcv := hcv.inv_int
  obtain ⟨i, hi, hsz, hby, z, hz, hzr⟩ := hte.info
  have hzl : z.cells.size = te.size := by rw [← hte.zlen, (hzr ρ).length]; simp
  have hrep := rep_rel (zv := z.cells) (hzr ρ) c.toNat
  have hpost := new_row h hrep e
  have hlen : (rep c.toNat te.zero).length = c.toNat * te.size := by rw [(rep_spec te.zero c.toNat).1, hte.zlen]
  have hb : (i.bytes : Int) * c ≤ 281474976710656 := by rw [hby]; omega
  have hrun := run_make (P := P) w t e i z (ht.slice hk) hi hz .i64 .i64 l c h0 h1 hb (by omega)
  have hcells : madeCells z.cells (c.toNat * i.size) = ((Array.range (c.toNat * z.cells.size)).map (z.cells[· % z.cells.size]!)).toList.toArray := by
    rw [hsz, ← hzl, Array.toArray_toList]; rfl
  rw [hcells] at hrun
  refine ⟨.slice (some ⟨w.heap.size, 0, none⟩) l.toNat c.toNat, _, _, .inl ?_, ?_, hpost⟩
  · simp only [execOp, ho, hlv, hcv, Sem.run_bind, hrun, Result.andThen_ok]
    rfl
  · refine .sl (d := 0) (upR_same ..) (fun x hx => by simpa using hx) (by omega) ?_
    rw [hlen]; omega
theorem valO_some {r : Option AV} {t : Todo} (h : valO r σ = some t) : ∃ x, r = some x ∧ t = .val x σ := by
  cases r with
  | none => cases h
  | some x => exact ⟨x, rfl, by simpa [valO] using h.symm⟩
theorem valS_some {r : Option (AV × St)} {t : Todo} (h : valS r = some t) : ∃ x s, r = some (x, s) ∧ t = .val x s := by
  cases r with
  | none => cases h
  | some p => obtain ⟨x, s⟩ := p; exact ⟨x, s, rfl, by simpa [valS] using h.symm⟩
theorem evOp_sound {o : Oper} {r : Todo} (hE : EnvOK P E) (hf : VlR ρ fv a) (h : HR ρ σ w) (hv : evOp E fv o.op σ = some r) : DoesT P o a ρ σ w r := by
  unfold evOp at hv
  split at hv
  · rename_i x ho
    simp at hv; subst hv
    exact step_move (.inl ho) hf h
  · rename_i x ho
    simp at hv; subst hv
    exact step_move (.inr ho) hf h
  · rename_i c x y ho
    split at hv
    · rename_i hc
      simp at hv; subst hv
      exact step_pick (P := P) ho hf h hc
    · rename_i hc
      simp at hv; subst hv
      exact step_pick (P := P) ho hf h hc
    · cases hv
  · rename_i t ho
    split at hv
    · rename_i ti ht
      simp at hv; subst hv
      exact step_alloc ho (hE.ty _ _ ht) h
    · cases hv
  · rename_i t x ho
    split at hv
    · cases hv
    · rename_i hu
      simp at hv; subst hv
      exact step_box ho hf h (unk_ne hu)
  · rename_i t ps ho
    split at hv
    · rename_i ti ht
      split at hv
      · rename_i fs hk
        split at hv
        · rename_i l hl
          simp at hv; subst hv
          refine step_build ho (hE.ty _ _ ht) hf h (.inr ⟨fs, hk, fun i x hx => ?_⟩) hl
          simp only [nth_eq] at hx
          split at hx
          · rename_i off ft hfs
            split at hx
            · rename_i tf htf
              simp at hx
              exact ⟨off, ft, tf, hfs, hE.ty _ _ htf, hx.symm⟩
            · cases hx
          · cases hx
        · cases hv
      · rename_i n e hk
        split at hv
        · rename_i te hte
          split at hv
          · rename_i l hl
            simp at hv; subst hv
            exact step_build ho (hE.ty _ _ ht) hf h (.inl ⟨n, e, te, hk, hE.ty _ _ hte, rfl⟩) hl
          · cases hv
        · cases hv
      · cases hv
    · cases hv
  · rename_i t n ps ho
    split at hv
    · cases hv
    rename_i ti ht
    split at hv
    · rename_i e hk
      split at hv
      · rename_i te hte
        split at hv
        · rename_i l hl
          split at hv
          · rename_i hle
            simp at hv; subst hv
            exact step_buildSlice ho (hE.ty _ _ ht) hk (hE.ty _ _ hte) hf h hl (ble_le hle)
          · cases hv
        · cases hv
      · cases hv
    · cases hv
  · rename_i t x ho
    split at hv
    · rename_i ti b off ht hx
      split at hv
      · rename_i hk
        split at hv
        · rename_i l hl
          simp at hv; subst hv
          exact step_load_agg ho (hE.ty _ _ ht) hf h hx hk hl
        · cases hv
      · rename_i hk
        obtain ⟨l, hl, rfl⟩ := valO_some hv
        exact step_load_one ho (hE.ty _ _ ht) hf h hx (by simpa using hk) hl
    · cases hv
  · rename_i t x y ho
    split at hv
    · rename_i ti b off ht hx
      split at hv
      · cases hv
      rename_i hu
      split at hv
      · rename_i hlen
        split at hv
        · rename_i σ1 hs
          simp at hv; subst hv
          exact step_store ho (hE.ty _ _ ht) hf h hx (unk_ne hu) (beq_eq hlen) hs
        · cases hv
      · cases hv
    · cases hv
  · rename_i x ho
    split at hv
    · rename_i b off hx
      simp at hv; subst hv
      exact step_nilCheck ho hf h hx (.inl ⟨_, _, rfl⟩)
    · rename_i f cs hx
      simp at hv; subst hv
      exact step_nilCheck ho hf h hx (.inr ⟨_, _, rfl⟩)
    · cases hv
  · rename_i op t x y t2 ho
    split at hv
    · rename_i r' hr
      simp at hv; subst hv
      exact step_binop ho hf h hr
    · split at hv
      · split at hv
        · rename_i b hb
          simp at hv; subst hv
          exact step_eq hE ho (.inl rfl) hf h hb
        · cases hv
      · split at hv
        · rename_i b hb
          simp at hv; subst hv
          exact step_eq hE ho (.inr rfl) hf h hb
        · cases hv
      · cases hv
  · rename_i op t x ho
    obtain ⟨r', hr, rfl⟩ := valO_some hv
    exact step_unop ho hf h hr
  · rename_i s d x ho
    obtain ⟨v, σ1, hc, rfl⟩ := valS_some hv
    exact step_convert hE ho hf h hc
  · rename_i t x ho
    split at hv
    · cases hv
    rename_i ti ht
    split at hv
    · cases hv
    · rename_i hk
      simp at hv; subst hv
      exact step_makeInterface ho (hE.ty _ _ ht) (fun e => hk e) hf h
  · rename_i f first cap ho
    split at hv
    · rename_i he
      simp at hv; subst hv
      exact step_makeFunc ho hf h he
    · cases hv
  · rename_i t l c ho
    split at hv
    · rename_i ti l c ht hl hc
      split at hv
      · rename_i e hk
        split at hv
        · rename_i te hte
          split at hv
          · rename_i hb
            simp at hv; subst hv
            exact step_makeSlice ho (hE.ty _ _ ht) hk (hE.ty _ _ hte) hf h hl hc hb.1 hb.2.1 hb.2.2.1 hb.2.2.2
          · cases hv
        · cases hv
      · cases hv
    · cases hv
  · rename_i t x lo hi mx ho
    obtain ⟨v, σ1, hc, rfl⟩ := valS_some hv
    exact step_slice hE ho hf h hc
  · rename_i t x f ho
    split at hv
    · rename_i ti b off ht hx
      split at hv
      · rename_i fs hk
        split at hv
        · rename_i fo ft hfs
          split at hv
          · rename_i tf htf
            split at hv
            · cases hv
            · rename_i hz
              simp at hv; subst hv
              rw [nth_eq] at hfs
              exact step_fieldAddr ho (hE.ty _ _ ht) hk hfs (hE.ty _ _ htf) (beq_ne hz) hf h hx
          · cases hv
        · cases hv
      · cases hv
    · cases hv
  · rename_i t x f ho
    split at hv
    · rename_i ti cs ht hx
      split at hv
      · rename_i fs hk
        split at hv
        · rename_i fo ft hfs
          split at hv
          · rename_i tf htf
            rw [nth_eq] at hfs
            split at hv
            · rename_i hg
              simp at hv; subst hv
              exact step_field ho (hE.ty _ _ ht) hk hfs (hE.ty _ _ htf) hf h hx (.inl ⟨hg, rfl⟩)
            · rename_i hg
              obtain ⟨v, hv', rfl⟩ := valO_some hv
              rw [nth_eq] at hv'
              exact step_field ho (hE.ty _ _ ht) hk hfs (hE.ty _ _ htf) hf h hx (.inr ⟨by simpa using hg, hv'⟩)
          · cases hv
        · cases hv
      · cases hv
    · cases hv
  · rename_i t x i ho
    split at hv
    · rename_i ti k j ht hi
      split at hv
      · rename_i h0
        split at hv
        · rename_i e b off n c we hk hx
          split at hv
          · rename_i te hte
            split at hv
            · rename_i h1
              simp at hv; subst hv
              exact step_indexAddr_slice ho (hE.ty _ _ ht) hk (hE.ty _ _ hte) hf h hx hi h0 (by simpa using h1)
            · cases hv
          · cases hv
        · rename_i n e b off hk hx
          split at hv
          · rename_i te hte
            split at hv
            · rename_i h1
              simp at hv; subst hv
              exact step_indexAddr_arr ho (hE.ty _ _ ht) hk (hE.ty _ _ hte) hf h hx hi h0 (by simpa using h1)
            · cases hv
          · cases hv
        · cases hv
      · cases hv
    · cases hv
  · rename_i t x i ho
    split at hv
    · rename_i ti k j ht hi
      split at hv
      · rename_i h0
        split at hv
        · rename_i s hk hx
          split at hv
          · rename_i c hc
            simp at hv; subst hv
            rw [nth_eq] at hc
            exact step_index_string ho (hE.ty _ _ ht) hk hf h hx hi h0 hc
          · cases hv
        · rename_i n e cs hk hx
          split at hv
          · rename_i te hte
            split at hv
            · rename_i h1
              have h1 : j.toNat < n := by simpa using h1
              split at hv
              · rename_i hg
                simp at hv; subst hv
                exact step_index_arr ho (hE.ty _ _ ht) hk (hE.ty _ _ hte) hf h hx hi h0 h1 (.inl ⟨hg, rfl⟩)
              · rename_i hg
                · obtain ⟨v, hv', rfl⟩ := valO_some hv
                  rw [nth_eq] at hv'
                  exact step_index_arr ho (hE.ty _ _ ht) hk (hE.ty _ _ hte) hf h hx hi h0 h1 (.inr ⟨by simpa using hg, hv'⟩)
            · cases hv
          · cases hv
        · cases hv
      · cases hv
    · cases hv
  · rename_i x i ho
    split at hv
    · rename_i l hx
      obtain ⟨v, hv', rfl⟩ := valO_some hv
      rw [nth_eq] at hv'
      exact step_extract ho hf h hx hv'
    · cases hv
  · rename_i t x ho
    split at hv
    · cases hv
    rename_i ti ht
    split at hv
    · rename_i s hk hx
      simp at hv; subst hv
      exact step_range ho (hE.ty _ _ ht) hk hf h hx
    · cases hv
  · rename_i it ho
    split at hv
    · rename_i b hx
      split at hv
      · rename_i s pos hg
        obtain ⟨h1, h2⟩ := step_next (P := P) ho hf h hx hg
        split at hv
        · rename_i hlt
          simp at hv; subst hv
          exact h1 (by simpa using hlt)
        · rename_i hlt
          simp at hv; subst hv
          exact h2 (fun e => hlt (blt_true e))
      · cases hv
    · cases hv
  · rename_i c ho
    simp only [] at hv
    split at hv
    · rename_i b hc
      obtain ⟨v, σ1, hc', rfl⟩ := valS_some hv
      exact step_builtin hE ho hc hf h hc'
    · rename_i f hc
      split at hv
      · rename_i f0 cs hx
        simp at hv; subst hv
        have hp := hf.eval f
        rw [hx] at hp
        generalize he : a.eval f = y at hp
        cases hp with
        | @fn _ _ vs hvs =>
          refine ⟨c.args.toList.map a.eval ++ vs, (hf.evals _).append hvs, ?_⟩
          have harr : c.args.map a.eval ++ vs.toArray = (c.args.toList.map a.eval ++ vs).toArray := by
            apply Array.ext'; simp
          simp [execOp, ho, resolve, hc, he, Deferred.ofValue, invoke]
          rw [harr]
      · cases hv
    · cases hv
  · cases hv
end Go.Ev
end
