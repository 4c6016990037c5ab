/- The law of this seat holds of every input: a part of the proof (an evaluator that is proved to answer as the model does, and its runs by the kernel). -/
import Derived.Test.YtaomoiphkcbnkaaGreatDoorEvReg
set_option linter.unusedVariables false
set_option linter.unusedSimpArgs false
section
namespace Go.Ev
variable {P : Program} {E : Env} {ρ : Rho} {σ σ' : St} {w : World} {fr : Fr} {a : Act}

theorem parts_congr {v1 v2 : Operand → AV} {ps : Array (Nat × Operand)} (h : ∀ x ∈ (ps.toList.map (·.2)).toArray, v1 x = v2 x) : parts v1 ps = parts v2 ps := by
  unfold parts
  apply List.map_congr_left
  rintro ⟨i, x⟩ hx
  have : x ∈ (ps.toList.map (·.2)).toArray := by simpa using ⟨i, by simpa using hx⟩
  simp [h x this]
theorem evOp_congr {v1 v2 : Operand → AV} {o : Op} (h : ∀ x ∈ o.operands, v1 x = v2 x) (σ : St) : evOp E v1 o σ = evOp E v2 o σ := by
  cases o <;> simp only [Op.operands] at h <;> simp only [evOp]
  case build t ps => rw [parts_congr h]
  case buildSlice t n ps => rw [parts_congr h]
  case makeFunc fn first cap =>
    cases fn <;> simp only
    rw [List.map_congr_left (fun x hx => h x (by simp; exact .inr (by simpa using hx)))]
  case call c =>
    have hargs : c.args.toList.map v1 = c.args.toList.map v2 := List.map_congr_left fun x hx => h x (by simp [Call.operands]; exact .inr (by simpa using hx))
    rw [hargs]
    cases hc : c.callee with
    | value f => have hf : v1 f = v2 f := h f (by simp [Call.operands, hc]); simp only [hf]
    | invoke r m => rfl
    | builtin b => rfl
  case slice t x lo hi mx => cases lo <;> cases hi <;> cases mx <;> simp_all
  case next it b => cases b <;> simp only [evOp] <;> rw [h it (by simp)]
  all_goals (first | rfl | (simp_all; done))

/-- what an operation that may be carried out at any time yields hangs on nothing but what it reads -/
theorem ldN_same {σ σ1 : St} {b o n : Nat} (h : σ1.get b = σ.get b) : ldN σ1 b o n = ldN σ b o n := by unfold ldN; rw [h]
theorem ld1_same {σ σ1 : St} {b o : Nat} (h : σ1.get b = σ.get b) : ld1 σ1 b o = ld1 σ b o := by unfold ld1; rw [h]
mutual
theorem eqAV_eq : ∀ a b : AV, eqAV a b = true → a = b
  | .int k a, .int k' b, h => by simp [eqAV] at h; rw [h.1, h.2]
  | .bool a, .bool b, h => by simp [eqAV] at h; rw [h]
  | .str a, .str b, h => by simp [eqAV, eqS_eq] at h; rw [h]
  | .nilp, .nilp, _ => rfl
  | .ptr b o, .ptr b' o', h => by simp [eqAV] at h; rw [h.1, h.2]
  | .nils, .nils, _ => rfl
  | .sl b o n none e, .sl b' o' n' none e', h => by simp [eqAV] at h; obtain ⟨⟨⟨rfl, rfl⟩, rfl⟩, rfl⟩ := h; rfl
  | .sl b o n (some c) e, .sl b' o' n' (some c') e', h => by simp [eqAV] at h; obtain ⟨⟨⟨⟨rfl, rfl⟩, rfl⟩, rfl⟩, rfl⟩ := h; rfl
  | .esl, .esl, _ => rfl
  | .agg l, .agg m, h => by simp only [eqAV] at h; rw [eqAVs_eq l m h]
  | .tup l, .tup m, h => by simp only [eqAV] at h; rw [eqAVs_eq l m h]
  | .fn f l, .fn g m, h => by simp only [eqAV, Bool.and_eq_true] at h; rw [eqAVs_eq l m h.2, beq_eq h.1]
  | .nilf, .nilf, _ => rfl
  | .nili, .nili, _ => rfl
  | .ifc t v, .ifc u x, h => by simp only [eqAV, Bool.and_eq_true] at h; rw [eqAV_eq v x h.2, beq_eq h.1]
  | .unk, .unk, _ => rfl
theorem eqAVs_eq : ∀ a b : List AV, eqAVs a b = true → a = b
  | [], [], _ => rfl
  | a :: l, b :: m, h => by simp only [eqAVs, Bool.and_eq_true] at h; rw [eqAV_eq a b h.1, eqAVs_eq l m h.2]
  | [], _ :: _, h => by simp [eqAVs] at h
  | _ :: _, [], h => by simp [eqAVs] at h
end
/-- what is read is as it was -/
def Kept (σ σ1 : St) (t : Touch) : Prop := σ1.get t.b = σ.get t.b ∨ ∃ n, t.n = some n ∧ ∃ c e r d f s, σ.get t.b = .row c e r ∧ σ1.get t.b = .row d f s ∧ (c.drop t.o).take n = (d.drop t.o).take n
theorem Kept.trans {σ σ1 σ2 : St} {t : Touch} (h : Kept σ σ1 t) (k : Kept σ1 σ2 t) : Kept σ σ2 t := by
  rcases h with h | ⟨n, hn, c, e, r, d, f, s, h1, h2, h3⟩
  · rcases k with k | ⟨m, hm, c', e', r', d', f', s', k1, k2, k3⟩
    · exact .inl (k.trans h)
    · exact .inr ⟨m, hm, c', e', r', d', f', s', by rw [← h]; exact k1, k2, k3⟩
  · rcases k with k | ⟨m, hm, c', e', r', d', f', s', k1, k2, k3⟩
    · exact .inr ⟨n, hn, c, e, r, d, f, s, h1, by rw [k]; exact h2, h3⟩
    · rw [hn] at hm; cases hm
      rw [h2] at k1; cases k1
      exact .inr ⟨n, hn, c, e, r, d', f', s', h1, k2, h3.trans k3⟩
theorem Kept.ldN {σ σ1 : St} {b o n : Nat} {l : List AV} (h : Kept σ σ1 ⟨b, o, some n⟩) (hl : ldN σ b o n = some l) : Ev.ldN σ1 b o n = some l := by
  rcases h with h | ⟨m, hm, c, e, r, d, f, s, h1, h2, h3⟩
  · rw [ldN_same h]; exact hl
  · simp at hm; subst hm
    simp only at h1 h2 h3
    unfold Ev.ldN at hl ⊢
    rw [h1] at hl
    rw [h2]
    simp only [← h3]
    exact hl
theorem Kept.ld1 {σ σ1 : St} {b o : Nat} {v : AV} (h : Kept σ σ1 ⟨b, o, some 1⟩) (hl : ld1 σ b o = some v) : Ev.ld1 σ1 b o = some v := by
  rcases h with h | ⟨m, hm, c, e, r, d, f, s, h1, h2, h3⟩
  · rw [ld1_same h]; exact hl
  · simp at hm; subst hm
    simp only at h1 h2 h3
    unfold Ev.ld1 at hl ⊢
    rw [h1] at hl
    rw [h2]
    simp only at hl ⊢
    have e1 : (c.drop o)[0]? = some v := by rw [List.getElem?_drop]; simpa using hl
    have e2 : ((c.drop o).take 1)[0]? = some v := by rw [List.getElem?_take, if_pos (by omega)]; exact e1
    rw [h3, List.getElem?_take, if_pos (by omega), List.getElem?_drop] at e2
    simpa using e2
theorem Kept.sl {σ σ1 : St} {size : Nat} {x : AV} {l : List AV} (h : ∀ t, slTouch x = some t → Kept σ σ1 t) (hl : slCells σ size x = some l) : slCells σ1 size x = some l := by
  unfold slCells at hl ⊢
  split at hl
  · exact hl
  · exact hl
  · rename_i b o n' c e
    split at hl
    · rename_i he
      rw [if_pos he]
      exact (h _ rfl).ldN hl
    · cases hl
  · exact hl
  · cases hl
theorem evSlice_indep {t : Nat} {x v : AV} {lo hi mx : Option AV} {σ' : St} (h : evSlice E t x lo hi mx σ = some (v, σ')) :
    σ' = σ ∧ ∀ σ1, (∀ b o, x = .ptr b o → σ1.get b = σ.get b) → evSlice E t x lo hi mx σ1 = some (v, σ1) := by
  unfold evSlice at h
  repeat' split at h
  all_goals first
    | cases h; done
    | (simp at h; obtain ⟨rfl, rfl⟩ := h; refine ⟨rfl, fun σ1 h1 => ?_⟩; unfold evSlice; simp_all; done)
    | (simp at h; obtain ⟨rfl, rfl⟩ := h; refine ⟨rfl, fun σ1 h1 => ?_⟩; have := h1 _ _ rfl; unfold evSlice; simp_all; done)
theorem convert_indep {s d : Nat} {x v : AV} {σ' : St} {y : Operand} (hp : hoistPure E (.convert s d y) = true) (h : convert E s d x σ = some (v, σ')) :
    σ' = σ ∧ ∀ σ1, (∀ t, slTouch x = some t → Kept σ σ1 t) → convert E s d x σ1 = some (v, σ1) := by
  unfold convert at h
  simp only [hoistPure] at hp
  split at h
  · rename_i ts td hts htd
    rw [htd] at hp
    simp only at hp
    split at h
    · rename_i hk
      simp at h; obtain ⟨rfl, rfl⟩ := h
      exact ⟨rfl, fun σ1 _ => by unfold convert; simp_all⟩
    · rename_i hk
      simp at h; obtain ⟨rfl, rfl⟩ := h
      exact ⟨rfl, fun σ1 _ => by unfold convert; simp_all⟩
    · rename_i hk; rw [hk] at hp; cases hp
    · rename_i hk1 hk; rw [hk] at hp; cases hp
    · rename_i hk1 hk2 hno
      split at h
      · rename_i n l hn hki hl
        split at h
        · rename_i st hst
          simp at h; obtain ⟨rfl, rfl⟩ := h
          refine ⟨rfl, fun σ1 h1 => ?_⟩
          have hl1 := Kept.sl (σ1 := σ1) (fun t ht => h1 t ht) hl
          unfold convert; simp_all
        · cases h
      · rename_i n l hn hki hl
        split at h
        · rename_i st hst
          simp at h; obtain ⟨rfl, rfl⟩ := h
          refine ⟨rfl, fun σ1 h1 => ?_⟩
          have hl1 := Kept.sl (σ1 := σ1) (fun t ht => h1 t ht) hl
          unfold convert; simp_all
        · cases h
      · cases h
    · rename_i hk1 hk; rw [hk] at hp; cases hp
    · rename_i hk1 hk; rw [hk] at hp; cases hp
    · cases h
  · cases h
theorem builtin_indep {b : Builtin} {T : List Nat} {A : List AV} {v : AV} {σ' : St} (hb : b = .len ∨ b = .cap ∨ b = .min ∨ b = .max) (h : evBuiltin E b T A σ = some (v, σ')) :
    σ' = σ ∧ ∀ σ1, evBuiltin E b T A σ1 = some (v, σ1) := by
  rcases hb with rfl | rfl | rfl | rfl
  all_goals
    unfold evBuiltin at h
    split at h
    all_goals first
      | cases h; done
      | (simp at h; obtain ⟨rfl, rfl⟩ := h; refine ⟨rfl, fun σ1 => ?_⟩; unfold evBuiltin; simp_all; done)
      | (simp_all; done)
      | (repeat' split at h
         all_goals first
          | cases h; done
          | (simp at h; obtain ⟨rfl, rfl⟩ := h; refine ⟨rfl, fun σ1 => ?_⟩; unfold evBuiltin; simp_all; done)
          | (simp_all; done))
theorem pure_indep {val : Operand → AV} {o : Op} {r : Todo} (hp : hoistPure E o = true) (h : evOp E val o σ = some r) :
    ∃ v, r = .val v σ ∧ ∀ σ1, (∀ t, touch E val o = some t → Kept σ σ1 t) → evOp E val o σ1 = some (.val v σ1) := by
  cases o <;> try (exact absurd (show false = true from hp) (by decide))
  case convert s d x =>
    simp only [evOp] at h
    obtain ⟨v, σ', hc, rfl⟩ := valS_some h
    obtain ⟨rfl, h2⟩ := convert_indep hp hc
    exact ⟨v, rfl, fun σ1 h1 => by simp only [evOp, h2 σ1 h1]; rfl⟩
  case slice t x lo hi mx =>
    simp only [evOp] at h
    obtain ⟨v, σ', hc, rfl⟩ := valS_some h
    obtain ⟨rfl, h2⟩ := evSlice_indep hc
    refine ⟨v, rfl, fun σ1 h1 => ?_⟩
    have := h2 σ1 (fun b o hx => by
      have := h1 ⟨b, o, none⟩ (by simp [touch, hx])
      rcases this with h | ⟨n, hn, _⟩
      · exact h
      · simp at hn)
    simp only [evOp, this]; rfl
  case call c =>
    simp only [evOp] at h
    split at h
    · rename_i b hc
      obtain ⟨v, σ', hv, rfl⟩ := valS_some h
      simp only [hoistPure, hc] at hp
      have hb : b = .len ∨ b = .cap ∨ b = .min ∨ b = .max := by cases b <;> simp at hp ⊢
      obtain ⟨rfl, h2⟩ := builtin_indep hb hv
      exact ⟨v, rfl, fun σ1 _ => by simp only [evOp, hc, h2 σ1]; rfl⟩
    · rename_i f hc
      simp [hoistPure, hc] at hp
    · cases h
  case load t x =>
    simp only [evOp] at h
    split at h
    · rename_i ti b o ht hx
      split at h
      · rename_i hk
        split at h
        · rename_i l hl
          simp at h; subst h
          refine ⟨_, rfl, fun σ1 h1 => ?_⟩
          have := (h1 ⟨b, o, some ti.size⟩ (by simp [touch, hx, ht, hk])).ldN hl
          simp only [evOp, ht, hx, if_pos hk, this]
        · cases h
      · rename_i hk
        obtain ⟨v, hv, rfl⟩ := valO_some h
        refine ⟨v, rfl, fun σ1 h1 => ?_⟩
        have := (h1 ⟨b, o, some 1⟩ (by simp [touch, hx, ht, hk])).ld1 hv
        simp only [evOp, ht, hx, if_neg hk, this]; rfl
    · cases h
  case makeFunc fn first cap =>
    cases fn with
    | func f =>
      simp only [evOp] at h
      split at h
      · rename_i he
        simp at h; subst h
        exact ⟨_, rfl, fun σ1 _ => by simp only [evOp, if_pos he]⟩
      · cases h
    | _ => simp [evOp] at h
  all_goals
    simp only [evOp] at h
    repeat' split at h
    all_goals first
      | cases h; done
      | (simp at h; subst h; refine ⟨_, rfl, fun σ1 _ => ?_⟩; simp_all [evOp]; done)
      | (obtain ⟨v, hv, rfl⟩ := valO_some h; refine ⟨v, rfl, fun σ1 _ => ?_⟩; simp_all [evOp, valO]; done)
end Go.Ev
end
section
namespace Go.Ev
variable {P : Program} {E : Env} {ρ : Rho} {σ σ' : St} {w : World} {fv : Operand → AV} {a : Act}

/-- the evaluator has a block that the model has not made yet -/
theorem Post.fresh {ρ0 : Rho} {σ0 : St} {w0 : World} (hp : Post ρ0 σ0 w0 ρ σ w) (x : Blk) : Post ρ0 σ0 w0 ρ (σ.new x) w := by
  have hget : ∀ b, b < σ.next → (σ.new x).get b = σ.get b := fun b hb => by rw [St.get_new, if_neg (by omega)]
  have hd : ∀ b y, ρ b = some y → (σ.new x).get b = σ.get b := fun b y hb => hget b (hp.hr.dom b y hb)
  refine ⟨hp.ext, Nat.le_succ_of_le hp.next, ⟨fun b y hb => Nat.lt_succ_of_lt (hp.hr.dom b y hb), ?_, ?_, ?_, ?_⟩, hp.keep, ?_, fun b hb hn => (hget b (Nat.lt_of_lt_of_le hb hp.next)).trans (hp.log b hb hn), hp.logs⟩
  · intro b B d z cells e ro hb hr
    rw [hd b _ hb] at hr
    exact hp.hr.row b B d z cells e ro hb hr
  · intro b B d z s pos hb hr
    rw [hd b _ hb] at hr
    exact hp.hr.iter b B d z s pos hb hr
  · intro b B d z hb hl
    rw [live_same (hd b _ hb)] at hl
    exact hp.hr.lt b B d z hb hl
  · intro b1 b2 B d1 z1 d2 z2 h1 h2 l1 l2
    rw [live_same (hd _ _ h1)] at l1
    rw [live_same (hd _ _ h2)] at l2
    exact hp.hr.inj _ _ _ _ _ _ _ h1 h2 l1 l2
  · intro b B d z hb hw hB
    rw [writable_same (hd b _ hb)] at hw
    exact hp.img b B d z hb hw hB
/-- and now the model makes it -/
theorem Post.fill {ρ0 : Rho} {σ0 : St} {w0 : World} {b e : Nat} {l : List AV} {vs : List Value} (hp : Post ρ0 σ0 w0 ρ σ w) (hb0 : σ0.next ≤ b) (hn : ρ b = none) (hg : σ.get b = .row l e false) (hl : VRL ρ l vs) :
    Post ρ0 σ0 w0 (upR ρ b (w.heap.size, 0, l.length)) σ (w.alloc (.cells vs.toArray e)) := by
  have h := hp.hr
  have hsub := sub_upR hn (w.heap.size, 0, l.length)
  have hbl : b < σ.next := St.get_lt (σ := σ) (by rw [live_eq, hg]; rfl)
  have hlen := hl.length
  have hsz : (w.alloc (.cells vs.toArray e)).heap.size = w.heap.size + 1 := Array.size_push ..
  have hold : ∀ B, B < w.heap.size → (w.alloc (.cells vs.toArray e)).heap[B]? = w.heap[B]? := fun B hB => heap_alloc_old w _ B hB
  refine ⟨fun c hc => by unfold upR; rw [if_neg (by omega)]; exact hp.ext c hc, hp.next, ⟨?_, ?_, ?_, ?_, ?_⟩, ⟨by have := hp.keep.size; omega, hp.keep.os, hp.keep.tape, hp.keep.output, fun B hB hw => by rw [hold B (Nat.lt_of_lt_of_le hB hp.keep.size)]; exact hp.keep.block B hB hw⟩, ?_, hp.log, hp.logs⟩
  · intro c y hc
    unfold upR at hc
    split at hc
    · omega
    · exact h.dom c y hc
  · intro c B d z cells e' ro hc hr
    unfold upR at hc
    split at hc
    · rename_i hcb
      subst hcb
      simp at hc
      obtain ⟨rfl, rfl, rfl⟩ := hc
      rw [hg] at hr
      simp at hr
      obtain ⟨rfl, rfl, rfl⟩ := hr
      refine ⟨fun j v hj => ?_, Nat.le_refl _, fun _ => ⟨rfl, fun j hj => ⟨?_, ?_⟩, _, shape_alloc ..⟩⟩
      · obtain ⟨v', h1, h2⟩ := hl.get j v hj
        exact ⟨v', by rw [Nat.zero_add, World.cell?_alloc_at _ _ _ _ rfl]; simpa using h1, h2.mono hsub⟩
      · rw [Nat.zero_add, World.cell?_alloc_at _ _ _ _ rfl]
        simp; omega
      · rw [Nat.zero_add, World.frozen?_alloc_at _ _ _ _ rfl]
    · obtain ⟨a1, a2, a3⟩ := h.row c B d z cells e' ro hc hr
      have hB : B < w.heap.size := h.lt c B d z hc (by unfold live; rw [hr])
      refine ⟨fun j v hj => ?_, a2, fun hf => has_congr (hold B hB) (a3 hf)⟩
      obtain ⟨v', b1, b2⟩ := a1 j v hj
      exact ⟨v', (cell_congr (hold B hB) _).trans b1, b2.mono hsub⟩
  · intro c B d z s pos hc hr
    unfold upR at hc
    split at hc
    · rename_i hcb
      subst hcb
      rw [hg] at hr; cases hr
    · obtain ⟨a1, s', a2, a3⟩ := h.iter c B d z s pos hc hr
      exact ⟨a1, s', a2, (hold B (h.lt c B d z hc (by unfold live; rw [hr]))).trans a3⟩
  · intro c B d z hc hlv
    rw [hsz]
    unfold upR at hc
    split at hc
    · simp at hc; omega
    · have := h.lt c B d z hc hlv; omega
  · intro c1 c2 B d1 z1 d2 z2 h1 h2 l1 l2
    unfold upR at h1 h2
    split at h1 <;> split at h2
    · omega
    · have := h.lt _ _ _ _ h2 l2
      simp at h1; omega
    · have := h.lt _ _ _ _ h1 l1
      simp at h2; omega
    · exact h.inj _ _ _ _ _ _ _ h1 h2 l1 l2
  · intro c B d z hc hw hB
    unfold upR at hc
    split at hc
    · have := hp.keep.size
      simp at hc; omega
    · exact hp.img c B d z hc hw hB

/-- what makes a block of its own, whenever it is carried out -/
def Makes (P : Program) (o : Oper) (a : Act) (ρ : Rho) (w : World) (v : AV) (l : List AV) (e b : Nat) : Prop :=
  ∃ v' vs, (execOp a.eval o).run P w = .ok (.value v') (w.alloc (.cells vs.toArray e)) ∧ VRL ρ l vs ∧ VR (upR ρ b (w.heap.size, 0, l.length)) v v'
theorem makes_ptr (w : World) (l : List AV) (b : Nat) : VR (upR ρ b (w.heap.size, 0, l.length)) (.ptr b 0) (.pointer (some ⟨w.heap.size, 0, none⟩)) := by
  have : VR (upR ρ b (w.heap.size, 0, l.length)) (.ptr b 0) (.pointer (some ⟨w.heap.size, 0 + 0, none⟩)) := .ptr (upR_same ..)
  exact this
theorem fresh_makes {o : Oper} {r : Todo} (hE : EnvOK P E) (hh : hoistFresh o.op = true) (hv : evOp E fv o.op σ = some r) :
    ∃ v l e, r = .val v (σ.new (.row l e false)) ∧ ∀ ρ a w, VlR ρ fv a → Makes P o a ρ w v l e σ.next := by
  cases ho : o.op <;> rw [ho] at hh hv <;> try (exact absurd (show false = true from hh) (by decide))
  case alloc t =>
    simp only [evOp] at hv
    split at hv
    · rename_i ti ht
      simp at hv; subst hv
      refine ⟨_, _, _, rfl, fun ρ a w hf => ?_⟩
      obtain ⟨i, hi, _, _, z, hz, hzr⟩ := (hE.ty _ _ ht).info
      refine ⟨.pointer (some ⟨w.heap.size, 0, none⟩), z.cells.toList, ?_, hzr ρ, makes_ptr ..⟩
      simp [execOp, ho, Instr.alloc, zeroValue, typeInfo, hi, hz, newVar, newRow]
    · cases hv
  case box t x =>
    simp only [evOp] at hv
    split at hv
    · cases hv
    · rename_i hu
      simp at hv; subst hv
      refine ⟨_, _, _, rfl, fun ρ a w hf => ?_⟩
      refine ⟨.pointer (some ⟨w.heap.size, 0, none⟩), (a.eval x).cells.toList, ?_, (hf.eval x).cells (unk_ne hu), makes_ptr ..⟩
      simp [execOp, ho, Instr.box, newVar, newRow]
  case buildSlice t n ps =>
    simp only [evOp] at hv
    split at hv
    · cases hv
    rename_i ti ht
    split at hv
    · rename_i e hk
      split at hv
      · rename_i te hte
        split at hv
        · rename_i l hl
          split at hv
          · rename_i hle
            simp at hv; subst hv
            refine ⟨_, _, _, rfl, fun ρ a w hf => ?_⟩
            obtain ⟨vs, h1, h2, hlen⟩ := buildSlice_makes (P := P) (w := w) ho (hE.ty _ _ ht) hk (hE.ty _ _ hte) hf hl (ble_le hle)
            refine ⟨_, vs, h1, h2, ?_⟩
            have : VR (upR ρ σ.next (w.heap.size, 0, l.length)) (.sl σ.next 0 n (some n) te.size) (.slice (some ⟨w.heap.size, 0 + 0, none⟩) n n) :=
              .sl (upR_same ..) (fun x hx => by simpa using hx) (Nat.le_refl _) (by rw [hlen]; omega)
            exact this
          · cases hv
        · cases hv
      · cases hv
    · cases hv
end Go.Ev
end
section
namespace Go.Ev
variable {P : Program} {E : Env} {ρ : Rho} {σ σ' : St} {w : World} {fv : Operand → AV} {a : Act} {ops : Array Oper}

theorem memN_iff : ∀ (l : List Nat) (b : Nat), memN l b = true ↔ b ∈ l
  | [], b => by simp [memN]
  | x :: l, b => by
    unfold memN
    by_cases h : x = b
    · subst h; simp
    · have : Nat.beq x b = false := by
        cases hb : Nat.beq x b with
        | false => rfl
        | true => exact absurd (Nat.eq_of_beq_eq_true hb) h
      simp only [this, List.mem_cons]
      rw [if_neg (by simp), memN_iff l b]
      exact ⟨.inr, fun h' => h'.resolve_left (fun e => h e.symm)⟩
theorem subN_iff : ∀ (l m : List Nat), subN l m = true ↔ ∀ x ∈ l, x ∈ m
  | [], m => by simp [subN]
  | x :: l, m => by simp [subN, memN_iff, subN_iff l m]

/-- an order that is in order: each step, as the check has it -/
structure StepOK (ops : Array Oper) (pre : List DOp) (x : DOp) (o : Oper) : Prop where
  op : ops[x.i]? = some o
  deps : ∀ d ∈ depsOf o, ∃ y ∈ pre, y.i = d
  anc : ∀ q ∈ x.anc, q ∈ depsOf o ∨ ∃ y ∈ pre, y.i ∈ depsOf o ∧ q ∈ y.anc
  sel : ∀ cs b, o.op ≠ .select cs b
  other : ∀ y ∈ pre, y.i ≠ x.i ∧ (y.heavy = true → y.i ∈ x.anc) ∧ ∃ p, ops[y.i]? = some p ∧ (∀ d, p.dst = some d → o.dst ≠ some d) ∧
    ((∃ d, p.dst = some d ∧ d ∈ o.looksAt ops) → y.i ∈ x.anc) ∧ ((∃ d, o.dst = some d ∧ d ∈ p.looksAt ops) → y.i ∈ x.anc)
theorem stepChk_spec {acc : List DOp} {x : DOp} (h : stepChk ops acc x = true) : ∃ o, StepOK ops acc x o := by
  unfold stepChk at h
  split at h
  · cases h
  rename_i o ho
  simp only [Bool.and_eq_true] at h
  obtain ⟨⟨⟨h1, h2⟩, h3⟩, h4⟩ := h
  refine ⟨o, ho, fun d hd => ?_, fun q hq => ?_, fun cs b e => ?_, fun y hy => ?_⟩
  · have := (subN_iff _ _).1 h1 d hd
    obtain ⟨y, hy, rfl⟩ := List.mem_map.1 this
    exact ⟨y, hy, rfl⟩
  · have := List.all_eq_true.1 h2 q hq
    simp only [Bool.or_eq_true, List.any_eq_true, Bool.and_eq_true, memN_iff] at this
    rcases this with h | ⟨y, hy, h5, h6⟩
    · exact .inl h
    · exact .inr ⟨y, hy, h5, h6⟩
  · rw [e] at h3; simp at h3
  · have := List.all_eq_true.1 h4 y hy
    simp only [Bool.and_eq_true] at this
    obtain ⟨⟨h5, h6⟩, h7⟩ := this
    refine ⟨fun e => by rw [e] at h5; simp at h5, fun hh => ?_, ?_⟩
    · simp only [hh, Bool.not_true, Bool.false_or, memN_iff] at h6; exact h6
    · split at h7
      · cases h7
      rename_i p hp
      simp only [Bool.and_eq_true] at h7
      refine ⟨p, hp, fun d hd e => ?_, fun ⟨d, hd, hm⟩ => ?_, fun ⟨d, hd, hm⟩ => ?_⟩
      · have := h7.1
        simp [sameDst, hd, e] at this
      · have : looksB ops p o = true := by unfold looksB; rw [hd]; exact (memN_iff _ _).2 hm
        have h8 := h7.2
        rw [this] at h8
        simpa [memN_iff] using h8
      · have : looksB ops o p = true := by unfold looksB; rw [hd]; exact (memN_iff _ _).2 hm
        have h8 := h7.2
        rw [this] at h8
        simpa [memN_iff] using h8
theorem ordChk_spec : ∀ (rest acc : List DOp), ordChk ops acc rest = true →
    (∀ i, i < ops.size → ∃ y ∈ rest ++ acc, y.i = i) ∧ ∀ pre x post, rest = pre ++ x :: post → ∃ o, StepOK ops (pre.reverse ++ acc) x o
  | [], acc, h => by
    simp only [ordChk, List.all_eq_true, List.mem_range, memN_iff] at h
    refine ⟨fun i hi => ?_, fun pre x post e => by simp at e⟩
    obtain ⟨y, hy, rfl⟩ := List.mem_map.1 (h i hi)
    exact ⟨y, by simpa using hy, rfl⟩
  | x :: rest, acc, h => by
    simp only [ordChk, Bool.and_eq_true] at h
    obtain ⟨h1, h2⟩ := ordChk_spec rest (x :: acc) h.2
    refine ⟨fun i hi => ?_, fun pre y post e => ?_⟩
    · obtain ⟨y, hy, hi⟩ := h1 i hi
      refine ⟨y, ?_, hi⟩
      simp at hy ⊢
      rcases hy with hy | hy | hy
      · exact .inr (.inl hy)
      · exact .inl hy
      · exact .inr (.inr hy)
    · cases pre with
      | nil =>
        simp at e
        obtain ⟨rfl, rfl⟩ := e
        simpa using stepChk_spec h.1
      | cons z pre =>
        simp at e
        obtain ⟨rfl, rfl⟩ := e
        have := h2 pre y post rfl
        simpa using this
end Go.Ev
end
