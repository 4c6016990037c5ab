/- The law of this seat holds of every input: a part of the proof (an evaluator that is proved to answer as the model does, and its runs by the kernel). -/
import Derived.Test.YtaomoiphkcbnkaaGreatDoorEvDr11
set_option linter.unusedVariables false
set_option linter.unusedSimpArgs false
section
namespace Go.Ev
variable {P : Program} {E : Env} {ρ : Rho} {σ σ' : St} {w : World} {fr : Fr} {a : Act} {ops : Array Oper}

/-- a whole order, as the model draws one -/
def TopoF (ops : Array Oper) : Nat → Array Bool → List Nat → Prop
  | 0, _, l => l = []
  | f + 1, listed, l => (l = [] ∧ Region.ready .any ops listed = []) ∨ ∃ i l', l = i :: l' ∧ i ∈ Region.ready .any ops listed ∧ TopoF ops f (listed.setIfInBounds i true) l'
theorem topo_go : ∀ (fuel t : Nat) (listed : Array Bool), TopoF ops fuel listed (Region.linearise.go .any ops fuel t listed [])
  | 0, t, listed => by simp [Region.linearise.go, TopoF]
  | fuel + 1, t, listed => by
    simp only [Region.linearise.go]
    change TopoF ops (fuel + 1) listed (match (Region.ready .any ops listed)[t % (Region.ready .any ops listed).length]? with
      | some i => Region.linearise.go .any ops fuel (t / (Region.ready .any ops listed).length) (listed.setIfInBounds i true) [i]
      | none => [].reverse)
    cases hi : (Region.ready .any ops listed)[t % (Region.ready .any ops listed).length]? with
    | none =>
      have hnil : Region.ready .any ops listed = [] := by
        cases hr : Region.ready .any ops listed with
        | nil => rfl
        | cons x xs =>
          rw [hr] at hi
          have hlt : t % (x :: xs).length < (x :: xs).length := Nat.mod_lt _ (by simp)
          simp at hi
          simp at hlt
          omega
      exact .inl ⟨rfl, hnil⟩
    | some i =>
      refine .inr ⟨i, Region.linearise.go .any ops fuel (t / (Region.ready .any ops listed).length) (listed.setIfInBounds i true) [], ?_, List.mem_of_getElem? hi, topo_go fuel (t / (Region.ready .any ops listed).length) _⟩
      simp only []
      rw [linearise_go_acc, List.reverse_singleton, List.singleton_append]
theorem any_topo {Q : Exit → Act → World → Prop} : ∀ (fuel : Nat) (listed : Array Bool) (l : List Nat) (a : Act) (w : World), wpAny P .any ops Q fuel listed a w → TopoF ops fuel listed l → wpOps P ops Q l a w
  | 0, listed, l, a, w, h, ht => by
    simp only [TopoF] at ht
    subst ht
    exact h.2
  | fuel + 1, listed, l, a, w, h, ht => by
    rcases ht with ⟨rfl, hr⟩ | ⟨i, l', rfl, hi, ht⟩
    · exact h.1 hr
    · rw [wpOps_cons]
      exact wpOp_mono (fun a w ha => any_topo fuel _ l' a w ha ht) (h.2 i hi)

-- one edge more
theorem ed_dst (c : Prop) [Decidable c] (o : Oper) (e : Array Edge) : (if c then ({ o with after := e } : Oper) else o).dst = o.dst := by split <;> rfl
theorem ed_op (c : Prop) [Decidable c] (o : Oper) (e : Array Edge) : (if c then ({ o with after := e } : Oper) else o).op = o.op := by split <;> rfl
theorem ed_guard (c : Prop) [Decidable c] (o : Oper) (e : Array Edge) : (if c then ({ o with after := e } : Oper) else o).guard = o.guard := by split <;> rfl
theorem edge_get (i j k : Nat) : (edge ops i j)[k]? = (ops[k]?).map fun o => if k = i then { o with after := o.after.push ⟨j, .data⟩ } else o := by
  unfold edge
  rw [Array.getElem?_modify]
  split
  · rename_i h; subst h; simp
  · rename_i h
    cases ops[k]? <;> simp [Ne.symm h]
theorem edge_size (i j : Nat) : (edge ops i j).size = ops.size := by simp [edge]
theorem ready_edge {i j k : Nat} {listed : Array Bool} : k ∈ Region.ready .any (edge ops i j) listed ↔ k ∈ Region.ready .any ops listed ∧ (k = i → listed.getD j false = true) := by
  unfold Region.ready
  simp only [edge_size, List.mem_filter, List.mem_range, Bool.and_eq_true, edge_get]
  cases ho : ops[k]? with
  | none => simp
  | some o =>
    by_cases hk : k = i
    · subst hk
      simp [Region.binds, Array.all_push]
      constructor
      · rintro ⟨h1, h2, h3, h4⟩; exact ⟨⟨h1, h2, h3⟩, h4⟩
      · rintro ⟨⟨h1, h2, h3⟩, h4⟩; exact ⟨h1, h2, h3, h4⟩
    · simp [hk]
theorem ready_listed {k : Nat} {listed : Array Bool} (h : k ∈ Region.ready .any ops listed) : listed.getD k true = false := by
  unfold Region.ready at h
  simp only [List.mem_filter, Bool.and_eq_true] at h
  simpa using h.2.1
theorem topo_same {i j : Nat} : ∀ (fuel : Nat) (listed : Array Bool) (l : List Nat), listed.getD j false = true → TopoF ops fuel listed l → TopoF (edge ops i j) fuel listed l
  | 0, _, _, _, h => h
  | fuel + 1, listed, l, hj, h => by
    have hr : ∀ k, k ∈ Region.ready .any (edge ops i j) listed ↔ k ∈ Region.ready .any ops listed := fun k => by rw [ready_edge]; exact ⟨And.left, fun h => ⟨h, fun _ => hj⟩⟩
    rcases h with ⟨rfl, h⟩ | ⟨k, l', rfl, hk, h⟩
    · refine .inl ⟨rfl, ?_⟩
      exact List.eq_nil_iff_forall_not_mem.2 fun k hk => by have := (hr k).1 hk; rw [h] at this; cases this
    · refine .inr ⟨k, l', rfl, (hr k).2 hk, topo_same fuel _ l' ?_ h⟩
      have hjs : j < listed.size := by
        refine Nat.lt_of_not_le fun hle => ?_
        simp [Array.getD, Nat.not_lt.2 hle] at hj
      by_cases e : k = j
      · subst e; simp [Array.getD, hjs]
      · simp [Array.getD, hjs] at hj ⊢
        rw [Array.getElem_setIfInBounds_ne _ e]
        exact hj
theorem topo_split {i j : Nat} (hij : i ≠ j) : ∀ (fuel : Nat) (listed : Array Bool) (l : List Nat), listed.size = ops.size → TopoF ops fuel listed l → TopoF (edge ops i j) fuel listed l ∨ TopoF (edge ops j i) fuel listed l
  | 0, _, _, _, h => .inl h
  | fuel + 1, listed, l, hs, h => by
    rcases h with ⟨rfl, h⟩ | ⟨k, l', rfl, hk, h⟩
    · refine .inl (.inl ⟨rfl, List.eq_nil_iff_forall_not_mem.2 fun k hk => ?_⟩)
      have := (ready_edge.1 hk).1
      rw [h] at this; cases this
    · have hks : k < listed.size := by
        unfold Region.ready at hk
        simp only [List.mem_filter, List.mem_range] at hk
        omega
      have hset : (listed.setIfInBounds k true).getD k false = true := by simp [Array.getD, hks]
      by_cases ei : k = i
      · subst ei
        exact .inr (.inr ⟨k, l', rfl, ready_edge.2 ⟨hk, fun e => absurd e hij⟩, topo_same fuel _ l' hset h⟩)
      · by_cases ej : k = j
        · subst ej
          exact .inl (.inr ⟨k, l', rfl, ready_edge.2 ⟨hk, fun e => absurd e.symm hij⟩, topo_same fuel _ l' hset h⟩)
        · rcases topo_split hij fuel _ l' (by simpa using hs) h with h | h
          · exact .inl (.inr ⟨k, l', rfl, ready_edge.2 ⟨hk, fun e => absurd e ei⟩, h⟩)
          · exact .inr (.inr ⟨k, l', rfl, ready_edge.2 ⟨hk, fun e => absurd e ej⟩, h⟩)
theorem yielded_edge (i j : Nat) (tmps : Array Value) (k : Nat) : yielded (edge ops i j) tmps k = yielded ops tmps k := by
  unfold yielded
  rw [edge_get]
  cases ops[k]? with
  | none => rfl
  | some o => simp only [Option.map_some, Option.bind_some, ed_dst]
theorem wpOp_edge {Q : Exit → Act → World → Prop} {K : Act → World → Prop} (i j k : Nat) : wpOp P (edge ops i j) Q k K a w ↔ wpOp P ops Q k K a w := by
  unfold wpOp
  rw [edge_get]
  cases ho : ops[k]? with
  | none => simp
  | some o =>
    simp only [Option.map_some]
    have hy : yielded (edge ops i j) a.tmps = yielded ops a.tmps := funext fun k => yielded_edge i j a.tmps k
    rw [hy]
    by_cases hk : k = i
    · rw [if_pos hk]; exact Iff.rfl
    · rw [if_neg hk]
theorem wpOps_edge {Q : Exit → Act → World → Prop} (i j : Nat) : ∀ (l : List Nat) (a : Act) (w : World), wpOps P (edge ops i j) Q l a w → wpOps P ops Q l a w
  | [], _, _, h => h
  | k :: l, a, w, h => by
    rw [wpOps_cons] at h ⊢
    exact wpOp_mono (fun a w => wpOps_edge i j l a w) ((wpOp_edge i j k).1 h)

-- the evaluator does not look at edges
theorem nth_edge (i j k : Nat) : nth (edge ops i j).toList k = (nth ops.toList k).map fun o => if k = i then { o with after := o.after.push ⟨j, .data⟩ } else o := by
  rw [nth_eq, nth_eq]
  simpa using edge_get (ops := ops) i j k
theorem yield_edge (i j k : Nat) : yield (edge ops i j) fr k = yield ops fr k := by
  unfold yield
  rw [nth_edge]
  cases nth ops.toList k with
  | none => rfl
  | some o => simp only [Option.map_some, ed_dst]
theorem guardOk_edge (i j : Nat) (g : Option (Nat × Bool)) : guardOk (edge ops i j) fr g = guardOk ops fr g := by
  cases g with
  | none => rfl
  | some x =>
    obtain ⟨k, b⟩ := x
    simp only [guardOk, yield_edge, nth_edge]
    cases nth ops.toList k with
    | none => rfl
    | some o => simp only [Option.map_some, ed_dst]
theorem evDraw_edge (i j : Nat) {call : CallF} : ∀ (l : List DOp) (q : List (Nat × Touch)) (fr : Fr) (σ : St), evDraw E call (edge ops i j) l q fr σ = evDraw E call ops l q fr σ
  | [], _, _, _ => rfl
  | x :: l, q, fr, σ => by
    have ih := fun q fr σ => evDraw_edge i j (call := call) l q fr σ
    unfold evDraw
    rw [nth_edge]
    cases nth ops.toList x.i with
    | none => rfl
    | some o =>
      simp only [Option.map_some]
      simp only [ed_op, ed_dst, ed_guard, guardOk_edge, ih]

-- two orders, alike but for the last two
theorem lastTwo_spec : ∀ {l p : List DOp} {a b : DOp}, lastTwo l = some (p, a, b) → l = p ++ [a, b]
  | [], _, _, _, h => by simp [lastTwo] at h
  | x :: l, p, a, b, h => by
    simp only [lastTwo] at h
    split at h
    · rename_i p' a' b' h'
      simp at h
      obtain ⟨rfl, rfl, rfl⟩ := h
      rw [lastTwo_spec h']; rfl
    · split at h
      · simp at h
        obtain ⟨rfl, rfl, rfl⟩ := h
        rfl
      · cases h
theorem eqNats_eq : ∀ {a b : List Nat}, eqNats a b = true → a = b
  | [], [], _ => rfl
  | x :: a, y :: b, h => by
    simp only [eqNats, Bool.and_eq_true] at h
    rw [Nat.eq_of_beq_eq_true h.1, eqNats_eq h.2]
  | [], _ :: _, h => by simp [eqNats] at h
  | _ :: _, [], h => by simp [eqNats] at h
theorem eqDOps_eq : ∀ {a b : List DOp}, eqDOps a b = true → a = b
  | [], [], _ => rfl
  | x :: a, y :: b, h => by
    simp only [eqDOps, Bool.and_eq_true] at h
    obtain ⟨⟨h1, h2, h3⟩, h4⟩ := h
    have : x = y := by
      cases x; cases y
      simp at h1 h2
      simp only [DOp.mk.injEq]
      exact ⟨h1, h2, eqNats_eq h3⟩
    rw [this, eqDOps_eq h4]
  | [], _ :: _, h => by simp [eqDOps] at h
  | _ :: _, [], h => by simp [eqDOps] at h
theorem bareStore_spec {i : Nat} {x : Operand} (h : bareStore ops.toList i = some x) : ∃ o t v, nth ops.toList i = some o ∧ o.op = .store t x v ∧ o.dst = none ∧ o.guard = none := by
  unfold bareStore at h
  split at h
  · rename_i o ho
    split at h
    · rename_i t a v h1 h2 h3
      simp at h; subst h
      exact ⟨o, t, v, ho, h1, h2, h3⟩
    · cases h
  · cases h
theorem evDraw_go {call : CallF} {x : DOp} {l : List DOp} {q : List (Nat × Touch)} {fr : Fr} {o : Oper} (ho : nth ops.toList x.i = some o) (hg : guardOk ops fr o.guard = some true) :
    evDraw E call ops (x :: l) q fr σ = (if x.heavy then
          match evOp E fr.val o.op { h := σ.h, next := σ.next, log := [] } with
          | some (.val v σ1) =>
            if apartLog x.anc σ σ1 q then match fr.put o.dst v with
              | some fr' => evDraw E call ops l q fr' { h := σ1.h, next := σ1.next, log := σ1.log ++ σ.log }
              | none => none
            else none
          | some (.call f args) => match call f args { h := σ.h, next := σ.next, log := [] } with
            | some (v, σ1) =>
              if apartLog x.anc σ σ1 q then match fr.put o.dst v with
                | some fr' => evDraw E call ops l q fr' { h := σ1.h, next := σ1.next, log := σ1.log ++ σ.log }
                | none => none
              else none
            | none => none
          | none => none
        else if hoistPure E o.op then
          match evOp E fr.val o.op σ with
          | some (.val v _) => match fr.put o.dst v with
            | some fr' => match touch E fr.val o.op with
              | some t => if Nat.blt t.b σ.next then evDraw E call ops l ((x.i, t) :: q) fr' σ else none
              | none => evDraw E call ops l q fr' σ
            | none => none
          | _ => none
        else if hoistFresh o.op then
          match evOp E fr.val o.op σ with
          | some (.val v σ1) => match fr.put o.dst v with
            | some fr' => evDraw E call ops l ((x.i, ⟨σ.next, 0, none⟩) :: q) fr' σ1
            | none => none
          | _ => none
        else none) := by
  conv => lhs; unfold evDraw
  simp only [ho, hg]
  rfl
theorem evDraw_off {call : CallF} {x : DOp} {l : List DOp} {q : List (Nat × Touch)} {fr fr1 : Fr} {o : Oper} (ho : nth ops.toList x.i = some o) (hg : guardOk ops fr o.guard = some false) (hp : fr.put o.dst (.tup []) = some fr1) :
    evDraw E call ops (x :: l) q fr σ = evDraw E call ops l q fr1 σ := by
  conv => lhs; unfold evDraw
  simp only [ho, hg, hp]

/-- what is behind a part of an order hangs on what the part leaves alone -/
theorem evDraw_append {call : CallF} : ∀ (p s : List DOp) (q : List (Nat × Touch)) (fr : Fr) (σ : St) (r : Fr × St), evDraw E call ops (p ++ s) q fr σ = some r →
    ∃ q' fr1 σ1, evDraw E call ops s q' fr1 σ1 = some r ∧ ∀ s', evDraw E call ops (p ++ s') q fr σ = evDraw E call ops s' q' fr1 σ1
  | [], s, q, fr, σ, r, h => ⟨q, fr, σ, h, fun _ => rfl⟩
  | x :: p, s, q, fr, σ, r, h => by
    have step : ∀ q1 fr1 σ1, (∀ s', evDraw E call ops (x :: (p ++ s')) q fr σ = evDraw E call ops (p ++ s') q1 fr1 σ1) → ∃ q' fr2 σ2, evDraw E call ops s q' fr2 σ2 = some r ∧ ∀ s', evDraw E call ops (x :: p ++ s') q fr σ = evDraw E call ops s' q' fr2 σ2 := fun q1 fr1 σ1 hs => by
      obtain ⟨q', fr2, σ2, g1, g2⟩ := evDraw_append (call := call) p s q1 fr1 σ1 r ((hs s).symm.trans h)
      exact ⟨q', fr2, σ2, g1, fun s' => (hs s').trans (g2 s')⟩
    rw [List.cons_append] at h
    cases ho : nth ops.toList x.i with
    | none => unfold evDraw at h; rw [ho] at h; cases h
    | some o =>
      cases hg : guardOk ops fr o.guard with
      | none => unfold evDraw at h; simp only [ho, hg] at h; cases h
      | some g =>
        cases g with
        | false =>
          cases hp : fr.put o.dst (.tup []) with
          | none => unfold evDraw at h; simp only [ho, hg, hp] at h; cases h
          | some fr1 => exact step q fr1 σ fun s' => evDraw_off ho hg hp
        | true =>
          rw [evDraw_go ho hg] at h
          split at h
          · rename_i hh
            split at h
            · rename_i v σ1 hop
              split at h
              · rename_i ha
                split at h
                · rename_i fr1 hp
                  exact step q fr1 { h := σ1.h, next := σ1.next, log := σ1.log ++ σ.log } fun s' => by rw [evDraw_go ho hg]; simp only [hh, hop, ha, hp, if_true]
                · cases h
              · cases h
            · rename_i f args hop
              split at h
              · rename_i v σ1 hcl
                split at h
                · rename_i ha
                  split at h
                  · rename_i fr1 hp
                    exact step q fr1 { h := σ1.h, next := σ1.next, log := σ1.log ++ σ.log } fun s' => by rw [evDraw_go ho hg]; simp only [hh, hop, hcl, ha, hp, if_true]
                  · cases h
                · cases h
              · cases h
            · cases h
          · rename_i hh
            split at h
            · rename_i hpu
              split at h
              · rename_i v σ1 hop
                split at h
                · rename_i fr1 hp
                  split at h
                  · rename_i t ht
                    split at h
                    · rename_i hb
                      exact step ((x.i, t) :: q) fr1 σ fun s' => by rw [evDraw_go ho hg, if_neg hh]; simp only [hpu, hop, hp, ht, hb, if_true]
                    · cases h
                  · rename_i ht
                    exact step q fr1 σ fun s' => by rw [evDraw_go ho hg, if_neg hh]; simp only [hpu, hop, hp, ht, if_true]
                · cases h
              · cases h
            · rename_i hpu
              split at h
              · rename_i hf
                split at h
                · rename_i v σ1 hop
                  split at h
                  · rename_i fr1 hp
                    exact step ((x.i, ⟨σ.next, 0, none⟩) :: q) fr1 σ1 fun s' => by rw [evDraw_go ho hg, if_neg hh, if_neg hpu]; simp only [hf, hop, hp, if_true]
                  · cases h
                · cases h
              · cases h
theorem put_none (fr : Fr) (v : AV) : fr.put none v = some fr := rfl
/-- one bare store at the head -/
theorem evDraw_store {call : CallF} {x : DOp} {s : List DOp} {q : List (Nat × Touch)} {r : Fr × St} {o : Oper} {t : Nat} {y v : Operand} (ho : nth ops.toList x.i = some o) (hop : o.op = .store t y v) (hd : o.dst = none) (hg : o.guard = none) (hh : x.heavy = true)
    (h : evDraw E call ops (x :: s) q fr σ = some r) : ∃ b off bl, fr.val y = .ptr b off ∧ b < σ.next ∧ evDraw E call ops s q fr (relog ((unlog σ).upd b bl) σ) = some r := by
  unfold evDraw at h
  simp only [ho, hg, hd, guardOk, hh, if_true, hop, put_none] at h
  cases hev : evOp E fr.val (.store t y v) { h := σ.h, next := σ.next, log := [] } with
  | none => rw [hev] at h; cases h
  | some td =>
    rw [hev] at h
    have hev2 := hev
    simp only [evOp] at hev2
    split at hev2
    rotate_left
    · cases hev2
    rename_i ti b off ht hb
    split at hev2
    · cases hev2
    split at hev2
    rotate_left
    · cases hev2
    split at hev2
    rotate_left
    · cases hev2
    rename_i s1 hs1
    simp at hev2; subst hev2
    simp only at h
    split at h
    rotate_left
    · cases h
    unfold stN at hs1
    split at hs1
    rotate_left
    · cases hs1
    rename_i cells e hrow
    split at hs1
    rotate_left
    · cases hs1
    split at hs1
    rotate_left
    · cases hs1
    simp at hs1; subst hs1
    refine ⟨b, off, _, hb, ?_, h⟩
    refine St.get_lt (σ := σ) (b := b) ?_
    unfold live
    have : St.get σ b = .row cells e false := hrow
    rw [this]
theorem relog_get (σ1 σ : St) (b : Nat) : (relog σ1 σ).get b = σ1.get b := rfl
theorem unlog_upd_get (σ : St) (b z : Nat) (bl : Blk) (hc : b < σ.next) : ((unlog σ).upd b bl).get z = if z = b then bl else σ.get z := St.get_upd (unlog σ) b bl z hc
theorem upd_log (σ : St) (b : Nat) (bl : Blk) : ((unlog σ).upd b bl).log = [b] := rfl
theorem Post.same {ρ' : Rho} {σ1 σ2 : St} {w' : World} (h : Post ρ σ w ρ' σ2 w') (hg : ∀ b, σ1.get b = σ2.get b) (hn : σ1.next = σ2.next) (hl : ∀ b, b ∈ σ1.log ↔ b ∈ σ2.log) : Post ρ σ w ρ' σ1 w' :=
  ⟨h.ext, by rw [hn]; exact h.next, h.hr.same hg hn, h.keep, fun b B d z h1 h2 h3 => h.img b B d z h1 (by rw [← writable_same (hg b)]; exact h2) h3, fun b hb hnl => (hg b).trans (h.log b hb (fun hm => hnl ((hl b).2 hm))), fun b hb => (hl b).2 (h.logs b hb)⟩

theorem draw_any {call : CallF} {l : List DOp} {fr' : Fr} (hE : EnvOK P E) (hC : CallOK P E call) (hc : drawChk ops l = true) (hv : evDraw E call ops l [] fr σ = some (fr', σ')) {Q : Exit → Act → World → Prop} (hf : FrR ρ fr a) (hg : Glob E ρ) (h : HR ρ σ w)
    (hq : ∀ ρ' a' w', FrR ρ' fr' a' → fr'.g = fr.g → Post ρ σ w ρ' σ' w' → Q .normal a' w') : wpAny P .any ops Q ops.size (Array.replicate ops.size false) a { w with drawn := w.drawn + 1 } := by
  have hO := drawChk_spec hc
  have hd : Post ρ σ w ρ σ { w with drawn := w.drawn + 1 } := Post.drew h 1
  have hno : ∀ q, ¬ Lst (Array.replicate ops.size false) q := fun q e => by
    have hlt := e.lt
    unfold Lst at e
    simp at hlt
    simp [hlt] at e
  obtain ⟨n1, n2, _⟩ := evDraw_final l [] fr σ fr' σ' hv
  have h0 : FrS ops fr fr' (fun q => ∃ y ∈ ([] : List DOp), y.i = q) fr := ⟨rfl, rfl, fun t ⟨q, o, ⟨y, hy, _⟩, _⟩ => (by cases hy), fun _ _ => rfl⟩
  have h1 : FrS ops fr fr' (Lst (Array.replicate ops.size false)) fr := ⟨rfl, rfl, fun t ⟨q, o, hq, _⟩ => absurd hq (hno q), fun _ _ => rfl⟩
  have hA : Ahead E call ops l fr fr' σ σ' ρ w (Lst (Array.replicate ops.size false)) [] l [] fr σ (fun _ => none) ρ { w with drawn := w.drawn + 1 } :=
    ⟨rfl, hv, h0, fun x hx => (by cases hx), fun i b hb => (by cases hb), fun i j b hb => (by cases hb), fun i b hb => (by cases hb), fun p hp => (by cases hp), hd⟩
  obtain ⟨d2, t2, p2, f2, s2, b2, a1, a2, a3⟩ := hA.hoist hE hO
  exact draw_main hE hC hO ⟨n1, n2⟩ hq ops.size _ a _ ρ fr d2 t2 p2 f2 s2 b2 (by unfold left; exact Nat.le_trans (List.length_filter_le ..) (by simp)) (by simp) a1 a2 (fun x _ => hno _) (fun q o hq => absurd hq (hno q)) h1 hf hg

theorem regOK_twin {ords : List (Nat × List DOp)} {call : CallF} {id : Nat} {l m : List DOp} (hE : EnvOK P E) (hC : CallOK P E call) (hm : P.follows .mixedOrders = true) (hl : findOrd ords id = some l) (hl2 : findOrd ords (twinId id) = some m) (hc : twinChk ops l m = true) : RegOK P E ords call id ops true := by
  intro fr σ fr' σ' hv Q ρ a w hf hg h hq
  unfold twinChk at hc
  cases ht : twinOf ops.toList l m with
  | none => simp only [evReg, hl, hl2, evTwin, ht] at hv; cases hv
  | some xy =>
  obtain ⟨x, y⟩ := xy
  simp only [evReg, hl, hl2, evTwin, ht] at hv
  rw [ht] at hc
  split at hv
  rotate_left
  · cases hv
  rename_i fr1 σ1 fr2 σ2 h1 h2
  split at hv
  rotate_left
  · cases hv
  rename_i hsame
  simp at hv; obtain ⟨rfl, rfl⟩ := hv
  split at hc
  rotate_left
  · cases hc
  rename_i p da db xy' hlt ht'
  simp only [Bool.and_eq_true, Bool.not_eq_true'] at hc
  obtain ⟨hne, hc1, hc2⟩ := hc
  have hne : db.i ≠ da.i := fun e => by rw [e, Nat.beq_refl] at hne; cases hne
  -- the two orders, taken apart
  unfold twinOf at ht
  rw [hlt] at ht
  split at ht
  rotate_left
  · cases ht
  rename_i p0 a0 b0 q c d e0 hlm
  simp at e0; obtain ⟨rfl, rfl, rfl⟩ := e0
  split at ht
  rotate_left
  · cases ht
  rename_i hcond
  simp only [Bool.and_eq_true] at hcond
  obtain ⟨hpq, ⟨e1, e2⟩, ⟨ha, hb⟩, hcc, hd⟩ := hcond
  have hpq := eqDOps_eq hpq
  subst hpq
  have e1 := Nat.eq_of_beq_eq_true e1
  have e2 := Nat.eq_of_beq_eq_true e2
  split at ht
  rotate_left
  · cases ht
  rename_i x0 y0 hx hy
  simp at ht; obtain ⟨rfl, rfl⟩ := ht
  obtain ⟨oa, ta, va, oa1, oa2, oa3, oa4⟩ := bareStore_spec hx
  obtain ⟨ob, tb, vb, ob1, ob2, ob3, ob4⟩ := bareStore_spec hy
  have hL := lastTwo_spec hlt
  have hM := lastTwo_spec hlm
  have h1' := h1
  rw [hL] at h1'
  obtain ⟨q', frp, σp, g1, g2⟩ := evDraw_append p [da, db] _ _ _ _ h1'
  have h2' := h2
  rw [hM, g2] at h2'
  obtain ⟨b1, f1, bl1, k1, k2, g3⟩ := evDraw_store oa1 oa2 oa3 oa4 ha g1
  obtain ⟨b2, f2, bl2, k3, k4, g4⟩ := evDraw_store ob1 ob2 ob3 ob4 hb g3
  obtain ⟨b3, f3, bl3, k5, k6, g5⟩ := evDraw_store (x := c) (by rw [← e2]; exact ob1) ob2 ob3 ob4 hcc h2'
  obtain ⟨b4, f4, bl4, k7, k8, g6⟩ := evDraw_store (x := d) (by rw [← e1]; exact oa1) oa2 oa3 oa4 hd g5
  simp only [evDraw] at g4 g6
  simp at g4 g6
  obtain ⟨rfl, rfl⟩ := g4
  obtain ⟨rfl, rfl⟩ := g6
  rw [k1] at k7; simp at k7; obtain ⟨rfl, rfl⟩ := k7
  rw [k3] at k5; simp at k5; obtain ⟨rfl, rfl⟩ := k5
  -- they come to the same
  obtain ⟨s1, s2⟩ := hsame
  simp only [sameAt, k1, k3] at s1 s2
  have hget : ∀ z, (relog ((unlog (relog ((unlog σp).upd b1 bl1) σp)).upd b2 bl2) (relog ((unlog σp).upd b1 bl1) σp)).get z = (relog ((unlog (relog ((unlog σp).upd b2 bl3) σp)).upd b1 bl4) (relog ((unlog σp).upd b2 bl3) σp)).get z := by
    intro z
    by_cases z1 : z = b1
    · subst z1; exact s1
    · by_cases z2 : z = b2
      · subst z2; exact s2
      · rw [relog_get, relog_get, unlog_upd_get _ _ _ _ k4, unlog_upd_get _ _ _ _ k8, if_neg z2, if_neg z1, relog_get, relog_get, unlog_upd_get _ _ _ _ k2, unlog_upd_get _ _ _ _ k6, if_neg z1, if_neg z2]
  refine wp_region_draw fun t => ?_
  simp only [Region.schedule, hm, Bool.true_or, if_true]
  have htopo := topo_go (ops := ops) ops.size t (Array.replicate ops.size false)
  show wpOps P ops Q (Region.linearise .any ops t) a _
  unfold Region.linearise
  rcases topo_split hne _ _ _ (by simp) htopo with hto | hto
  · have h1e : evDraw E call (edge ops db.i da.i) l [] fr σ = _ := (evDraw_edge db.i da.i l [] fr σ).trans h1
    have := draw_any hE hC hc1 h1e hf hg h hq
    rw [edge_size] at this
    exact wpOps_edge _ _ _ _ _ (any_topo _ _ _ _ _ this hto)
  · have h2e : evDraw E call (edge ops da.i db.i) m [] fr σ = _ := (evDraw_edge da.i db.i m [] fr σ).trans h2
    have := draw_any hE hC hc2 h2e hf hg h (fun ρ' a' w' hf' hg' hp' => hq ρ' a' w' hf' hg' (hp'.same hget rfl (fun z => by
      show z ∈ [b2] ++ ([b1] ++ σp.log) ↔ z ∈ [b1] ++ ([b2] ++ σp.log)
      simp only [List.mem_append, List.mem_singleton]
      constructor
      · rintro (h | h | h)
        · exact .inr (.inl h)
        · exact .inl h
        · exact .inr (.inr h)
      · rintro (h | h | h)
        · exact .inr (.inl h)
        · exact .inl h
        · exact .inr (.inr h))))
    rw [edge_size] at this
    exact wpOps_edge _ _ _ _ _ (any_topo _ _ _ _ _ this hto)
end Go.Ev
end
section
namespace Go.Ev
variable {P : Program} {E : Env} {ρ : Rho} {σ σ' : St} {w : World} {fr : Fr} {a : Act} {ops : Array Oper}

theorem regOK_plain {ords : List (Nat × List DOp)} {call : CallF} {id : Nat} (hE : EnvOK P E) (hC : CallOK P E call) : RegOK P E ords call id ops false := by
  intro fr σ fr' σ' hv Q ρ a w hf hg h hq
  refine wp_region ?_
  have := evOps_sound hE hC Q ops.toList 0 fr σ ρ a w fr' σ' rfl hv hf hg h hq
  rw [List.range_eq_range']
  simpa using this
theorem regOK_draw {ords : List (Nat × List DOp)} {call : CallF} {id : Nat} {l : List DOp} (hE : EnvOK P E) (hC : CallOK P E call) (hm : P.follows .mixedOrders = true) (hl : findOrd ords id = some l) (hl2 : findOrd ords (twinId id) = none) (hc : drawChk ops l = true) : RegOK P E ords call id ops true := by
  intro fr σ fr' σ' hv Q ρ a w hf hg h hq
  simp only [evReg, hl, hl2] at hv
  exact wp_region_any hm (draw_any hE hC hc hv hf hg h hq)
theorem codeChk_spec {ords : List (Nat × List DOp)} {call : CallF} (hE : EnvOK P E) (hC : CallOK P E call) (hm : P.follows .mixedOrders = true) : ∀ c : Code, codeChk ords findOrd c = true → allReg (RegOK P E ords call) c := by
  intro c
  induction c with
  | region id ops d =>
    intro h
    cases d with
    | false => exact regOK_plain hE hC
    | true =>
      simp only [codeChk] at h
      split at h
      · rename_i l hl
        split at h
        · rename_i hl2; exact regOK_draw hE hC hm hl hl2 h
        · rename_i m hl2; exact regOK_twin hE hC hm hl hl2 h
      · cases h
  | seq x y ihx ihy => intro h; simp only [codeChk, Bool.and_eq_true] at h; exact ⟨ihx h.1, ihy h.2⟩
  | cond c x y ihx ihy => intro h; simp only [codeChk, Bool.and_eq_true] at h; exact ⟨ihx h.1, ihy h.2⟩
  | block id x ih => intro h; exact ih h
  | loop x ih => intro h; exact ih h
  | scope x ih => intro h; exact ih h
  | _ => intro _; trivial
end Go.Ev
end
