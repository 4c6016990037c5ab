/- The law of this seat holds of every input: a part of the proof (an evaluator that is proved to answer as the model does, and its runs by the kernel). -/
import Derived.Test.YtaomoiphkcbnkaaGreatDoorEvRel
set_option linter.unusedVariables false
set_option linter.unusedSimpArgs false
section
namespace Go.Ev

theorem putL_spec : ∀ (l : List AV) (o : Nat) (vs l' : List AV), putL l o vs = some l' →
    l'.length = l.length ∧ (vs ≠ [] → o + vs.length ≤ l.length) ∧ ∀ j, l'[j]? = if o ≤ j ∧ j < o + vs.length then vs[j - o]? else l[j]? := by
  intro l
  induction l with
  | nil =>
    intro o vs l' h
    cases vs with
    | nil => simp [putL] at h; subst h; refine ⟨rfl, by simp, fun j => by simp⟩
    | cons v vs => simp [putL] at h
  | cons x l ih =>
    intro o vs l' h
    cases vs with
    | nil => simp [putL] at h; subst h; refine ⟨rfl, by simp, fun j => ?_⟩; rw [if_neg (by simp only [List.length_nil]; omega)]
    | cons v vs =>
      cases o with
      | zero =>
        simp only [putL] at h
        split at h
        · rename_i l1 h1
          simp at h; subst h
          obtain ⟨a1, a2, a3⟩ := ih 0 vs l1 h1
          refine ⟨by simp [a1], fun _ => ?_, fun j => ?_⟩
          · cases vs with
            | nil => simp
            | cons u us => have := a2 (by simp); simp at this ⊢; omega
          · cases j with
            | zero => simp
            | succ j =>
              have := a3 j
              simp only [List.getElem?_cons_succ, this, List.length_cons]
              by_cases hj : j < vs.length
              · rw [if_pos (by omega), if_pos (by omega)]; simp
              · rw [if_neg (by omega), if_neg (by omega)]
        · cases h
      | succ o =>
        simp only [putL] at h
        split at h
        · rename_i l1 h1
          simp at h; subst h
          obtain ⟨a1, a2, a3⟩ := ih o (v :: vs) l1 h1
          refine ⟨by simp [a1], fun hne => ?_, fun j => ?_⟩
          · have := a2 hne; simp only [List.length_cons] at this ⊢; omega
          · cases j with
            | zero => rw [if_neg (by omega)]; simp
            | succ j =>
              have := a3 j
              simp only [List.getElem?_cons_succ, this, List.length_cons]
              by_cases hj : o ≤ j ∧ j < o + (vs.length + 1)
              · rw [if_pos hj, if_pos (by omega)]
                have e : j + 1 - (o + 1) = j - o := by omega
                rw [e]
              · rw [if_neg hj, if_neg (by omega)]
        · cases h

theorem oneCell_rel {ρ : Rho} {v : AV} {v' : Value} (h : VR ρ v v') (h1 : oneCell v = true) : v'.oneCell' = true := by
  cases h <;> simp_all [oneCell, Value.oneCell']
theorem oneCells_rel {ρ : Rho} : ∀ {l : List AV} {l' : List Value}, VRL ρ l l' → l.all oneCell = true → ∀ v ∈ l', v.oneCell' = true
  | _, _, .nil, _ => by simp
  | _, _, .cons h hl, h1 => by
    simp only [List.all_cons, Bool.and_eq_true] at h1
    intro v hv
    rcases List.mem_cons.1 hv with rfl | hv
    · exact oneCell_rel h h1.1
    · exact oneCells_rel hl h1.2 v hv

theorem setCells_heap (B : Nat) : ∀ (vs : List Value) (o : Nat) (w : World), (w.setCells B o vs).heap.size = w.heap.size ∧ (w.setCells B o vs).os = w.os ∧ (w.setCells B o vs).tape = w.tape ∧
    (w.setCells B o vs).output = w.output ∧ ∀ B', B' ≠ B → (w.setCells B o vs).heap[B']? = w.heap[B']?
  | [], o, w => ⟨rfl, rfl, rfl, rfl, fun _ _ => rfl⟩
  | v :: vs, o, w => by
    obtain ⟨a1, a2, a3, a4, a5⟩ := setCells_heap B vs (o + 1) (w.setCell ⟨B, o, none⟩ v)
    simp only [World.setCells]
    refine ⟨a1.trans (by simp [World.setCell]), a2, a3, a4, fun B' hB => (a5 B' hB).trans ?_⟩
    simp only [World.setCell]
    rw [Array.getElem?_modify, if_neg (fun e => hB e.symm)]

theorem shape_setCell (C : Nat) (w : World) (a : Addr) (v : Value) : (w.setCell a v).shape? C = w.shape? C := by
  have e : (w.setCell a v).heap[C]? = if a.block = C then Option.map (fun | .cells c elem frozen => .cells (if a.spot.isSome then c else c.setIfInBounds a.off v) elem frozen | o => o) w.heap[C]? else w.heap[C]? := by
    simp only [World.setCell]
    rw [Array.getElem?_modify]
    by_cases h : a.block = C
    · rw [if_pos h, if_pos h]
      cases w.heap[C]? with
      | none => rfl
      | some x => cases x <;> rfl
    · rw [if_neg h, if_neg h]
  unfold World.shape?
  rw [e]
  by_cases h : a.block = C
  · rw [if_pos h]
    cases w.heap[C]? with
    | none => rfl
    | some x => cases x <;> simp only [Option.map_some]; split <;> simp
  · rw [if_neg h]
theorem shape_setCells (B C : Nat) : ∀ (vs : List Value) (o : Nat) (w : World), (w.setCells B o vs).shape? C = w.shape? C
  | [], _, _ => rfl
  | v :: vs, o, w => by
    simp only [World.setCells]
    rw [shape_setCells B C vs (o + 1), shape_setCell]
theorem shape_alloc (w : World) (c : Array Value) (t : Nat) : (w.alloc (.cells c t)).shape? w.heap.size = some (t, c.size) := by
  unfold World.shape? World.alloc
  simp only [Array.getElem?_push_size]
/-- The cells of a live row, read from a place on. -/
theorem ldN_spec {ρ : Rho} {σ : St} {w : World} (h : HR ρ σ w) {b o n B d z : Nat} {l : List AV} (hb : ρ b = some (B, d, z)) (hl : ldN σ b o n = some l) :
    l.length = n ∧ ∃ vs, VRL ρ l vs ∧ w.rangeAt B (d + o) vs := by
  unfold ldN at hl
  split at hl
  · rename_i cells e ro hg
    obtain ⟨a1, a2, _⟩ := h.row b B d z cells e ro hb hg
    simp only [] at hl
    split at hl
    · rename_i hlen
      simp at hl; subst hl
      have hn : ((cells.drop o).take n).length = n := by simpa using hlen
      refine ⟨hn, ?_⟩
      have key : ∀ m : List AV, ∀ s, (∀ (j : Nat) (v : AV), m[j]? = some v → ∃ v', w.cell? ⟨B, s + j, none⟩ = some v' ∧ VR ρ v v') → ∃ vs, VRL ρ m vs ∧ w.rangeAt B s vs := by
        intro m
        induction m with
        | nil => exact fun s _ => ⟨[], .nil, fun j v hv => by simp at hv⟩
        | cons x m ih =>
          intro s hm
          obtain ⟨v0, h0, r0⟩ := hm 0 x rfl
          obtain ⟨vs, hvs, hr⟩ := ih (s + 1) (fun j v hv => by
            obtain ⟨v', h1, h2⟩ := hm (j + 1) v (by simpa using hv)
            exact ⟨v', by rw [← h1]; congr 2; omega, h2⟩)
          refine ⟨v0 :: vs, .cons r0 hvs, fun j v hv => ?_⟩
          cases j with
          | zero => simp at hv; subst hv; exact h0
          | succ j =>
            have := hr j v (by simpa using hv)
            rw [← this]; congr 2; omega
      refine key _ (d + o) (fun j v hv => ?_)
      have hj : j < n := by
        have := (List.getElem?_eq_some_iff.1 hv).1
        rw [hn] at this; exact this
      rw [List.getElem?_take, if_pos hj, List.getElem?_drop] at hv
      obtain ⟨v', h1, h2⟩ := a1 (o + j) v hv
      exact ⟨v', by rw [← h1]; congr 2; omega, h2⟩
    · cases hl
  · cases hl
theorem ld1_spec {ρ : Rho} {σ : St} {w : World} (h : HR ρ σ w) {b o B d z : Nat} {v : AV} (hb : ρ b = some (B, d, z)) (hl : ld1 σ b o = some v) :
    ∃ v', VR ρ v v' ∧ w.cell? ⟨B, d + o, none⟩ = some v' := by
  unfold ld1 at hl
  split at hl
  · rename_i cells e ro hg
    obtain ⟨v', h1, h2⟩ := (h.row b B d z cells e ro hb hg).1 o v hl
    exact ⟨v', h2, h1⟩
  · cases hl

def Blk.live : Blk → Bool
  | .dead => false
  | _ => true
def Blk.writ : Blk → Bool
  | .row _ _ false => true
  | .iter .. => true
  | _ => false
theorem live_eq (σ : St) (b : Nat) : live σ b = (σ.get b).live := by unfold live Blk.live; cases σ.get b <;> rfl
theorem writable_eq (σ : St) (b : Nat) : writable σ b = (σ.get b).writ := by
  unfold writable Blk.writ
  cases σ.get b with
  | row c e r => cases r <;> rfl
  | _ => rfl
theorem live_upd (σ : St) (b : Nat) (x : Blk) (c : Nat) (hb : b < σ.next) : live (σ.upd b x) c = if c = b then x.live else live σ c := by
  rw [live_eq, live_eq, St.get_upd _ _ _ _ hb]; split <;> rfl
theorem writable_upd (σ : St) (b : Nat) (x : Blk) (c : Nat) (hb : b < σ.next) : writable (σ.upd b x) c = if c = b then x.writ else writable σ c := by
  rw [writable_eq, writable_eq, St.get_upd _ _ _ _ hb]; split <;> rfl

/-- A store into a live row. -/
theorem Post.store {ρ : Rho} {σ σ' : St} {w : World} (h : HR ρ σ w) {b o B d z : Nat} {vs : List AV} {vs' : List Value} (hb : ρ b = some (B, d, z)) (hs : stN σ b o vs = some σ') (hv : VRL ρ vs vs') :
    Post ρ σ w ρ σ' (w.setCells B (d + o) vs') ∧ w.there B (d + o) vs'.length ∧ (∀ v ∈ vs', v.oneCell' = true) := by
  unfold stN at hs
  split at hs
  · rename_i cells e hg
    split at hs
    · rename_i l hl
      split at hs
      · rename_i h1
        simp at hs; subst hs
        obtain ⟨p1, p2, p3⟩ := putL_spec _ _ _ _ hl
        obtain ⟨a1, a2, a3⟩ := h.row b B d z cells e false hb hg
        have hlv : live σ b = true := by unfold live; rw [hg]
        have hwr : writable σ b = true := by unfold writable; rw [hg]
        have hbn : b < σ.next := St.get_lt hlv
        have hlen := hv.length
        have ht : w.there B (d + o) vs'.length := fun j hj => by
          have hz : o + j < z := by
            have : vs ≠ [] := by intro e; subst e; simp at hlen; omega
            have := p2 this
            omega
          have := (a3 rfl).there (o + j) hz
          rw [show d + o + j = d + (o + j) by omega]; exact this
        obtain ⟨s1, s2, s3, s4, s5⟩ := setCells_heap B vs' (d + o) w
        have hin : ∀ j (hj : j < vs'.length), (w.setCells B (d + o) vs').cell? ⟨B, d + o + j, none⟩ = some vs'[j] := World.cell?_setCells_in B vs' (d + o) w (fun j hj => (ht j hj).1)
        have hout : ∀ i, (i < d + o ∨ d + o + vs'.length ≤ i) → (w.setCells B (d + o) vs').cell? ⟨B, i, none⟩ = w.cell? ⟨B, i, none⟩ := fun i hi =>
          World.cell?_setCells_out B vs' (d + o) w ⟨B, i, none⟩ (fun _ _ => hi)
        have hlive : ∀ c, live (σ.upd b (.row l e false)) c = live σ c := fun c => by
          rw [live_upd _ _ _ _ hbn]; by_cases hc : c = b
          · rw [if_pos hc, hc, hlv]; rfl
          · rw [if_neg hc]
        have hwrit : ∀ c, writable (σ.upd b (.row l e false)) c = writable σ c := fun c => by
          rw [writable_upd _ _ _ _ hbn]; by_cases hc : c = b
          · rw [if_pos hc, hc, hwr]; rfl
          · rw [if_neg hc]
        have hother : ∀ c C d' z', ρ c = some (C, d', z') → live σ c = true → c ≠ b → (w.setCells B (d + o) vs').heap[C]? = w.heap[C]? := fun c C d' z' hc hlc hne =>
          s5 C (fun e => hne (by subst e; exact h.inj c b C d' z' d z hc hb hlc hlv))
        refine ⟨⟨fun _ _ => rfl, Nat.le_refl _, ⟨h.dom, ?_, ?_, ?_, ?_⟩, ⟨by omega, s2, s3, s4, fun C hC hn => ?_⟩, fun c C d' z' hc hw' _ => ⟨c, d', z', hc, (hwrit c).symm.trans hw'⟩, fun c _ hc => St.log_upd _ _ _ hbn c hc, (St.mem_upd ..).2⟩, ht, oneCells_rel hv h1⟩
        · intro c C d' z' cells' e' ro' hc hg'
          rw [St.get_upd _ _ _ _ hbn] at hg'
          split at hg'
          · rename_i heq
            subst heq
            rw [hb] at hc
            simp at hc hg'
            obtain ⟨rfl, rfl, rfl⟩ := hc
            obtain ⟨rfl, rfl, rfl⟩ := hg'
            refine ⟨fun j v hjv => ?_, by omega, fun _ => ⟨(a3 rfl).d0, World.there_setCells (a3 rfl).there _ _ _, (a3 rfl).shape.imp fun zz hz => (shape_setCells ..).trans hz⟩⟩
            rw [p3 j] at hjv
            split at hjv
            · rename_i hj
              obtain ⟨v', c1, c2⟩ := hv.get _ _ hjv
              refine ⟨v', ?_, c2⟩
              have hjl : j - o < vs'.length := (List.getElem?_eq_some_iff.1 c1).1
              have := hin (j - o) hjl
              rw [show d + o + (j - o) = d + j by omega] at this
              rw [this, ← c1, List.getElem?_eq_getElem hjl]
            · rename_i hj
              obtain ⟨v', c1, c2⟩ := a1 j v hjv
              exact ⟨v', (hout (d + j) (by omega)).trans c1, c2⟩
          · rename_i hne
            obtain ⟨b1, b2, b3⟩ := h.row c C d' z' cells' e' ro' hc hg'
            have he := hother c C d' z' hc (by unfold live; rw [hg']) hne
            refine ⟨fun j v hjv => ?_, b2, fun hr => has_congr he (b3 hr)⟩
            obtain ⟨v', c1, c2⟩ := b1 j v hjv
            exact ⟨v', (cell_congr he _).trans c1, c2⟩
        · intro c C d' z' s pos hc hg'
          rw [St.get_upd _ _ _ _ hbn] at hg'
          split at hg'
          · cases hg'
          · rename_i hne
            obtain ⟨b1, s', b2, b3⟩ := h.iter c C d' z' s pos hc hg'
            exact ⟨b1, s', b2, (hother c C d' z' hc (by unfold live; rw [hg']) hne).trans b3⟩
        · intro c C d' z' hc hl'
          rw [hlive] at hl'
          rw [s1]
          exact h.lt c C d' z' hc hl'
        · intro c1 c2 C d1 z1 d2 z2 h1 h2 l1 l2
          rw [hlive] at l1 l2
          exact h.inj _ _ _ _ _ _ _ h1 h2 l1 l2
        · refine s5 C (fun e => ?_)
          subst e
          rw [hn b d z hb] at hwr
          cases hwr
      · cases hs
    · cases hs
  · cases hs
end Go.Ev
end
section
namespace Go.Ev

theorem live_new (σ : St) (x : Blk) (c : Nat) : live (σ.new x) c = if c = σ.next then x.live else live σ c := by
  rw [live_eq, live_eq, St.get_new]; split <;> rfl
theorem writable_new (σ : St) (x : Blk) (c : Nat) : writable (σ.new x) c = if c = σ.next then x.writ else writable σ c := by
  rw [writable_eq, writable_eq, St.get_new]; split <;> rfl
theorem HR.fresh {ρ : Rho} {σ : St} {w : World} (h : HR ρ σ w) : ρ σ.next = none := by
  cases hr : ρ σ.next with
  | none => rfl
  | some y => exact absurd (h.dom _ _ hr) (Nat.lt_irrefl _)
theorem sub_upR {ρ : Rho} {b : Nat} (hn : ρ b = none) (y : Nat × Nat × Nat) : ∀ c x, ρ c = some x → upR ρ b y c = some x := fun c x hc => by
  unfold upR; rw [if_neg (fun e => by rw [e, hn] at hc; cases hc)]; exact hc

/-- A block is let go. -/
theorem Post.kill {ρ : Rho} {σ : St} {w : World} (h : HR ρ σ w) {b : Nat} (hb : b < σ.next) : Post ρ σ w ρ (σ.upd b .dead) w := by
  have hl : ∀ c, live (σ.upd b .dead) c = true → live σ c = true ∧ c ≠ b := fun c hc => by
    rw [live_upd _ _ _ _ hb] at hc
    split at hc
    · cases hc
    · rename_i hne; exact ⟨hc, hne⟩
  refine ⟨fun _ _ => rfl, Nat.le_refl _, ⟨h.dom, ?_, ?_, fun c C d z hc hlc => h.lt c C d z hc (hl c hlc).1, fun c1 c2 C d1 z1 d2 z2 h1 h2 l1 l2 => h.inj _ _ _ _ _ _ _ h1 h2 (hl _ l1).1 (hl _ l2).1⟩, .refl .., ?_, fun c _ hc => St.log_upd _ _ _ hb c hc, (St.mem_upd ..).2⟩
  · intro c C d z cells e ro hc hg
    rw [St.get_upd _ _ _ _ hb] at hg
    split at hg
    · cases hg
    · exact h.row c C d z cells e ro hc hg
  · intro c C d z s pos hc hg
    rw [St.get_upd _ _ _ _ hb] at hg
    split at hg
    · cases hg
    · exact h.iter c C d z s pos hc hg
  · intro c C d z hc hw _
    rw [writable_upd _ _ _ _ hb] at hw
    split at hw
    · cases hw
    · exact ⟨c, d, z, hc, hw⟩

/-- An append that finds room: the row goes on under a new name; the old name is dead. -/
theorem Post.grow {ρ : Rho} {σ : St} {w : World} (h : HR ρ σ w) {b o k B d z e : Nat} {cells new : List AV} {new' : List Value} (hb : ρ b = some (B, d, z)) (hg : σ.get b = .row cells e false)
    (hk : ((cells.drop o).take k).length = k) (hv : VRL ρ new new') (hz : o + k + new'.length ≤ z) (ho0 : o = 0) :
    Post ρ σ w (upR ρ σ.next (B, d + o, z - o)) ((σ.upd b .dead).new (.row ((cells.drop o).take k ++ new) e false)) (w.setCells B (d + o + k) new') ∧ w.there B (d + o + k) new'.length := by
  obtain ⟨a1, a2, a3⟩ := h.row b B d z cells e false hb hg
  have hlv : live σ b = true := by rw [live_eq, hg]; rfl
  have hwr : writable σ b = true := by rw [writable_eq, hg]; rfl
  have hbn : b < σ.next := St.get_lt hlv
  have hfresh := h.fresh
  have hsub := sub_upR hfresh (B, d + o, z - o)
  have hlen := hv.length
  have ht : w.there B (d + o + k) new'.length := fun j hj => by
    have := (a3 rfl).there (o + k + j) (by omega)
    rw [show d + o + k + j = d + (o + k + j) by omega]; exact this
  obtain ⟨s1, s2, s3, s4, s5⟩ := setCells_heap B new' (d + o + k) w
  have hin : ∀ j (hj : j < new'.length), (w.setCells B (d + o + k) new').cell? ⟨B, d + o + k + j, none⟩ = some new'[j] := World.cell?_setCells_in B new' (d + o + k) w (fun j hj => (ht j hj).1)
  have hout : ∀ i, (i < d + o + k ∨ d + o + k + new'.length ≤ i) → (w.setCells B (d + o + k) new').cell? ⟨B, i, none⟩ = w.cell? ⟨B, i, none⟩ := fun i hi =>
    World.cell?_setCells_out B new' (d + o + k) w ⟨B, i, none⟩ (fun _ _ => hi)
  have hnx : (σ.upd b .dead).next = σ.next := rfl
  have hget : ∀ c, ((σ.upd b .dead).new (.row ((cells.drop o).take k ++ new) e false)).get c = if c = σ.next then .row ((cells.drop o).take k ++ new) e false else if c = b then .dead else σ.get c := fun c => by
    rw [St.get_new, hnx, St.get_upd _ _ _ _ hbn]
  have hother : ∀ c C d' z', ρ c = some (C, d', z') → live σ c = true → c ≠ b → (w.setCells B (d + o + k) new').heap[C]? = w.heap[C]? := fun c C d' z' hc hlc hne =>
    s5 C (fun e => hne (by subst e; exact h.inj c b C d' z' d z hc hb hlc hlv))
  have hlive : ∀ c, live ((σ.upd b .dead).new (.row ((cells.drop o).take k ++ new) e false)) c = true → c ≠ σ.next → live σ c = true ∧ c ≠ b := fun c hc hne => by
    rw [live_eq, hget, if_neg hne] at hc
    split at hc
    · cases hc
    · rename_i h2; exact ⟨by rw [live_eq]; exact hc, h2⟩
  refine ⟨⟨fun c hc => by unfold upR; rw [if_neg (by omega)], by show σ.next ≤ σ.next + 1; omega, ⟨?_, ?_, ?_, ?_, ?_⟩, ⟨by omega, s2, s3, s4, fun C hC hn => ?_⟩, ?_, fun c hc hn => by rw [St.get_new, hnx, if_neg (by omega)]; exact St.log_upd _ _ _ hbn c hn, (St.mem_upd σ b .dead).2⟩, ht⟩
  · intro c x hc
    show c < σ.next + 1
    unfold upR at hc
    split at hc
    · omega
    · have := h.dom c x hc; omega
  · intro c C d' z' cells' e1 ro' hc hg'
    rw [hget] at hg'
    unfold upR at hc
    split at hc
    · rename_i hcn
      rw [if_pos hcn] at hg'
      simp at hc hg'
      obtain ⟨rfl, rfl, rfl⟩ := hc
      obtain ⟨rfl, rfl, rfl⟩ := hg'
      refine ⟨fun j v hjv => ?_, by rw [List.length_append, hk]; omega, fun _ => ?_⟩
      · by_cases hj : j < k
        · rw [List.getElem?_append_left (by omega), List.getElem?_take, if_pos hj, List.getElem?_drop] at hjv
          obtain ⟨v', c1, c2⟩ := a1 (o + j) v hjv
          refine ⟨v', ?_, c2.mono hsub⟩
          rw [hout _ (by omega), ← c1]
          congr 2; omega
        · rw [List.getElem?_append_right (by omega), hk] at hjv
          obtain ⟨v', c1, c2⟩ := hv.get _ _ hjv
          have hjl : j - k < new'.length := (List.getElem?_eq_some_iff.1 c1).1
          refine ⟨v', ?_, c2.mono hsub⟩
          have := hin (j - k) hjl
          rw [show d + o + k + (j - k) = d + o + j by omega] at this
          rw [this, ← c1, List.getElem?_eq_getElem hjl]
      · refine ⟨by rw [(a3 rfl).d0, ho0], World.there_setCells (fun j hj => ?_) _ _ _, (a3 rfl).shape.imp fun zz hz => (shape_setCells ..).trans hz⟩
        rw [show d + o + j = d + (o + j) by omega]
        exact (a3 rfl).there (o + j) (by omega)
    · rename_i hcn
      rw [if_neg hcn] at hg'
      split at hg'
      · cases hg'
      · rename_i hne
        obtain ⟨b1, b2, b3⟩ := h.row c C d' z' cells' e1 ro' hc hg'
        have he := hother c C d' z' hc (by rw [live_eq, hg']; rfl) hne
        refine ⟨fun j v hjv => ?_, b2, fun hr => has_congr he (b3 hr)⟩
        obtain ⟨v', c1, c2⟩ := b1 j v hjv
        exact ⟨v', (cell_congr he _).trans c1, c2.mono hsub⟩
  · intro c C d' z' s pos hc hg'
    rw [hget] at hg'
    unfold upR at hc
    split at hc
    · rename_i hcn
      rw [if_pos hcn] at hg'
      cases hg'
    · rename_i hcn
      rw [if_neg hcn] at hg'
      split at hg'
      · cases hg'
      · rename_i hne
        obtain ⟨b1, s', b2, b3⟩ := h.iter c C d' z' s pos hc hg'
        exact ⟨b1, s', b2, (hother c C d' z' hc (by rw [live_eq, hg']; rfl) hne).trans b3⟩
  · intro c C d' z' hc hl'
    rw [s1]
    unfold upR at hc
    split at hc
    · simp at hc
      have := h.lt b B d z hb hlv
      omega
    · rename_i hcn
      exact h.lt c C d' z' hc (hlive c hl' hcn).1
  · intro c1 c2 C d1 z1 d2 z2 h1 h2 l1 l2
    unfold upR at h1 h2
    split at h1 <;> split at h2
    · omega
    · rename_i e1 e2
      simp at h1
      obtain ⟨q1, q2⟩ := hlive c2 l2 e2
      exact absurd (h.inj c2 b C d2 z2 d z h2 (by rw [hb, h1.1]) q1 hlv) q2
    · rename_i e1 e2
      simp at h2
      obtain ⟨q1, q2⟩ := hlive c1 l1 e1
      exact absurd (h.inj c1 b C d1 z1 d z h1 (by rw [hb, h2.1]) q1 hlv) q2
    · rename_i e1 e2
      exact h.inj _ _ _ _ _ _ _ h1 h2 (hlive _ l1 e1).1 (hlive _ l2 e2).1
  · refine s5 C (fun e => ?_)
    subst e
    rw [hn b d z hb] at hwr
    cases hwr
  · intro c C d' z' hc hw' hC
    unfold upR at hc
    split at hc
    · simp at hc
      exact ⟨b, d, z, by rw [hb, hc.1], hwr⟩
    · rename_i hcn
      refine ⟨c, d', z', hc, ?_⟩
      rw [writable_eq, hget, if_neg hcn] at hw'
      split at hw'
      · cases hw'
      · rw [writable_eq]; exact hw'

/-- The evaluator's iterator goes on. -/
theorem Post.iter {ρ : Rho} {σ : St} {w : World} (h : HR ρ σ w) {b B d z pos : Nat} {s : List UInt8} (hb : ρ b = some (B, d, z)) (hg : σ.get b = .iter s pos) (s' : ByteArray) (hs : s'.data.toList = s) (pos' : Nat) :
    Post ρ σ w ρ (σ.upd b (.iter s pos')) { w with heap := w.heap.setIfInBounds B (.stringIter s' pos') } := by
  have hlv : live σ b = true := by rw [live_eq, hg]; rfl
  have hwr : writable σ b = true := by rw [writable_eq, hg]; rfl
  have hbn : b < σ.next := St.get_lt hlv
  have hB := h.lt b B d z hb hlv
  have s5 : ∀ C, C ≠ B → ({ w with heap := w.heap.setIfInBounds B (.stringIter s' pos') } : World).heap[C]? = w.heap[C]? := fun C hC => by
    show (w.heap.setIfInBounds B (.stringIter s' pos'))[C]? = _
    rw [Array.getElem?_setIfInBounds_ne (fun e => hC e.symm)]
  have hlive : ∀ c, live (σ.upd b (.iter s pos')) c = live σ c := fun c => by
    rw [live_upd _ _ _ _ hbn]; by_cases hc : c = b
    · rw [if_pos hc, hc, hlv]; rfl
    · rw [if_neg hc]
  have hwrit : ∀ c, writable (σ.upd b (.iter s pos')) c = writable σ c := fun c => by
    rw [writable_upd _ _ _ _ hbn]; by_cases hc : c = b
    · rw [if_pos hc, hc, hwr]; rfl
    · rw [if_neg hc]
  have hother : ∀ c C d' z', ρ c = some (C, d', z') → live σ c = true → c ≠ b → ({ w with heap := w.heap.setIfInBounds B (.stringIter s' pos') } : World).heap[C]? = w.heap[C]? := fun c C d' z' hc hlc hne =>
    s5 C (fun e => hne (by subst e; exact h.inj c b C d' z' d z hc hb hlc hlv))
  refine ⟨fun _ _ => rfl, Nat.le_refl _, ⟨h.dom, ?_, ?_, ?_, ?_⟩, ⟨by simp, rfl, rfl, rfl, fun C hC hn => s5 C (fun e => by subst e; rw [hn b d z hb] at hwr; cases hwr)⟩, fun c C d' z' hc hw' _ => ⟨c, d', z', hc, (hwrit c).symm.trans hw'⟩, fun c _ hc => St.log_upd _ _ _ hbn c hc, (St.mem_upd ..).2⟩
  · intro c C d' z' cells' e' ro' hc hg'
    rw [St.get_upd _ _ _ _ hbn] at hg'
    split at hg'
    · cases hg'
    · rename_i hne
      obtain ⟨b1, b2, b3⟩ := h.row c C d' z' cells' e' ro' hc hg'
      have he := hother c C d' z' hc (by rw [live_eq, hg']; rfl) hne
      refine ⟨fun j v hjv => ?_, b2, fun hr => has_congr he (b3 hr)⟩
      obtain ⟨v', c1, c2⟩ := b1 j v hjv
      exact ⟨v', (cell_congr he _).trans c1, c2⟩
  · intro c C d' z' s1 pos1 hc hg'
    rw [St.get_upd _ _ _ _ hbn] at hg'
    split at hg'
    · rename_i heq
      subst heq
      simp at hg'
      obtain ⟨rfl, rfl⟩ := hg'
      rw [hb] at hc
      simp at hc
      obtain ⟨rfl, rfl, rfl⟩ := hc
      exact ⟨(h.iter c B d z s pos hb hg).1, s', hs, by show (w.heap.setIfInBounds B _)[B]? = _; rw [Array.getElem?_setIfInBounds_self_of_lt hB]⟩
    · rename_i hne
      obtain ⟨b1, s1', b2, b3⟩ := h.iter c C d' z' s1 pos1 hc hg'
      exact ⟨b1, s1', b2, (hother c C d' z' hc (by rw [live_eq, hg']; rfl) hne).trans b3⟩
  · intro c C d' z' hc hl'
    rw [hlive] at hl'
    show C < (w.heap.setIfInBounds B _).size
    rw [Array.size_setIfInBounds]
    exact h.lt c C d' z' hc hl'
  · intro c1 c2 C d1 z1 d2 z2 h1 h2 l1 l2
    rw [hlive] at l1 l2
    exact h.inj _ _ _ _ _ _ _ h1 h2 l1 l2

theorem freeze_cell (w : World) (a : Addr) (n : Nat) (x : Addr) : (w.freeze a n).cell? x = w.cell? x := by
  unfold World.freeze
  split
  · rfl
  · unfold World.cell?
    show (match (w.heap.modify a.block _)[x.block]? with | some (.cells c _ _) => if x.spot.isSome then none else c[x.off]? | _ => none) = _
    rw [Array.getElem?_modify]
    by_cases hx : a.block = x.block
    · rw [if_pos hx]
      cases w.heap[x.block]? with
      | none => rfl
      | some y => cases y <;> rfl
    · rw [if_neg hx]; rfl
/-- What is marked as shared is written no more. -/
theorem Post.freeze {ρ : Rho} {σ : St} {w : World} (h : HR ρ σ w) {b B d z e : Nat} {cells : List AV} {ro : Bool} (hb : ρ b = some (B, d, z)) (hg : σ.get b = .row cells e ro) (a : Addr) (n : Nat) (ha : a.block = B) (hro : ro = false) :
    Post ρ σ w ρ (σ.upd b (.row cells e true)) (w.freeze a n) := by
  have hlv : live σ b = true := by rw [live_eq, hg]; rfl
  have hwr : writable σ b = true := by rw [writable_eq, hg, hro]; rfl
  have hbn : b < σ.next := St.get_lt hlv
  have hsz : (w.freeze a n).heap.size = w.heap.size := by unfold World.freeze; split <;> simp
  have hos : (w.freeze a n).os = w.os ∧ (w.freeze a n).tape = w.tape ∧ (w.freeze a n).output = w.output := by unfold World.freeze; split <;> exact ⟨rfl, rfl, rfl⟩
  have s5 : ∀ C, C ≠ B → (w.freeze a n).heap[C]? = w.heap[C]? := fun C hC => by
    unfold World.freeze
    split
    · rfl
    · rw [ha]; show (w.heap.modify B _)[C]? = _
      rw [Array.getElem?_modify, if_neg (fun e => hC e.symm)]
  have hcell : ∀ x, (w.freeze a n).cell? x = w.cell? x := freeze_cell w a n
  have hlive : ∀ c, live (σ.upd b (.row cells e true)) c = live σ c := fun c => by
    rw [live_upd _ _ _ _ hbn]; by_cases hc : c = b
    · rw [if_pos hc, hc, hlv]; rfl
    · rw [if_neg hc]
  have hother : ∀ c C d' z', ρ c = some (C, d', z') → live σ c = true → c ≠ b → (w.freeze a n).heap[C]? = w.heap[C]? := fun c C d' z' hc hlc hne =>
    s5 C (fun e => hne (by subst e; exact h.inj c b C d' z' d z hc hb hlc hlv))
  refine ⟨fun _ _ => rfl, Nat.le_refl _, ⟨h.dom, ?_, ?_, ?_, ?_⟩, ⟨by omega, hos.1, hos.2.1, hos.2.2, fun C hC hn => s5 C (fun e => by subst e; rw [hn b d z hb] at hwr; cases hwr)⟩, fun c C d' z' hc hw' _ => ⟨c, d', z', hc, ?_⟩, fun c _ hc => St.log_upd _ _ _ hbn c hc, (St.mem_upd ..).2⟩
  · intro c C d' z' cells' e' ro' hc hg'
    rw [St.get_upd _ _ _ _ hbn] at hg'
    split at hg'
    · rename_i heq
      subst heq
      simp at hg'
      obtain ⟨rfl, rfl, rfl⟩ := hg'
      rw [hb] at hc
      simp at hc
      obtain ⟨rfl, rfl, rfl⟩ := hc
      obtain ⟨b1, b2, b3⟩ := h.row c B d z cells e ro hb hg
      exact ⟨fun j v hjv => by rw [hcell]; exact b1 j v hjv, b2, fun hf => by cases hf⟩
    · rename_i hne
      obtain ⟨b1, b2, b3⟩ := h.row c C d' z' cells' e' ro' hc hg'
      have he := hother c C d' z' hc (by rw [live_eq, hg']; rfl) hne
      exact ⟨fun j v hjv => by rw [hcell]; exact b1 j v hjv, b2, fun hr => has_congr he (b3 hr)⟩
  · intro c C d' z' s1 pos1 hc hg'
    rw [St.get_upd _ _ _ _ hbn] at hg'
    split at hg'
    · cases hg'
    · rename_i hne
      obtain ⟨b1, s1', b2, b3⟩ := h.iter c C d' z' s1 pos1 hc hg'
      exact ⟨b1, s1', b2, (hother c C d' z' hc (by rw [live_eq, hg']; rfl) hne).trans b3⟩
  · intro c C d' z' hc hl'
    rw [hlive] at hl'
    rw [hsz]
    exact h.lt c C d' z' hc hl'
  · intro c1 c2 C d1 z1 d2 z2 h1 h2 l1 l2
    rw [hlive] at l1 l2
    exact h.inj _ _ _ _ _ _ _ h1 h2 l1 l2
  · rw [writable_upd _ _ _ _ hbn] at hw'
    split at hw'
    · cases hw'
    · exact hw'
end Go.Ev
end
