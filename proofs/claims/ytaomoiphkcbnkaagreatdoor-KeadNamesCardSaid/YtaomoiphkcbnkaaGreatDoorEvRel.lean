/- The law of this seat holds of every input: a part of the proof (an evaluator that is proved to answer as the model does, and its runs by the kernel). -/
import Derived.Test.YtaomoiphkcbnkaaGreatDoorEvT
import Derived.Deep.MidRow
import Derived.Deep.Draws
import Derived.Calls
set_option linter.unusedVariables false
set_option linter.unusedSimpArgs false
namespace Go.Ev

/-- what is told of a number: its low m bits are r; or (m = 1000 + d) the low eight bits' remainder by d is r; or (m = 2000 + d) it is below 256 and its remainder by d is r; or (m = 3000) it is below r, (m > 3000) not below r -/
def lowP (m r : Nat) (n : Int) : Prop :=
  if m < 1000 then n % (2 ^ m : Int) = r else if m < 2000 then (n % 256) % ((m - 1000 : Nat) : Int) = r else if m < 3000 then (0 ≤ n ∧ n < 256) ∧ n % ((m - 2000 : Nat) : Int) = r else if m = 3000 then n < r else (r : Int) ≤ n
abbrev Rho := Nat → Option (Nat × Nat × Nat)

mutual
/-- An evaluator's value stands for a value of the model. -/
inductive VR (ρ : Rho) : AV → Value → Prop
  | int (k : IntKind) (n : Int) : VR ρ (.int k n) (.int k n)
  | low {k : IntKind} {m r : Nat} {n : Int} (h : lowP m r n) (hm : m < 1000 → m ≤ k.bits) : VR ρ (.low k m r) (.int k n)
  | bool (b : Bool) : VR ρ (.bool b) (.bool b)
  | str (s : ByteArray) : VR ρ (.str s.data.toList) (.string s)
  | nilp : VR ρ .nilp (.pointer none)
  | ptr {b o B d z : Nat} (h : ρ b = some (B, d, z)) : VR ρ (.ptr b o) (.pointer (some ⟨B, d + o, none⟩))
  | nils : VR ρ .nils (.slice none 0 0)
  | sl {b o n : Nat} {c : Option Nat} {e B d z c' : Nat} (h : ρ b = some (B, d, z)) (hc : ∀ x, c = some x → c' = x) (hn : n ≤ c') (hz : o + c' * e ≤ z) :
      VR ρ (.sl b o n c e) (.slice (some ⟨B, d + o, none⟩) n c')
  | esl {a : Addr} {c' : Nat} : VR ρ .esl (.slice (some a) 0 c')
  | agg {cs : List AV} {vs : List Value} (h : VRL ρ cs vs) : VR ρ (.agg cs) (.agg vs.toArray)
  | tup {cs : List AV} {vs : List Value} (h : VRL ρ cs vs) : VR ρ (.tup cs) (.tuple vs.toArray)
  | fn {f : Nat} {cs : List AV} {vs : List Value} (h : VRL ρ cs vs) : VR ρ (.fn f cs) (.func (.func f) #[] vs.toArray)
  | nilf : VR ρ .nilf .nilFunc
  | nili : VR ρ .nili .nilIface
  | ifc {t : Nat} {v : AV} {v' : Value} (h : VR ρ v v') : VR ρ (.ifc t v) (.iface t v')
  | unk (v : Value) : VR ρ .unk v
inductive VRL (ρ : Rho) : List AV → List Value → Prop
  | nil : VRL ρ [] []
  | cons {v : AV} {v' : Value} {l : List AV} {l' : List Value} (h : VR ρ v v') (hl : VRL ρ l l') : VRL ρ (v :: l) (v' :: l')
end

mutual
theorem VR.mono {ρ ρ' : Rho} (hs : ∀ b x, ρ b = some x → ρ' b = some x) : ∀ {v : AV} {v' : Value}, VR ρ v v' → VR ρ' v v'
  | _, _, .int k n => .int k n
  | _, _, .low h hm => .low h hm
  | _, _, .bool b => .bool b
  | _, _, .str s => .str s
  | _, _, .nilp => .nilp
  | _, _, .ptr h => .ptr (hs _ _ h)
  | _, _, .nils => .nils
  | _, _, .sl h hc hn hz => .sl (hs _ _ h) hc hn hz
  | _, _, .esl => .esl
  | _, _, .agg h => .agg (VRL.mono hs h)
  | _, _, .tup h => .tup (VRL.mono hs h)
  | _, _, .fn h => .fn (VRL.mono hs h)
  | _, _, .nilf => .nilf
  | _, _, .nili => .nili
  | _, _, .ifc h => .ifc (VR.mono hs h)
  | _, _, .unk v => .unk v
theorem VRL.mono {ρ ρ' : Rho} (hs : ∀ b x, ρ b = some x → ρ' b = some x) : ∀ {v : List AV} {v' : List Value}, VRL ρ v v' → VRL ρ' v v'
  | _, _, .nil => .nil
  | _, _, .cons h hl => .cons (VR.mono hs h) (VRL.mono hs hl)
end

theorem VRL.length {ρ : Rho} : ∀ {l : List AV} {l' : List Value}, VRL ρ l l' → l.length = l'.length
  | _, _, .nil => rfl
  | _, _, .cons _ hl => by simp [VRL.length hl]
theorem VRL.get {ρ : Rho} : ∀ {l : List AV} {l' : List Value}, VRL ρ l l' → ∀ (j : Nat) (v : AV), l[j]? = some v → ∃ v', l'[j]? = some v' ∧ VR ρ v v'
  | _, _, .cons h hl, 0, v, hv => by
    simp at hv; subst hv; exact ⟨_, rfl, h⟩
  | _, _, .cons h hl, j + 1, v, hv => by
    simp at hv
    obtain ⟨v', h1, h2⟩ := VRL.get hl j v hv
    exact ⟨v', by simpa using h1, h2⟩
theorem VRL.of_get {ρ : Rho} : ∀ {l : List AV} {l' : List Value}, l.length = l'.length → (∀ (j : Nat) (v : AV), l[j]? = some v → ∃ v', l'[j]? = some v' ∧ VR ρ v v') → VRL ρ l l'
  | [], [], _, _ => .nil
  | v :: l, v' :: l', hlen, h => by
    obtain ⟨u, hu, hr⟩ := h 0 v rfl
    simp at hu; subst hu
    exact .cons hr (VRL.of_get (by simpa using hlen) fun j x hx => by simpa using h (j + 1) x (by simpa using hx))
  | [], _ :: _, h, _ => by simp at h
  | _ :: _, [], h, _ => by simp at h
theorem VRL.append {ρ : Rho} : ∀ {l : List AV} {l' : List Value} {m : List AV} {m' : List Value}, VRL ρ l l' → VRL ρ m m' → VRL ρ (l ++ m) (l' ++ m')
  | _, _, _, _, .nil, h => h
  | _, _, _, _, .cons h hl, hm => .cons h (VRL.append hl hm)
theorem VRL.drop {ρ : Rho} : ∀ {l : List AV} {l' : List Value}, VRL ρ l l' → ∀ n, VRL ρ (l.drop n) (l'.drop n)
  | _, _, .nil, n => by simp; exact .nil
  | _, _, .cons h hl, 0 => .cons h hl
  | _, _, .cons h hl, n + 1 => by simpa using VRL.drop hl n
theorem VRL.take {ρ : Rho} : ∀ {l : List AV} {l' : List Value}, VRL ρ l l' → ∀ n, VRL ρ (l.take n) (l'.take n)
  | _, _, .nil, n => by simp; exact .nil
  | _, _, .cons h hl, 0 => .nil
  | _, _, .cons h hl, n + 1 => by simpa using .cons h (VRL.take hl n)

/-- the cells of related values -/
theorem VR.cells {ρ : Rho} {v : AV} {v' : Value} (h : VR ρ v v') (hu : v ≠ .unk) : VRL ρ v.cells v'.cells.toList := by
  cases h
  case unk => exact absurd rfl hu
  case agg h => simpa [AV.cells, Value.cells] using h
  all_goals (simp only [AV.cells, Value.cells]; exact .cons (by constructor <;> assumption) .nil)

def live (σ : St) (b : Nat) : Bool := match σ.get b with | .dead => false | _ => true
def writable (σ : St) (b : Nat) : Bool := match σ.get b with | .row _ _ false => true | .iter .. => true | _ => false
theorem live_of_writable {σ : St} {b : Nat} (h : writable σ b = true) : live σ b = true := by
  unfold writable at h; unfold live
  split at h <;> simp_all

/-- room that can be written, of a known type -/
structure World.has (w : World) (B d z e : Nat) : Prop where
  d0 : d = 0
  there : w.there B d z
  shape : ∃ zz, w.shape? B = some (e, zz)
/-- The evaluator's memory stands for a part of the model's. -/
structure HR (ρ : Rho) (σ : St) (w : World) : Prop where
  dom : ∀ b x, ρ b = some x → b < σ.next
  row : ∀ b B d z cells e ro, ρ b = some (B, d, z) → σ.get b = .row cells e ro →
    (∀ (j : Nat) (v : AV), cells[j]? = some v → ∃ v', w.cell? ⟨B, d + j, none⟩ = some v' ∧ VR ρ v v') ∧ cells.length ≤ z ∧ (ro = false → World.has w B d z e)
  iter : ∀ b B d z s pos, ρ b = some (B, d, z) → σ.get b = .iter s pos → d = 0 ∧ ∃ s' : ByteArray, s'.data.toList = s ∧ w.heap[B]? = some (.stringIter s' pos)
  lt : ∀ b B d z, ρ b = some (B, d, z) → live σ b = true → B < w.heap.size
  inj : ∀ b1 b2 B d1 z1 d2 z2, ρ b1 = some (B, d1, z1) → ρ b2 = some (B, d2, z2) → live σ b1 = true → live σ b2 = true → b1 = b2

theorem St.mem_upd (σ : St) (b : Nat) (x : Blk) : b ∈ (σ.upd b x).log ∧ ∀ c, c ∈ σ.log → c ∈ (σ.upd b x).log := by
  unfold St.upd
  cases σ.log with
  | nil => simp
  | cons c l =>
    by_cases h : c = b
    · subst h; simp
    · have : Nat.beq c b = false := by
        cases hb : Nat.beq c b with
        | false => rfl
        | true => exact absurd (Nat.eq_of_beq_eq_true hb) h
      simp only [this]
      exact ⟨List.mem_cons_self, fun d hd => List.mem_cons_of_mem _ hd⟩
/-- What is no block of the evaluator's stays as it is. -/
structure Keep (ρ : Rho) (σ : St) (w w' : World) : Prop where
  size : w.heap.size ≤ w'.heap.size
  os : w'.os = w.os
  tape : w'.tape = w.tape
  output : w'.output = w.output
  block : ∀ B, B < w.heap.size → (∀ b d z, ρ b = some (B, d, z) → writable σ b = false) → w'.heap[B]? = w.heap[B]?

structure Post (ρ : Rho) (σ : St) (w : World) (ρ' : Rho) (σ' : St) (w' : World) : Prop where
  ext : ∀ b, b < σ.next → ρ' b = ρ b
  next : σ.next ≤ σ'.next
  hr : HR ρ' σ' w'
  keep : Keep ρ σ w w'
  img : ∀ b B d z, ρ' b = some (B, d, z) → writable σ' b = true → B < w.heap.size → ∃ b0 d0 z0, ρ b0 = some (B, d0, z0) ∧ writable σ b0 = true
  log : ∀ b, b < σ.next → b ∉ σ'.log → σ'.get b = σ.get b
  logs : ∀ b, b ∈ σ.log → b ∈ σ'.log

theorem Keep.refl (ρ : Rho) (σ : St) (w : World) : Keep ρ σ w w := ⟨Nat.le_refl _, rfl, rfl, rfl, fun _ _ _ => rfl⟩
theorem Post.refl {ρ : Rho} {σ : St} {w : World} (h : HR ρ σ w) : Post ρ σ w ρ σ w :=
  ⟨fun _ _ => rfl, Nat.le_refl _, h, .refl .., fun b _ d z h1 h2 _ => ⟨b, d, z, h1, h2⟩, fun _ _ _ => rfl, fun _ h => h⟩
theorem Post.sub {ρ ρ' : Rho} {σ σ' : St} {w w' : World} (h0 : HR ρ σ w) (h : Post ρ σ w ρ' σ' w') : ∀ b x, ρ b = some x → ρ' b = some x :=
  fun b x hb => (h.ext b (h0.dom b x hb)).trans hb
theorem Post.trans {ρ ρ1 ρ2 : Rho} {σ σ1 σ2 : St} {w w1 w2 : World} (h : Post ρ σ w ρ1 σ1 w1) (k : Post ρ1 σ1 w1 ρ2 σ2 w2) : Post ρ σ w ρ2 σ2 w2 where
  ext b hb := (k.ext b (Nat.lt_of_lt_of_le hb h.next)).trans (h.ext b hb)
  next := Nat.le_trans h.next k.next
  hr := k.hr
  keep := {
    size := Nat.le_trans h.keep.size k.keep.size
    os := k.keep.os.trans h.keep.os
    tape := k.keep.tape.trans h.keep.tape
    output := k.keep.output.trans h.keep.output
    block := fun B hB hn => by
      rw [← h.keep.block B hB hn]
      refine k.keep.block B (Nat.lt_of_lt_of_le hB h.keep.size) fun b d z hb => ?_
      cases hw : writable σ1 b with
      | false => rfl
      | true =>
        obtain ⟨b0, d0, z0, h1, h2⟩ := h.img b B d z hb hw hB
        rw [hn b0 d0 z0 h1] at h2
        cases h2 }
  img b B d z hb hw hB := by
    obtain ⟨b1, d1, z1, h1, h2⟩ := k.img b B d z hb hw (Nat.lt_of_lt_of_le hB h.keep.size)
    exact h.img b1 B d1 z1 h1 h2 hB
  log b hb hn := (k.log b (Nat.lt_of_lt_of_le hb h.next) hn).trans (h.log b hb fun e => hn (k.logs b e))
  logs b hb := k.logs b (h.logs b hb)

theorem St.get_lt {σ : St} {b : Nat} (h : live σ b = true) : b < σ.next := by
  unfold live at h
  unfold St.get at h
  cases hb : Nat.blt b σ.next with
  | true => exact (by simpa using hb : b < σ.next)
  | false => simp [hb] at h
theorem blt_true {a b : Nat} (h : a < b) : Nat.blt a b = true := by simpa using h
theorem blt_false {a b : Nat} (h : ¬ a < b) : Nat.blt a b = false := by
  cases hb : Nat.blt a b with
  | false => rfl
  | true => exact absurd (by simpa using hb) h
theorem St.get_new (σ : St) (x : Blk) (b : Nat) : (σ.new x).get b = if b = σ.next then x else σ.get b := by
  unfold St.get St.new
  simp only [T.get_set]
  by_cases h : b = σ.next
  · subst h
    rw [blt_true (by omega)]; simp
  · rw [if_neg h, if_neg h]
    by_cases hb : b < σ.next
    · rw [blt_true (by omega), blt_true hb]
    · rw [blt_false (by omega), blt_false hb]
theorem St.get_upd (σ : St) (c : Nat) (x : Blk) (b : Nat) (hc : c < σ.next) : (σ.upd c x).get b = if b = c then x else σ.get b := by
  unfold St.get St.upd
  simp only [T.get_set]
  by_cases h : b = c
  · subst h
    rw [blt_true hc]; simp
  · rw [if_neg h, if_neg h]
theorem St.log_upd (σ : St) (c : Nat) (x : Blk) (hc : c < σ.next) (b : Nat) (hb : b ∉ (σ.upd c x).log) : (σ.upd c x).get b = σ.get b := by
  rw [St.get_upd _ _ _ _ hc, if_neg (fun e => hb (by subst e; exact (St.mem_upd σ b x).1))]
/-- what the model's memory holds at a block decides what is told of it -/
theorem cell_congr {w w' : World} {B : Nat} (h : w'.heap[B]? = w.heap[B]?) (j : Nat) : w'.cell? ⟨B, j, none⟩ = w.cell? ⟨B, j, none⟩ := by
  simp only [World.cell?, h]
theorem frozen_congr {w w' : World} {B : Nat} (h : w'.heap[B]? = w.heap[B]?) (j : Nat) : w'.frozen? ⟨B, j, none⟩ = w.frozen? ⟨B, j, none⟩ := by
  simp only [World.frozen?, h]
theorem there_congr {w w' : World} {B : Nat} (h : w'.heap[B]? = w.heap[B]?) {d z : Nat} (ht : w.there B d z) : w'.there B d z := fun j hj => by
  rw [cell_congr h, frozen_congr h]; exact ht j hj
theorem has_congr {w w' : World} {B : Nat} (h : w'.heap[B]? = w.heap[B]?) {d z e : Nat} (ht : World.has w B d z e) : World.has w' B d z e := by
  obtain ⟨h0, h1, zz, h2⟩ := ht
  exact ⟨h0, there_congr h h1, zz, by rw [← h2]; simp only [World.shape?, h]⟩
/-- The same memory at all that lives: related as before. -/
theorem HR.congr {ρ : Rho} {σ : St} {w w' : World} (h : HR ρ σ w) (hsz : w.heap.size ≤ w'.heap.size) (hb : ∀ b B d z, ρ b = some (B, d, z) → live σ b = true → w'.heap[B]? = w.heap[B]?) : HR ρ σ w' where
  dom := h.dom
  row b B d z cells e ro h1 h2 := by
    obtain ⟨a1, a2, a3⟩ := h.row b B d z cells e ro h1 h2
    have he := hb b B d z h1 (by unfold live; rw [h2])
    refine ⟨fun j v hv => ?_, a2, fun hr => has_congr he (a3 hr)⟩
    obtain ⟨v', hv', hr⟩ := a1 j v hv
    exact ⟨v', (cell_congr he _).trans hv', hr⟩
  iter b B d z s pos h1 h2 := by
    obtain ⟨a1, s', a2, a3⟩ := h.iter b B d z s pos h1 h2
    exact ⟨a1, s', a2, (hb b B d z h1 (by unfold live; rw [h2])).trans a3⟩
  lt b B d z h1 h2 := Nat.lt_of_lt_of_le (h.lt b B d z h1 h2) hsz
  inj := h.inj

/-- A world that differs in what it has drawn alone. -/
theorem Post.drew {ρ : Rho} {σ : St} {w : World} (h : HR ρ σ w) (n : Nat) : Post ρ σ w ρ σ (w.drewN n) :=
  ⟨fun _ _ => rfl, Nat.le_refl _, h.congr (Nat.le_refl _) (fun _ _ _ _ _ _ => rfl), ⟨Nat.le_refl _, rfl, rfl, rfl, fun _ _ _ => rfl⟩, fun b _ d z h1 h2 _ => ⟨b, d, z, h1, h2⟩, fun _ _ _ => rfl, fun _ h => h⟩

def upR (ρ : Rho) (b : Nat) (x : Nat × Nat × Nat) : Rho := fun c => if c = b then some x else ρ c

/-- A new block on both sides. -/
theorem Post.new {ρ : Rho} {σ : St} {w w' : World} (h : HR ρ σ w) (x : Blk) (o : Obj) (z : Nat)
    (hw : w'.heap = w.heap.push o) (hos : w'.os = w.os) (htp : w'.tape = w.tape) (hout : w'.output = w.output)
    (hx : match x with
      | .row cells e _ => (∀ (j : Nat) (v : AV), cells[j]? = some v → ∃ v', w'.cell? ⟨w.heap.size, j, none⟩ = some v' ∧ VR ρ v v') ∧ cells.length ≤ z ∧ World.has w' w.heap.size 0 z e
      | .iter s pos => ∃ s' : ByteArray, s'.data.toList = s ∧ o = .stringIter s' pos
      | .dead => True) :
    Post ρ σ w (upR ρ σ.next (w.heap.size, 0, z)) (σ.new x) w' := by
  have hn : ρ σ.next = none := by
    cases hr : ρ σ.next with
    | none => rfl
    | some y => exact absurd (h.dom _ _ hr) (Nat.lt_irrefl _)
  have hsub : ∀ b y, ρ b = some y → upR ρ σ.next (w.heap.size, 0, z) b = some y := fun b y hb => by
    unfold upR; rw [if_neg (fun e => by rw [e, hn] at hb; cases hb)]; exact hb
  have hold : ∀ B, B < w.heap.size → w'.heap[B]? = w.heap[B]? := fun B hB => by
    rw [hw, Array.getElem?_push, if_neg (by omega)]
  have hsz : w'.heap.size = w.heap.size + 1 := by rw [hw, Array.size_push]
  have hlive : ∀ b, b ≠ σ.next → live (σ.new x) b = live σ b := fun b hb => by unfold live; rw [St.get_new, if_neg hb]
  refine ⟨fun b hb => by unfold upR; rw [if_neg (by omega)], by simp [St.new], ⟨?_, ?_, ?_, ?_, ?_⟩, ⟨by omega, hos, htp, hout, fun B hB _ => hold B hB⟩, ?_, fun b hb _ => by rw [St.get_new, if_neg (by omega)], fun _ h => h⟩
  · intro b y hb
    show b < σ.next + 1
    unfold upR at hb
    split at hb
    · omega
    · have := h.dom b y hb; omega
  · intro b B d z' cells e ro h1 h2
    rw [St.get_new] at h2
    unfold upR at h1
    split at h1
    · rename_i hb
      rw [if_pos hb] at h2
      simp at h1
      obtain ⟨rfl, rfl, rfl⟩ := h1
      subst h2
      obtain ⟨a1, a2, a3⟩ := hx
      refine ⟨fun j v hv => ?_, a2, fun _ => a3⟩
      obtain ⟨v', b1, b2⟩ := a1 j v hv
      exact ⟨v', by simpa using b1, b2.mono hsub⟩
    · rename_i hb
      rw [if_neg hb] at h2
      obtain ⟨a1, a2, a3⟩ := h.row b B d z' cells e ro h1 h2
      have hB : B < w.heap.size := h.lt b B d z' h1 (by unfold live; rw [h2])
      refine ⟨fun j v hv => ?_, a2, fun hr => has_congr (hold B hB) (a3 hr)⟩
      obtain ⟨v', b1, b2⟩ := a1 j v hv
      exact ⟨v', (cell_congr (hold B hB) _).trans b1, b2.mono hsub⟩
  · intro b B d z' s pos h1 h2
    rw [St.get_new] at h2
    unfold upR at h1
    split at h1
    · rename_i hb
      rw [if_pos hb] at h2
      simp at h1
      obtain ⟨rfl, rfl, rfl⟩ := h1
      subst h2
      obtain ⟨s', e1, e2⟩ := hx
      exact ⟨rfl, s', e1, by rw [hw, Array.getElem?_push_size, e2]⟩
    · rename_i hb
      rw [if_neg hb] at h2
      obtain ⟨a1, s', a2, a3⟩ := h.iter b B d z' s pos h1 h2
      exact ⟨a1, s', a2, (hold B (h.lt b B d z' h1 (by unfold live; rw [h2]))).trans a3⟩
  · intro b B d z' h1 h2
    rw [hsz]
    unfold upR at h1
    split at h1
    · simp at h1; omega
    · rename_i hb
      rw [hlive b hb] at h2
      have := h.lt b B d z' h1 h2
      omega
  · intro b1 b2 B d1 z1 d2 z2 h1 h2 l1 l2
    unfold upR at h1 h2
    split at h1 <;> split at h2
    · omega
    · rename_i e1 e2
      rw [hlive _ e2] at l2
      have := h.lt _ _ _ _ h2 l2
      simp at h1; omega
    · rename_i e1 e2
      rw [hlive _ e1] at l1
      have := h.lt _ _ _ _ h1 l1
      simp at h2; omega
    · rename_i e1 e2
      rw [hlive _ e1] at l1
      rw [hlive _ e2] at l2
      exact h.inj _ _ _ _ _ _ _ h1 h2 l1 l2
  · intro b B d z' h1 h2 hB
    unfold upR at h1
    split at h1
    · simp at h1; omega
    · rename_i hb
      refine ⟨b, d, z', h1, ?_⟩
      unfold writable at h2 ⊢
      rw [St.get_new, if_neg hb] at h2
      exact h2
end Go.Ev
