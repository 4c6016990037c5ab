/- The law of this seat holds of every input: a part of the proof (an evaluator that is proved to answer as the model does, and its runs by the kernel). -/
import Derived.Test.YtaomoiphkcbnkaaGreatDoorEvMem
import Derived.Laws.Entries
import Derived.Laws.Strings
set_option linter.unusedVariables false
set_option linter.unusedSimpArgs false
section
namespace Go.Ev
variable {P : Program} {E : Env} {ρ : Rho} {σ σ' : St} {w : World} {fr : Fr} {a : Act}

def KOK : TK → TypeDesc → Prop
  | .bool, .bool => True
  | .int k, .int k' => k = k'
  | .string, .string => True
  | .ptr e, .pointer e' => e = e'
  | .slice e, .slice e' => e = e'
  | .struct fs, .struct fields => fs = fields.toList.map (fun f => (f.offset, f.type))
  | .arr n e, .array n' e' => n = n' ∧ e = e'
  | .iface, .interface _ => True
  | .func, .func .. => True
  | .uptr, .unsafePointer => True
  | .other, .struct _ => False
  | .other, .array .. => False
  | .other, .interface _ => False
  | .other, _ => True
  | _, _ => False

structure TyOK (P : Program) (t : Nat) (ti : TyI) : Prop where
  info : ∃ i, P.info? t = some i ∧ i.size = ti.size ∧ i.bytes = ti.bytes ∧ ∃ z, i.zero = some z ∧ ∀ ρ, VRL ρ ti.zero z.cells.toList
  kind : ∃ d, P.underlying t = some d ∧ KOK ti.k d
  zlen : ti.zero.length = ti.size
  places : ∀ fields, P.underlying t = some (.struct fields) → ∃ pl, fields.toList.mapM (fun f => (P.info? f.type).map fun i => (f.offset, i.size)) = some pl

structure EnvOK (P : Program) (E : Env) : Prop where
  ty : ∀ t ti, E.ty t = some ti → TyOK P t ti
  eq : ∀ t ti, E.ty t = some ti → ti.flat = true → ∀ (ρ : Rho) (as bs : List AV) (xs ys : List Value) (w : World) (b : Bool), VRL ρ as xs → VRL ρ bs ys → allK ti.zero as = true → allK ti.zero bs = true → eqL as bs = some b →
    (∀ op x y, (eqGuard op t x y (.agg xs.toArray) (.agg ys.toArray)).run P w = .ok () w) ∧ (Op.equal t (.agg xs.toArray) (.agg ys.toArray)).run P w = .ok b w

structure FrR (ρ : Rho) (fr : Fr) (a : Act) : Prop where
  size : a.tmps.size = fr.n
  val : ∀ t, VR ρ (fr.get t) (a.tmps.getD t undef)
  defers : a.defers = []
  glob : ∀ g, g < fr.g → ∃ z, ρ g = some (g, 0, z)

theorem FrR.mono {ρ ρ' : Rho} (h : FrR ρ fr a) (hs : ∀ b x, ρ b = some x → ρ' b = some x) : FrR ρ' fr a :=
  ⟨h.size, fun t => (h.val t).mono hs, h.defers, fun g hg => let ⟨z, hz⟩ := h.glob g hg; ⟨z, hs _ _ hz⟩⟩

theorem ofConst_rel (ρ : Rho) (v : Value) : VR ρ (ofValue.ofConst v) v := by
  unfold ofValue.ofConst
  split <;> first | exact .unk _ | constructor
theorem ofConsts_rel (ρ : Rho) : ∀ l : List Value, VRL ρ (l.map ofValue.ofConst) l
  | [] => .nil
  | v :: l => .cons (ofConst_rel ρ v) (ofConsts_rel ρ l)
theorem ofValue_rel (ρ : Rho) (v : Value) : VR ρ (ofValue v) v := by
  unfold ofValue
  split <;> first | exact .unk _ | exact .agg (ofConsts_rel ρ _) | exact .tup .nil | constructor
theorem FrR.eval (h : FrR ρ fr a) (x : Operand) : VR ρ (fr.val x) (a.eval x) := by
  cases x with
  | tmp t => exact h.val t
  | const v => exact ofValue_rel ρ v
  | global g =>
    simp only [Fr.val, Act.eval]
    split
    · rename_i hg
      obtain ⟨z, hz⟩ := h.glob g (by simpa using hg)
      have := VR.ptr (o := 0) hz
      simpa using this
    · exact .unk _
  | func f => exact .fn .nil
theorem FrR.evals (h : FrR ρ fr a) : ∀ l : List Operand, VRL ρ (l.map fr.val) (l.map a.eval)
  | [] => .nil
  | x :: l => .cons (h.eval x) (h.evals l)

/-- the operands' values -/
structure VlR (ρ : Rho) (fv : Operand → AV) (a : Act) : Prop where
  eval : ∀ x, VR ρ (fv x) (a.eval x)
theorem VlR.evals {fv : Operand → AV} (h : VlR ρ fv a) : ∀ l : List Operand, VRL ρ (l.map fv) (l.map a.eval)
  | [] => .nil
  | x :: l => .cons (h.eval x) (h.evals l)
theorem FrR.vl (h : FrR ρ fr a) : VlR ρ fr.val a := ⟨h.eval⟩

theorem FrR.put (h : FrR ρ fr a) {dst : Option Nat} {v : AV} {v' : Value} {fr' : Fr} (hv : VR ρ v v') (hp : fr.put dst v = some fr') : FrR ρ fr' (a.put dst v') := by
  unfold Fr.put at hp
  cases dst with
  | none => simp at hp; subst hp; exact h
  | some d =>
    simp only [] at hp
    split at hp
    · rename_i hd
      have hd : d < fr.n := by simpa using hd
      simp at hp; subst hp
      refine ⟨by simp [Act.put, h.size], fun t => ?_, h.defers, h.glob⟩
      show VR ρ (Fr.get { t := fr.t.set d v, n := fr.n, g := fr.g } t) ((a.tmps.setIfInBounds d v').getD t undef)
      unfold Fr.get
      simp only [T.get_set]
      by_cases ht : t = d
      · subst ht
        rw [if_pos rfl]
        simp [Array.getD_eq_getD_getElem?, Array.getElem?_setIfInBounds_self_of_lt (by rw [h.size]; exact hd : t < a.tmps.size)]
        exact hv
      · rw [if_neg ht]
        have := h.val t
        unfold Fr.get at this
        simpa [Array.getD_eq_getD_getElem?, Array.getElem?_setIfInBounds_ne (fun e => ht e.symm)] using this
    · cases hp

/-- what an operation that is no call comes to -/
def Does (P : Program) (o : Oper) (a : Act) (ρ : Rho) (σ : St) (w : World) (v : AV) (σ' : St) : Prop :=
  ∃ v' w' ρ', ((execOp a.eval o).run P w = .ok (.value v') w' ∨ ((execOp a.eval o).run P w = .ok .skip w' ∧ v' = undef)) ∧ VR ρ' v v' ∧ Post ρ σ w ρ' σ' w'

theorem Does.same {o : Oper} {v : AV} {v' : Value} (h : HR ρ σ w) (hr : (execOp a.eval o).run P w = .ok (.value v') w) (hv : VR ρ v v') : Does P o a ρ σ w v σ :=
  ⟨v', w, ρ, .inl hr, hv, .refl h⟩

/-! ### numbers, bools, strings -/
theorem VR.inv_int {k n v'} (h : VR ρ (.int k n) v') : v' = .int k n := by cases h; rfl
theorem VR.inv_bool {b v'} (h : VR ρ (.bool b) v') : v' = .bool b := by cases h; rfl
theorem VR.inv_str {s v'} (h : VR ρ (.str s) v') : ∃ b : ByteArray, v' = .string b ∧ b.data.toList = s := by cases h; exact ⟨_, rfl, rfl⟩
theorem VR.inv_ptr {b o v'} (h : VR ρ (.ptr b o) v') : ∃ B d z, ρ b = some (B, d, z) ∧ v' = .pointer (some ⟨B, d + o, none⟩) := by cases h with | ptr h => exact ⟨_, _, _, h, rfl⟩
theorem VR.inv_agg {l v'} (h : VR ρ (.agg l) v') : ∃ vs, v' = .agg vs.toArray ∧ VRL ρ l vs := by cases h with | agg h => exact ⟨_, rfl, h⟩
theorem VR.inv_tup {l v'} (h : VR ρ (.tup l) v') : ∃ vs, v' = .tuple vs.toArray ∧ VRL ρ l vs := by cases h with | tup h => exact ⟨_, rfl, h⟩
theorem VR.inv_sl {b o n c e v'} (h : VR ρ (.sl b o n c e) v') : ∃ B d z c', ρ b = some (B, d, z) ∧ (∀ x, c = some x → c' = x) ∧ n ≤ c' ∧ o + c' * e ≤ z ∧ v' = .slice (some ⟨B, d + o, none⟩) n c' := by
  cases h with | sl h hc hn hz => exact ⟨_, _, _, _, h, hc, hn, hz, rfl⟩

theorem eqS_eq : ∀ x y : List UInt8, eqS x y = (x == y)
  | [], [] => rfl
  | [], _ :: _ => rfl
  | _ :: _, [] => rfl
  | a :: x, b :: y => by
    simp only [eqS, eqS_eq x y]
    by_cases h : a = b
    · subst h; simp
    · have h1 : a.toNat ≠ b.toNat := fun e => h (UInt8.toNat_inj.1 e)
      have h2 : Nat.beq a.toNat b.toNat = false := by
        cases hb : Nat.beq a.toNat b.toNat with
        | false => rfl
        | true => exact absurd (Nat.eq_of_beq_eq_true hb) h1
      simp [h2, h]
theorem lessS_eq : ∀ x y : List UInt8, lessS x y = Op.bytesLess x y
  | [], [] => rfl
  | [], _ :: _ => rfl
  | _ :: _, [] => rfl
  | a :: x, b :: y => by
    simp only [lessS, Op.bytesLess, lessS_eq x y]
    by_cases h : a < b
    · have : Nat.blt a.toNat b.toNat = true := blt_true (UInt8.lt_iff_toNat_lt.1 h)
      simp [this, h]
    · have : Nat.blt a.toNat b.toNat = false := blt_false (fun e => h (UInt8.lt_iff_toNat_lt.2 e))
      have h2 : Nat.beq a.toNat b.toNat = (a == b) := by
        by_cases e : a = b
        · subst e; simp
        · have h1 : a.toNat ≠ b.toNat := fun e' => e (UInt8.toNat_inj.1 e')
          cases hb : Nat.beq a.toNat b.toNat with
          | false => simp [e]
          | true => exact absurd (Nat.eq_of_beq_eq_true hb) h1
      simp [this, h, h2]

theorem toNat_emod (k : IntKind) (x : Int) : (BitVec.ofInt k.bits x).toNat = (x % (2 ^ k.bits : Int)).toNat := by
  rw [BitVec.toNat_ofInt]; push_cast; rfl
theorem b1_and (k : IntKind) (a b : Int) : k.wrap ((BitVec.ofInt k.bits a &&& BitVec.ofInt k.bits b).toNat : Int) = b1 k Nat.land a b := by
  unfold b1; rw [BitVec.toNat_and, toNat_emod, toNat_emod]; rfl
theorem b1_or (k : IntKind) (a b : Int) : k.wrap ((BitVec.ofInt k.bits a ||| BitVec.ofInt k.bits b).toNat : Int) = b1 k Nat.lor a b := by
  unfold b1; rw [BitVec.toNat_or, toNat_emod, toNat_emod]; rfl
theorem b1_xor (k : IntKind) (a b : Int) : k.wrap ((BitVec.ofInt k.bits a ^^^ BitVec.ofInt k.bits b).toNat : Int) = b1 k Nat.xor a b := by
  unfold b1; rw [BitVec.toNat_xor, toNat_emod, toNat_emod]; rfl
end Go.Ev
end
section
namespace Go.Ev
variable {P : Program} {E : Env} {ρ : Rho} {σ σ' : St} {w : World} {fr : Fr} {a : Act}

theorem bytes_toList (b : ByteArray) : b.toList = b.data.toList := ByteArray.toList_eq b

theorem int_beq (a b : Int) : (a == b) = decide (a = b) := by by_cases h : a = b <;> simp [h]
theorem VR.inv_low {k m r v'} (h : VR ρ (.low k m r) v') : ∃ n : Int, v' = .int k n ∧ lowP m r n ∧ (m < 1000 → m ≤ k.bits) := by cases h with | low h hm => exact ⟨_, rfl, h, hm⟩
theorem land_low (X Y m : Nat) (hy : Y < 2 ^ m) : Nat.land X Y = Nat.land (X % 2 ^ m) Y := by
  show X &&& Y = (X % 2 ^ m) &&& Y
  apply Nat.eq_of_testBit_eq
  intro i
  rw [Nat.testBit_and, Nat.testBit_and, Nat.testBit_mod_two_pow]
  by_cases hi : i < m
  · simp [hi]
  · have : Y.testBit i = false := Nat.testBit_lt_two_pow (Nat.lt_of_lt_of_le hy (Nat.pow_le_pow_right (by omega) (by omega)))
    simp [this]
theorem low_and {k : IntKind} {m r : Nat} {n b : Int} (h : n % (2 ^ m : Int) = r) (hm : m ≤ k.bits) (h0 : 0 ≤ b) (h1 : b < 2 ^ m) : b1 k Nat.land n b = b1 k Nat.land r b := by
  have hpos : (0 : Int) < 2 ^ m := Int.pow_pos (by decide)
  have hdvd : (2 ^ m : Int) ∣ 2 ^ k.bits := ⟨2 ^ (k.bits - m), by rw [← Int.pow_add]; congr 1; omega⟩
  have e1 : ((n % (2 ^ k.bits : Int)).toNat) % 2 ^ m = r := by
    have : (((n % (2 ^ k.bits : Int)).toNat % 2 ^ m : Nat) : Int) = r := by
      rw [Int.natCast_emod, Int.toNat_of_nonneg (Int.emod_nonneg _ (by have : (0 : Int) < 2 ^ k.bits := Int.pow_pos (by decide); omega))]
      push_cast
      rw [Int.emod_emod_of_dvd _ hdvd, h]
    exact_mod_cast this
  have hr : (r : Int) < 2 ^ m := by rw [← h]; exact Int.emod_lt_of_pos _ hpos
  have hle : (2 ^ m : Int) ≤ 2 ^ k.bits := Int.le_of_dvd (Int.pow_pos (by decide)) hdvd
  have e2 : ((r : Int) % (2 ^ k.bits : Int)).toNat = r := by rw [Int.emod_eq_of_lt (by omega) (by omega)]; simp
  have e3 : (b % (2 ^ k.bits : Int)).toNat = b.toNat := by rw [Int.emod_eq_of_lt h0 (by omega)]
  have hb : b.toNat < 2 ^ m := by
    have : ((b.toNat : Nat) : Int) < ((2 ^ m : Nat) : Int) := by push_cast; omega
    exact_mod_cast this
  unfold b1
  rw [e2, e3, land_low _ _ m hb, e1]
theorem land_255 (k : IntKind) (q : Nat) (h : q < 256) (h9 : 8 < k.bits) : b1 k Nat.land (q : Int) 255 = (q : Int) := by
  have key : ∀ k : IntKind, 8 < k.bits → ∀ q : Fin 256, b1 k Nat.land ((q.val : Nat) : Int) 255 = ((q.val : Nat) : Int) := by
    intro k hk; cases k <;> first | decide +kernel | exact absurd hk (by decide)
  exact key k h9 ⟨q, h⟩
theorem low_shr {k : IntKind} {m r : Nat} {n b : Int} (h : n % (2 ^ m : Int) = r) (hm : m ≤ k.bits) (h0 : 0 ≤ b) (h1 : b ≤ m) : (n.fdiv (2 ^ (min b.toNat k.bits))) % (2 ^ (m - b.toNat) : Int) = ((r / 2 ^ b.toNat : Nat) : Int) := by
  have hmin : min b.toNat k.bits = b.toNat := by omega
  rw [hmin, Int.fdiv_eq_ediv_of_nonneg _ (Int.le_of_lt (Int.pow_pos (by decide)))]
  have hsplit : (2 ^ m : Int) = 2 ^ b.toNat * 2 ^ (m - b.toNat) := by rw [← Int.pow_add]; congr 1; omega
  have hp : (0 : Int) < 2 ^ b.toNat := Int.pow_pos (by decide)
  push_cast
  rw [← h, hsplit]
  rw [Int.emod_def, Int.emod_def, Int.ediv_ediv_of_nonneg (Int.le_of_lt hp), Int.mul_assoc, Int.sub_eq_add_neg, Int.sub_eq_add_neg, ← Int.mul_neg, ← Int.mul_neg, ← Int.mul_neg, Int.add_mul_ediv_left _ _ (by omega)]
theorem binop_sound {op : BinOp} {t : TypeId} {x y r : AV} {x' y' : Value} (hx : VR ρ x x') (hy : VR ρ y y') (h : binop op x y = some r) :
    ∃ r', (binOp op t x' y').run P w = .ok r' w ∧ VR ρ r r' := by
  unfold binop at h
  split at h
  -- shl, shr
  · rw [hx.inv_int, hy.inv_int]
    split at h
    · cases h
    · rename_i hb
      simp at h; subst h
      exact ⟨_, by simp [binOp, Op.shift, hb], .int _ _⟩
  · rw [hx.inv_int, hy.inv_int]
    split at h
    · cases h
    · rename_i hb
      simp at h; subst h
      exact ⟨_, by simp [binOp, Op.shift, hb], .int _ _⟩
  -- add sub mul
  · rw [hx.inv_int, hy.inv_int]
    split at h
    · rename_i hk; subst hk; simp at h; subst h
      exact ⟨_, by simp [binOp, Op.intArith], .int _ _⟩
    · cases h
  · rw [hx.inv_int, hy.inv_int]
    split at h
    · rename_i hk; subst hk; simp at h; subst h
      exact ⟨_, by simp [binOp, Op.intArith], .int _ _⟩
    · cases h
  · rw [hx.inv_int, hy.inv_int]
    split at h
    · rename_i hk; subst hk; simp at h; subst h
      exact ⟨_, by simp [binOp, Op.intArith], .int _ _⟩
    · cases h
  -- quo rem
  · rw [hx.inv_int, hy.inv_int]
    split at h
    · rename_i hk; subst hk
      split at h
      · cases h
      · rename_i hb
        simp at h; subst h
        exact ⟨_, by simp [binOp, Op.intDiv, hb], .int _ _⟩
    · cases h
  · rw [hx.inv_int, hy.inv_int]
    split at h
    · rename_i hk; subst hk
      split at h
      · cases h
      · rename_i hb
        simp at h; subst h
        exact ⟨_, by simp [binOp, Op.intDiv, hb], .int _ _⟩
    · cases h
  -- and or xor
  · rw [hx.inv_int, hy.inv_int]
    split at h
    · rename_i hk; subst hk; simp at h; subst h
      exact ⟨_, by simp only [binOp, Op.intBits, b1_and]; simp, .int _ _⟩
    · cases h
  · rw [hx.inv_int, hy.inv_int]
    split at h
    · rename_i hk; subst hk; simp at h; subst h
      exact ⟨_, by simp only [binOp, Op.intBits, b1_or]; simp, .int _ _⟩
    · cases h
  · rw [hx.inv_int, hy.inv_int]
    split at h
    · rename_i hk; subst hk; simp at h; subst h
      exact ⟨_, by simp only [binOp, Op.intBits, b1_xor]; simp, .int _ _⟩
    · cases h
  -- comparisons
  · rw [hx.inv_int, hy.inv_int]
    split at h
    · rename_i hk; subst hk; simp at h; subst h
      exact ⟨_, by simp [binOp, Op.intCmp], .bool _⟩
    · cases h
  · rw [hx.inv_int, hy.inv_int]
    split at h
    · rename_i hk; subst hk; simp at h; subst h
      exact ⟨_, by simp [binOp, Op.intCmp], .bool _⟩
    · cases h
  · rw [hx.inv_int, hy.inv_int]
    split at h
    · rename_i hk; subst hk; simp at h; subst h
      exact ⟨_, by simp [binOp, Op.intCmp], .bool _⟩
    · cases h
  · rw [hx.inv_int, hy.inv_int]
    split at h
    · rename_i hk; subst hk; simp at h; subst h
      exact ⟨_, by simp [binOp, Op.intCmp], .bool _⟩
    · cases h
  -- strings
  · obtain ⟨s, rfl, rfl⟩ := hx.inv_str
    obtain ⟨s', rfl, rfl⟩ := hy.inv_str
    split at h
    · rename_i hl
      simp at h; subst h
      refine ⟨.string (s ++ s'), ?_, ?_⟩
      · have hl' : s.data.toList.length + s'.data.toList.length ≤ 9223372036854775807 := by simpa using hl
        have e1 : s.size = s.data.toList.length := rfl
        have e2 : s'.size = s'.data.toList.length := rfl
        have : ¬ (((s.size + s'.size : Nat) : Int) > IntKind.i64.max) := by
          rw [e1, e2]
          have : IntKind.i64.max = 9223372036854775807 := by decide
          rw [this]; omega
        simp only [binOp, Op.stringOp]
        rw [if_neg this]; rfl
      · have := VR.str (ρ := ρ) (s ++ s')
        simpa using this
    · cases h
  · obtain ⟨s, rfl, rfl⟩ := hx.inv_str
    obtain ⟨s', rfl, rfl⟩ := hy.inv_str
    simp at h; subst h
    exact ⟨_, by simp only [binOp, Op.stringOp, bytes_toList, ← lessS_eq]; rfl, .bool _⟩
  · obtain ⟨s, rfl, rfl⟩ := hx.inv_str
    obtain ⟨s', rfl, rfl⟩ := hy.inv_str
    simp at h; subst h
    exact ⟨_, by simp only [binOp, Op.stringOp, bytes_toList, ← lessS_eq, ← eqS_eq]; rfl, .bool _⟩
  · obtain ⟨s, rfl, rfl⟩ := hx.inv_str
    obtain ⟨s', rfl, rfl⟩ := hy.inv_str
    simp at h; subst h
    refine ⟨_, by simp only [binOp, Op.stringOp, bytes_toList, ← lessS_eq, ← eqS_eq]; rfl, ?_⟩
    simp only [Bool.not_or]; exact .bool _
  · obtain ⟨s, rfl, rfl⟩ := hx.inv_str
    obtain ⟨s', rfl, rfl⟩ := hy.inv_str
    simp at h; subst h
    exact ⟨_, by simp only [binOp, Op.stringOp, bytes_toList, ← lessS_eq]; rfl, .bool _⟩
  · rw [hx.inv_int, hy.inv_int]
    split at h
    · rename_i hk; subst hk; simp at h; subst h
      exact ⟨.bool _, by simp only [binOp, Op.intCmp, ne_eq, not_true, if_false, int_beq]; rfl, .bool _⟩
    · cases h
  · rw [hx.inv_int, hy.inv_int]
    split at h
    · rename_i hk; subst hk; simp at h; subst h
      exact ⟨.bool _, by simp only [binOp, Op.intCmp, ne_eq, not_true, if_false, bne, int_beq]; rfl, .bool _⟩
    · cases h
  · obtain ⟨s, rfl, rfl⟩ := hx.inv_str
    obtain ⟨s', rfl, rfl⟩ := hy.inv_str
    simp at h; subst h
    exact ⟨_, by simp only [binOp, Op.stringOp, bytes_toList, ← eqS_eq]; rfl, .bool _⟩
  · obtain ⟨s, rfl, rfl⟩ := hx.inv_str
    obtain ⟨s', rfl, rfl⟩ := hy.inv_str
    simp at h; subst h
    exact ⟨_, by simp only [binOp, Op.stringOp, bytes_toList, ← eqS_eq]; rfl, .bool _⟩
  · obtain ⟨n, rfl, hn, hm⟩ := hx.inv_low
    rw [hy.inv_int]
    split at h
    · rename_i hl
      rw [lowP, if_pos hl] at hn
      split at h
      · rename_i hh
        obtain ⟨rfl, h0, h1⟩ := hh
        simp at h; subst h
        rename_i k0 m0 r0 b0
        refine ⟨.int k0 (b1 k0 Nat.land n b0), by simp only [binOp, Op.intBits, b1_and]; simp, ?_⟩
        rw [low_and hn (hm hl) h0 h1]; exact .int _ _
      · cases h
    · rename_i hl
      split at h
      · rename_i hh
        obtain ⟨rfl, rfl, h2, h9⟩ := hh
        rw [lowP, if_neg hl, if_pos h2] at hn
        simp at h; subst h
        rename_i k0 m0 r0
        refine ⟨.int k0 (b1 k0 Nat.land n 255), by simp only [binOp, Op.intBits, b1_and]; simp, ?_⟩
        have he : (8 : Nat) ≤ k0.bits := by cases k0 <;> decide
        have hr : ((n % 256).toNat : Int) = n % 256 := Int.toNat_of_nonneg (Int.emod_nonneg _ (by decide))
        have h8 : n % (2 ^ 8 : Int) = ((n % 256).toNat : Nat) := by rw [hr]; rfl
        have e : b1 k0 Nat.land n 255 = n % 256 := by
          rw [low_and h8 he (by decide) (by decide), hr]
          have a1 : 0 ≤ n % 256 := Int.emod_nonneg _ (by decide)
          have a2 : n % 256 < 256 := Int.emod_lt_of_pos _ (by decide)
          generalize n % 256 = q at a1 a2
          obtain ⟨q, rfl⟩ := Int.eq_ofNat_of_zero_le a1
          have a3 : q < 256 := by omega
          exact land_255 k0 q a3 h9
        rw [e]
        refine .low ?_ (by omega)
        rw [lowP, if_neg (by omega), if_neg (by omega), if_pos (by omega)]
        refine ⟨⟨Int.emod_nonneg _ (by decide), Int.emod_lt_of_pos _ (by decide)⟩, ?_⟩
        rw [show m0 + 1000 - 2000 = m0 - 1000 by omega]
        exact hn
      · cases h
  · obtain ⟨n, rfl, hn, hm⟩ := hx.inv_low
    rw [hy.inv_int]
    split at h
    · rename_i hh
      obtain ⟨hl, h0, h1⟩ := hh
      rw [lowP, if_pos hl] at hn
      simp at h; subst h
      have hb : ¬ (_ : Int) < 0 := Int.not_lt.2 h0
      have hs := low_shr hn (hm hl) h0 h1
      rename_i k0 m0 r0 k1 b0
      have hp : lowP (m0 - b0.toNat) (r0 / 2 ^ b0.toNat) (n.fdiv (2 ^ (min b0.toNat k0.bits))) := by rw [lowP, if_pos (by omega)]; exact hs
      exact ⟨_, by simp [binOp, Op.shift, hb], .low hp (by omega)⟩
    · cases h
  · obtain ⟨n, rfl, hn, hm⟩ := hx.inv_low
    rw [hy.inv_int]
    split at h
    · rename_i hh
      obtain ⟨rfl, hl, hl3, rfl⟩ := hh
      rw [lowP, if_neg (by omega), if_neg (by omega), if_pos hl3] at hn
      obtain ⟨⟨p0, p1⟩, hn⟩ := hn
      simp at h; subst h
      rename_i k0 m0 r0
      have hb : ¬ m0 - 2000 = 0 := by omega
      refine ⟨.int k0 (n.tmod ((m0 - 2000 : Nat) : Int)), by simp [binOp, Op.intDiv, hb], ?_⟩
      rw [Int.tmod_eq_emod_of_nonneg p0, hn]
      exact .int _ _
    · cases h
  · obtain ⟨n, rfl, hn, hm⟩ := hy.inv_low
    rw [hx.inv_int]
    split at h
    · rename_i hk; subst hk
      split at h
      · rename_i hh
        obtain ⟨rfl, h1⟩ := hh
        rw [lowP, if_neg (by decide), if_neg (by decide), if_neg (by decide), if_pos rfl] at hn
        simp at h; subst h
        rename_i k0 a0 r0
        have hd : decide (a0 ≤ n) = false := decide_eq_false (by omega)
        exact ⟨.bool false, by simp [binOp, Op.intCmp, hd], .bool _⟩
      · split at h
        · rename_i hh
          obtain ⟨rfl, h1⟩ := hh
          rw [lowP, if_neg (by decide), if_neg (by decide), if_neg (by decide), if_neg (by decide)] at hn
          simp at h; subst h
          rename_i k0 a0 r0 _
          exact ⟨.bool true, by simp [binOp, Op.intCmp]; omega, .bool _⟩
        · cases h
    · cases h
  · cases h

theorem unop_sound {op : UnOp} {x r : AV} {x' : Value} (hx : VR ρ x x') (h : unop op x = some r) : ∃ r', (Op.unary op x').run P w = .ok r' w ∧ VR ρ r r' := by
  unfold unop at h
  split at h
  · rw [hx.inv_int]; simp at h; subst h
    exact ⟨.int _ _, by simp only [Op.unary, Op.intArith, Int.zero_sub]; rfl, .int _ _⟩
  · rw [hx.inv_int]; simp at h; subst h
    exact ⟨_, by simp only [Op.unary, Op.intBits, b1_xor]; rfl, .int _ _⟩
  · rw [hx.inv_bool]; simp at h; subst h
    exact ⟨_, by simp [Op.unary], .bool _⟩
  · cases h

/-- where '==' asks nothing first -/
theorem eqGuard_scalar {op : BinOp} {t : TypeId} {x y : Operand} {u v : Value} (h : ∀ c d, u = .agg c → v = .agg d → False) (h2 : u = .nilIface → v = .nilIface → False) : (eqGuard op t x y u v).run P w = .ok () w := by
  unfold eqGuard
  cases u <;> cases v <;> simp at h h2 ⊢ <;> (try split) <;> rfl
theorem eqGuard_nil {op : BinOp} {t : TypeId} {x y : Operand} (h : (isConstO x || isConstO y) = true) : (eqGuard op t x y .nilIface .nilIface).run P w = .ok () w := by
  unfold eqGuard
  cases x <;> cases y <;> simp [isConstO] at h ⊢ <;> (try split) <;> (try rfl) <;> simp
end Go.Ev
end
section
namespace Go.Ev
variable {P : Program} {E : Env} {ρ : Rho} {σ σ' : St} {w : World} {fv : Operand → AV} {a : Act}

theorem TyOK.size_run {t : Nat} {ti : TyI} (h : TyOK P t ti) (w : World) : (sizeOf t).run P w = .ok ti.size w := by
  obtain ⟨i, hi, hs, _⟩ := h.info
  simp [sizeOf, typeInfo, hi, hs]
theorem TyOK.under {t : Nat} {ti : TyI} (h : TyOK P t ti) : ∃ d, P.underlying t = some d ∧ KOK ti.k d := h.kind
theorem TyOK.agg_run {t : Nat} {ti : TyI} (h : TyOK P t ti) (w : World) : (isAgg t).run P w = .ok (isAggK ti.k) w := by
  obtain ⟨d, hd, hk⟩ := h.kind
  unfold isAgg
  rw [Sem.run_bind, run_underlying hd]
  simp only [Result.andThen_ok]
  cases hti : ti.k <;> cases d <;> simp_all [KOK, isAggK]
theorem TyOK.slice {t e : Nat} {ti : TyI} (h : TyOK P t ti) (hk : ti.k = .slice e) : P.underlying t = some (.slice e) := by
  obtain ⟨d, hd, h2⟩ := h.kind
  rw [hk] at h2
  cases d <;> simp [KOK] at h2
  subst h2; exact hd
theorem TyOK.struct {t : Nat} {ti : TyI} {fs : List (Nat × Nat)} (h : TyOK P t ti) (hk : ti.k = .struct fs) : ∃ fields, P.underlying t = some (.struct fields) ∧ fs = fields.toList.map (fun f => (f.offset, f.type)) := by
  obtain ⟨d, hd, h2⟩ := h.kind
  rw [hk] at h2
  cases d <;> simp [KOK] at h2
  exact ⟨_, hd, h2⟩
theorem TyOK.arr {t n e : Nat} {ti : TyI} (h : TyOK P t ti) (hk : ti.k = .arr n e) : P.underlying t = some (.array n e) := by
  obtain ⟨d, hd, h2⟩ := h.kind
  rw [hk] at h2
  cases d <;> simp [KOK] at h2
  obtain ⟨rfl, rfl⟩ := h2; exact hd
theorem TyOK.string {t : Nat} {ti : TyI} (h : TyOK P t ti) (hk : ti.k = .string) : P.underlying t = some .string := by
  obtain ⟨d, hd, h2⟩ := h.kind
  rw [hk] at h2
  cases d <;> simp [KOK] at h2
  exact hd
theorem TyOK.int {t : Nat} {ti : TyI} {k : IntKind} (h : TyOK P t ti) (hk : ti.k = .int k) : P.underlying t = some (.int k) := by
  obtain ⟨d, hd, h2⟩ := h.kind
  rw [hk] at h2
  cases d <;> simp [KOK] at h2
  subst h2; exact hd

/-- a new row out of related cells -/
theorem new_row {l : List AV} {vs : List Value} (h : HR ρ σ w) (hv : VRL ρ l vs) (e : Nat) :
    Post ρ σ w (upR ρ σ.next (w.heap.size, 0, l.length)) (σ.new (.row l e false)) (w.alloc (.cells vs.toArray e)) := by
  refine Post.new h (.row l e false) (.cells vs.toArray e) l.length rfl rfl rfl rfl ⟨fun j v hj => ?_, Nat.le_refl _, rfl, fun j hj => ⟨?_, ?_⟩, _, shape_alloc ..⟩
  · obtain ⟨v', h1, h2⟩ := hv.get j v hj
    exact ⟨v', by rw [World.cell?_alloc_at _ _ _ _ rfl]; simpa using h1, h2⟩
  · rw [Nat.zero_add, World.cell?_alloc_at _ _ _ _ rfl]
    have := hv.length
    simp; omega
  · rw [Nat.zero_add, World.frozen?_alloc_at _ _ _ _ rfl]
theorem upR_same (ρ : Rho) (b : Nat) (x : Nat × Nat × Nat) : upR ρ b x b = some x := by unfold upR; rw [if_pos rfl]

theorem step_move {o : Oper} {x : Operand} (ho : o.op = .move x ∨ o.op = .assign x) (hf : VlR ρ fv a) (h : HR ρ σ w) : Does P o a ρ σ w (fv x) σ := by
  refine .same h ?_ (hf.eval x)
  rcases ho with ho | ho <;> simp [execOp, ho]
theorem step_pick {o : Oper} {c x y : Operand} {b : Bool} (ho : o.op = .pick c x y) (hf : VlR ρ fv a) (h : HR ρ σ w) (hc : fv c = .bool b) : Does P o a ρ σ w (if b then fv x else fv y) σ := by
  have := hf.eval c
  rw [hc] at this
  have hcv := this.inv_bool
  cases b
  · exact .same h (v' := a.eval y) (by simp [execOp, ho, hcv, asBool]) (by simpa using hf.eval y)
  · exact .same h (v' := a.eval x) (by simp [execOp, ho, hcv, asBool]) (by simpa using hf.eval x)
theorem step_alloc {o : Oper} {t : Nat} {ti : TyI} (ho : o.op = .alloc t) (ht : TyOK P t ti) (h : HR ρ σ w) : Does P o a ρ σ w (.ptr σ.next 0) (σ.new (.row ti.zero t false)) := by
  obtain ⟨i, hi, _, _, z, hz, hzr⟩ := ht.info
  refine ⟨.pointer (some ⟨w.heap.size, 0, none⟩), _, _, .inl ?_, ?_, new_row h (hzr ρ) t⟩
  · simp [execOp, ho, Instr.alloc, zeroValue, typeInfo, hi, hz, newVar, newRow]
  · exact .ptr (d := 0) (upR_same ..)
theorem step_box {o : Oper} {t : Nat} {x : Operand} (ho : o.op = .box t x) (hf : VlR ρ fv a) (h : HR ρ σ w) (hu : fv x ≠ .unk) : Does P o a ρ σ w (.ptr σ.next 0) (σ.new (.row (fv x).cells t false)) := by
  have hv := (hf.eval x).cells hu
  refine ⟨.pointer (some ⟨w.heap.size, 0, none⟩), _, _, .inl ?_, ?_, new_row h hv t⟩
  · simp [execOp, ho, Instr.box, newVar, newRow]
  · exact .ptr (d := 0) (upR_same ..)

theorem rangeAt_cell {B o : Nat} {vs : List Value} (h : w.rangeAt B o vs) : ∀ j v, vs[j]? = some v → w.cell? ((⟨B, o, none⟩ : Addr).add j) = some v := fun j v hv => by
  rw [Addr.add_mid]; exact h j v hv
theorem step_load_agg {o : Oper} {t b off : Nat} {x : Operand} {ti : TyI} {l : List AV} (ho : o.op = .load t x) (ht : TyOK P t ti) (hf : VlR ρ fv a) (h : HR ρ σ w) (hx : fv x = .ptr b off) (hk : isAggK ti.k = true) (hl : ldN σ b off ti.size = some l) :
    Does P o a ρ σ w (.agg l) σ := by
  have hp := hf.eval x
  rw [hx] at hp
  obtain ⟨B, d, z, hb, hv⟩ := hp.inv_ptr
  obtain ⟨hn, vs, hvs, hr⟩ := ldN_spec h hb hl
  refine .same h (v' := .agg vs.toArray) ?_ (.agg hvs)
  have hlen : vs.length = ti.size := by rw [← hvs.length]; exact hn
  have hload : (loadCells ⟨B, d + off, none⟩ vs.length).run P w = .ok vs.toArray w := run_loadCells_list (P := P) w ⟨B, d + off, none⟩ vs (rangeAt_cell hr)
  simp [execOp, ho, hv, Instr.loadAt, Instr.sureAddr, loadVar, ht.agg_run, hk, ht.size_run, ← hlen, hload]
theorem step_load_one {o : Oper} {t b off : Nat} {x : Operand} {ti : TyI} {v : AV} (ho : o.op = .load t x) (ht : TyOK P t ti) (hf : VlR ρ fv a) (h : HR ρ σ w) (hx : fv x = .ptr b off) (hk : isAggK ti.k = false) (hl : ld1 σ b off = some v) :
    Does P o a ρ σ w v σ := by
  have hp := hf.eval x
  rw [hx] at hp
  obtain ⟨B, d, z, hb, hv⟩ := hp.inv_ptr
  obtain ⟨v', hr, hc⟩ := ld1_spec h hb hl
  refine .same h (v' := v') ?_ hr
  simp [execOp, ho, hv, Instr.loadAt, Instr.sureAddr, loadVar, ht.agg_run, hk, hc]
theorem step_store {o : Oper} {t b off : Nat} {x y : Operand} {ti : TyI} {σ' : St} (ho : o.op = .store t x y) (ht : TyOK P t ti) (hf : VlR ρ fv a) (h : HR ρ σ w) (hx : fv x = .ptr b off) (hu : fv y ≠ .unk)
    (hlen : (fv y).cells.length = ti.size) (hs : stN σ b off (fv y).cells = some σ') : Does P o a ρ σ w (.tup []) σ' := by
  have hp := hf.eval x
  rw [hx] at hp
  obtain ⟨B, d, z, hb, hv⟩ := hp.inv_ptr
  have hy := (hf.eval y).cells hu
  obtain ⟨hpost, hth, h1⟩ := Post.store h hb hs hy
  refine ⟨undef, _, _, .inr ⟨?_, rfl⟩, .tup .nil, hpost⟩
  have hsz : (a.eval y).cells.size = ti.size := by rw [← hlen, hy.length]; simp
  have hst := run_storeCells_cells (P := P) B (d + off) (a.eval y).cells.toList 0 w (fun j hj => by simpa using (hth j hj).1) (fun j hj => by simpa using (hth j hj).2) h1
  simp only [Nat.add_zero] at hst
  simp [execOp, ho, hv, Instr.storeAt, Instr.sureAddr, storeVar, ht.size_run, hsz, hst]
theorem step_nilCheck {o : Oper} {x : Operand} {v : AV} (ho : o.op = .nilCheck x) (hf : VlR ρ fv a) (h : HR ρ σ w) (hx : fv x = v) (hv : (∃ b off, v = .ptr b off) ∨ (∃ f cs, v = .fn f cs)) : Does P o a ρ σ w v σ := by
  have hp := hf.eval x
  rw [hx] at hp
  rcases hv with ⟨b, off, rfl⟩ | ⟨f, cs, rfl⟩
  · obtain ⟨B, d, z, hb, hv⟩ := hp.inv_ptr
    refine .same h (v' := a.eval x) ?_ hp
    simp [execOp, ho, hv]
  · refine .same h (v' := a.eval x) ?_ hp
    cases hq : a.eval x <;> rw [hq] at hp <;> cases hp
    simp [execOp, ho, hq]
theorem step_binop {o : Oper} {op : BinOp} {t t2 : Nat} {x y : Operand} {r : AV} (ho : o.op = .binOp op t x y t2) (hf : VlR ρ fv a) (h : HR ρ σ w) (hr : binop op (fv x) (fv y) = some r) : Does P o a ρ σ w r σ := by
  have hx := hf.eval x
  have hy := hf.eval y
  obtain ⟨r', h1, h2⟩ := binop_sound (P := P) (t := t) (w := w) hx hy hr
  refine .same h (v' := r') ?_ h2
  have hg : (eqGuard op t x y (a.eval x) (a.eval y)).run P w = .ok () w := by
    unfold binop at hr
    refine eqGuard_scalar (fun c d e1 e2 => ?_) (fun e1 e2 => ?_)
    · rw [e1] at hx; rw [e2] at hy
      revert hr
      generalize fv x = u at hx ⊢
      generalize fv y = u' at hy ⊢
      cases hx <;> cases hy <;> simp
    · rw [e1] at hx; rw [e2] at hy
      revert hr
      generalize fv x = u at hx ⊢
      generalize fv y = u' at hy ⊢
      cases hx <;> cases hy <;> simp
  simp [execOp, ho, hg, h1]
theorem step_unop {o : Oper} {op : UnOp} {t : Nat} {x : Operand} {r : AV} (ho : o.op = .unOp op t x) (hf : VlR ρ fv a) (h : HR ρ σ w) (hr : unop op (fv x) = some r) : Does P o a ρ σ w r σ := by
  obtain ⟨r', h1, h2⟩ := unop_sound (P := P) (w := w) (hf.eval x) hr
  exact .same h (v' := r') (by simp [execOp, ho, h1]) h2
theorem step_extract {o : Oper} {x : Operand} {i : Nat} {l : List AV} {v : AV} (ho : o.op = .extract x i) (hf : VlR ρ fv a) (h : HR ρ σ w) (hx : fv x = .tup l) (hv : l[i]? = some v) : Does P o a ρ σ w v σ := by
  have hp := hf.eval x
  rw [hx] at hp
  obtain ⟨vs, e, hr⟩ := hp.inv_tup
  obtain ⟨v', h1, h2⟩ := hr.get i v hv
  exact .same h (v' := v') (by simp [execOp, ho, e, Instr.extract, h1]) h2
theorem step_makeFunc {o : Oper} {f : Nat} {first cap : Array Operand} (ho : o.op = .makeFunc (.func f) first cap) (hf : VlR ρ fv a) (h : HR ρ σ w) (he : first.isEmpty = true) : Does P o a ρ σ w (.fn f (cap.toList.map fv)) σ := by
  have h0 : first = #[] := by simpa using he
  refine .same h (v' := .func (.func f) #[] (cap.toList.map a.eval).toArray) ?_ (.fn (hf.evals _))
  simp only [execOp, ho, Instr.makeFunc, h0]
  cases cap; simp
theorem step_makeInterface {o : Oper} {t : Nat} {x : Operand} {ti : TyI} (ho : o.op = .makeInterface t x) (ht : TyOK P t ti) (hk : ti.k ≠ .iface) (hf : VlR ρ fv a) (h : HR ρ σ w) : Does P o a ρ σ w (.ifc t (fv x)) σ := by
  obtain ⟨d, hd, h2⟩ := ht.kind
  refine .same h (v' := .iface t (a.eval x)) ?_ (.ifc (hf.eval x))
  have : ∀ m, d ≠ .interface m := fun m e => by subst e; cases hq : ti.k <;> simp [hq, KOK] at h2; exact hk hq
  simp [execOp, ho, Instr.makeInterface, run_underlying hd]
end Go.Ev
end
