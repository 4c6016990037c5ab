/- The law of this seat holds of every input: a part of the proof (an evaluator that is proved to answer as the model does, and its runs by the kernel). -/
import GoSem.Dispatch
import Derived.Orders
set_option linter.unusedVariables false
set_option linter.unusedSimpArgs false
section
namespace Go.Ev
/-- A tree keyed by numbers. -/
inductive T (α : Type) where
  | e
  | n (v : Option α) (l r : T α)

namespace T
variable {α : Type}
def get : T α → Nat → Option α
  | .e, _ => none
  | .n v l r, k =>
    match k with
    | 0 => v
    | k + 1 => match k % 2 with
      | 0 => l.get (k / 2)
      | _ => r.get (k / 2)
def one : Nat → Nat → α → T α
  | 0, _, v => .n (some v) .e .e
  | f + 1, k, v =>
    match k with
    | 0 => .n (some v) .e .e
    | k + 1 => match k % 2 with
      | 0 => .n none (one f (k / 2) v) .e
      | _ => .n none .e (one f (k / 2) v)
def set : T α → Nat → α → T α
  | .e, k, v => one k k v
  | .n u l r, k, v =>
    match k with
    | 0 => .n (some v) l r
    | k + 1 => match k % 2 with
      | 0 => .n u (l.set (k / 2) v) r
      | _ => .n u l (r.set (k / 2) v)
def ofList (l : List α) : T α := go 0 l .e
where go : Nat → List α → T α → T α
  | _, [], t => t
  | i, x :: xs, t => go (i + 1) xs (t.set i x)
theorem get_one : ∀ (f k : Nat) (v : α), k < 2 ^ f → ∀ j, (one f k v).get j = if j = k then some v else none
  | 0, k, v, h, j => by
    have hk : k = 0 := by simpa using h
    subst hk
    cases j <;> simp [one, get]
    · split <;> rfl
  | f + 1, 0, v, _, j => by
    cases j <;> simp [one, get]
    · split <;> rfl
  | f + 1, k + 1, v, h, j => by
    have hk : k / 2 < 2 ^ f := by rw [Nat.pow_succ] at h; omega
    have ih := get_one f (k / 2) v hk
    have hm : k % 2 = 0 ∨ k % 2 = 1 := by omega
    cases j with
    | zero => rcases hm with hm | hm <;> simp [one, get, hm]
    | succ j =>
      have hj : j % 2 = 0 ∨ j % 2 = 1 := by omega
      rcases hm with hm | hm <;> rcases hj with hj | hj <;> simp only [one, get, hm, hj]
      · rw [ih]; by_cases e : j = k
        · subst e; simp
        · rw [if_neg (by omega), if_neg (by omega)]
      · rw [if_neg (by omega)]
      · rw [if_neg (by omega)]
      · rw [ih]; by_cases e : j = k
        · subst e; simp
        · rw [if_neg (by omega), if_neg (by omega)]
theorem get_set (t : T α) : ∀ (k : Nat) (v : α), ∀ j, (t.set k v).get j = if j = k then some v else t.get j := by
  induction t with
  | e => intro k v j; rw [set, get_one k k v Nat.lt_two_pow_self]; simp [get]
  | n u l r ihl ihr =>
    intro k v j
    cases k with
    | zero => cases j <;> simp [set, get]
    | succ k =>
      have hm : k % 2 = 0 ∨ k % 2 = 1 := by omega
      cases j with
      | zero => rcases hm with hm | hm <;> simp [set, get, hm]
      | succ j =>
        have hj : j % 2 = 0 ∨ j % 2 = 1 := by omega
        rcases hm with hm | hm <;> rcases hj with hj | hj <;> simp only [set, get, hm, hj]
        · rw [ihl]; by_cases e : j = k
          · subst e; simp
          · rw [if_neg (by omega), if_neg (by omega)]
        · rw [if_neg (by omega)]
        · rw [if_neg (by omega)]
        · rw [ihr]; by_cases e : j = k
          · subst e; simp
          · rw [if_neg (by omega), if_neg (by omega)]
end T
end Go.Ev
end
section
namespace Go.Ev

/-- A value of the evaluator: addresses name the evaluator's own blocks; a slice's capacity is known or not. -/
inductive AV where
  | int (k : IntKind) (n : Int)
  | low (k : IntKind) (m r : Nat)
  | bool (b : Bool)
  | str (s : List UInt8)
  | nilp
  | ptr (b o : Nat)
  | nils
  | sl (b o n : Nat) (c : Option Nat) (e : Nat)
  | esl
  | agg (cs : List AV)
  | tup (vs : List AV)
  | fn (f : Nat) (cs : List AV)
  | nilf
  | nili
  | ifc (t : Nat) (v : AV)
  | unk
  deriving Inhabited

def AV.cells : AV → List AV
  | .agg cs => cs
  | v => [v]

inductive Blk where
  | row (cells : List AV) (elem : Nat) (ro : Bool)
  | iter (s : List UInt8) (pos : Nat)
  | dead
  deriving Inhabited

structure St where
  h : T Blk
  next : Nat
  log : List Nat

/-- what the evaluator knows of a type -/
inductive TK where
  | bool | int (k : IntKind) | string | ptr (e : Nat) | slice (e : Nat) | struct (fs : List (Nat × Nat)) | arr (n e : Nat) | iface | func | uptr | other
structure TyI where
  k : TK
  size : Nat
  zero : List AV
  bytes : Nat
  flat : Bool

/-- an operation of a region with a draw, at its place in the order that is carried out -/
structure DOp where
  i : Nat
  heavy : Bool
  anc : List Nat
structure FnI where
  ords : List (Nat × List DOp)
  code : Code
  results : List ResultVar
  ntmps : Nat

structure Env where
  g : Nat
  ty : Nat → Option TyI
  fn : Nat → Option FnI
  prim : Nat → Option (List AV → St → Option (AV × St))

structure Fr where
  t : T AV
  n : Nat
  g : Nat

def Fr.get (fr : Fr) (t : Nat) : AV := match fr.t.get t with | some v => v | none => .tup []

def ofValue : Value → AV
  | .bool b => .bool b
  | .int k n => .int k n
  | .string s => .str s.data.toList
  | .pointer none => .nilp
  | .slice none 0 0 => .nils
  | .nilFunc => .nilf
  | .nilIface => .nili
  | .agg ⟨cs⟩ => .agg (cs.map ofConst)
  | .tuple ⟨[]⟩ => .tup []
  | _ => .unk
where ofConst : Value → AV
  | .bool b => .bool b
  | .int k n => .int k n
  | .string s => .str s.data.toList
  | .pointer none => .nilp
  | .slice none 0 0 => .nils
  | .nilFunc => .nilf
  | .nilIface => .nili
  | _ => .unk

def Fr.val (fr : Fr) : Operand → AV
  | .tmp t => fr.get t
  | .const v => ofValue v
  | .global g => if Nat.blt g fr.g then .ptr g 0 else .unk
  | .func f => .fn f []

def St.get (σ : St) (b : Nat) : Blk :=
  if Nat.blt b σ.next then match σ.h.get b with | some x => x | none => .dead else .dead
def St.new (σ : St) (x : Blk) : St := { h := σ.h.set σ.next x, next := σ.next + 1, log := σ.log }
def St.upd (σ : St) (b : Nat) (x : Blk) : St := { h := σ.h.set b x, next := σ.next, log := match σ.log with | [] => [b] | c :: l => if Nat.beq c b then c :: l else b :: c :: l }

def ldN (σ : St) (b o n : Nat) : Option (List AV) :=
  match σ.get b with
  | .row cells _ _ => let l := (cells.drop o).take n; if Nat.beq l.length n then some l else none
  | _ => none
def ld1 (σ : St) (b o : Nat) : Option AV :=
  match σ.get b with
  | .row cells _ _ => cells[o]?
  | _ => none
def putL : List AV → Nat → List AV → Option (List AV)
  | l, _, [] => some l
  | _ :: l, 0, v :: vs => match putL l 0 vs with | some l' => some (v :: l') | none => none
  | x :: l, o + 1, vs => match putL l o vs with | some l' => some (x :: l') | none => none
  | [], _, _ :: _ => none
def oneCell : AV → Bool
  | .agg _ | .tup _ | .unk => false
  | _ => true
def stN (σ : St) (b o : Nat) (vs : List AV) : Option St :=
  match σ.get b with
  | .row cells e false => match putL cells o vs with
    | some l => if vs.all oneCell then some (σ.upd b (.row l e false)) else none
    | none => none
  | _ => none

def isAggK : TK → Bool
  | .struct _ | .arr .. => true
  | _ => false

/-- equality of values without addresses -/
def eqS : List UInt8 → List UInt8 → Bool
  | [], [] => true
  | a :: x, b :: y => Nat.beq a.toNat b.toNat && eqS x y
  | _, _ => false
def lessS : List UInt8 → List UInt8 → Bool
  | _, [] => false
  | [], _ :: _ => true
  | a :: x, b :: y => if Nat.blt a.toNat b.toNat then true else Nat.beq a.toNat b.toNat && lessS x y
def eq1 : AV → AV → Option Bool
  | .int _ a, .int _ b => some (decide (a = b))
  | .bool a, .bool b => some (a == b)
  | .str a, .str b => some (eqS a b)
  | _, _ => none
def eqL : List AV → List AV → Option Bool
  | [], [] => some true
  | a :: x, b :: y => match eq1 a b with
    | some true => eqL x y
    | some false => match eqL x y with | some _ => some false | none => none
    | none => none
  | _, _ => none
def b1 (k : IntKind) (op : Nat → Nat → Nat) (x y : Int) : Int :=
  k.wrap (op ((x % (2 ^ k.bits : Int)).toNat) ((y % (2 ^ k.bits : Int)).toNat) : Nat)
def binop (op : BinOp) (x y : AV) : Option AV :=
  match op, x, y with
  | .shl, .int k a, .int _ b => if b < 0 then none else some (.int k (k.wrap (a * 2 ^ (min b.toNat k.bits))))
  | .shr, .int k a, .int _ b => if b < 0 then none else some (.int k (a.fdiv (2 ^ (min b.toNat k.bits))))
  | .add, .int k a, .int k' b => if k = k' then some (.int k (k.wrap (a + b))) else none
  | .sub, .int k a, .int k' b => if k = k' then some (.int k (k.wrap (a - b))) else none
  | .mul, .int k a, .int k' b => if k = k' then some (.int k (k.wrap (a * b))) else none
  | .quo, .int k a, .int k' b => if k = k' then (if b = 0 then none else some (.int k (k.wrap (a.tdiv b)))) else none
  | .rem, .int k a, .int k' b => if k = k' then (if b = 0 then none else some (.int k (a.tmod b))) else none
  | .and, .int k a, .int k' b => if k = k' then some (.int k (b1 k Nat.land a b)) else none
  | .or, .int k a, .int k' b => if k = k' then some (.int k (b1 k Nat.lor a b)) else none
  | .xor, .int k a, .int k' b => if k = k' then some (.int k (b1 k Nat.xor a b)) else none
  | .lss, .int k a, .int k' b => if k = k' then some (.bool (decide (a < b))) else none
  | .leq, .int k a, .int k' b => if k = k' then some (.bool (decide (a ≤ b))) else none
  | .gtr, .int k a, .int k' b => if k = k' then some (.bool (decide (b < a))) else none
  | .geq, .int k a, .int k' b => if k = k' then some (.bool (decide (b ≤ a))) else none
  | .add, .str a, .str b => if Nat.ble (a.length + b.length) 9223372036854775807 then some (.str (a ++ b)) else none
  | .lss, .str a, .str b => some (.bool (lessS a b))
  | .leq, .str a, .str b => some (.bool (lessS a b || eqS a b))
  | .gtr, .str a, .str b => some (.bool (!(lessS a b || eqS a b)))
  | .geq, .str a, .str b => some (.bool (!(lessS a b)))
  | .eql, .int k a, .int k' b => if k = k' then some (.bool (decide (a = b))) else none
  | .neq, .int k a, .int k' b => if k = k' then some (.bool (!decide (a = b))) else none
  | .eql, .str a, .str b => some (.bool (eqS a b))
  | .neq, .str a, .str b => some (.bool (!eqS a b))
  | .and, .low k m r, .int k' b => if m < 1000 then (if k = k' ∧ 0 ≤ b ∧ b < 2 ^ m then some (.int k (b1 k Nat.land r b)) else none) else if k = k' ∧ b = 255 ∧ m < 2000 ∧ 8 < k.bits then some (.low k (m + 1000) r) else none
  | .shr, .low k m r, .int _ b => if m < 1000 ∧ 0 ≤ b ∧ b ≤ m then some (.low k (m - b.toNat) (r / 2 ^ b.toNat)) else none
  | .rem, .low k m r, .int k' b => if k = k' ∧ 2000 < m ∧ m < 3000 ∧ b = ((m - 2000 : Nat) : Int) then some (.int k r) else none
  | .leq, .int k a, .low k' m r => if k = k' then (if m = 3000 ∧ (r : Int) ≤ a then some (.bool false) else if m = 3001 ∧ a ≤ r then some (.bool true) else none) else none
  | _, _, _ => none

def unop (op : UnOp) (x : AV) : Option AV :=
  match op, x with
  | .neg, .int k n => some (.int k (k.wrap (0 - n)))
  | .xor, .int k n => some (.int k (b1 k Nat.xor (if k.signed then -1 else k.max) n))
  | .not, .bool b => some (.bool !b)
  | _, _ => none

def ofNats (l : List Nat) : List UInt8 := l.map UInt8.ofNat
def bytesOf (s : List UInt8) : List AV := s.map fun b => .int .u8 b.toNat
def toBytes : List AV → Option (List UInt8)
  | [] => some []
  | .int .u8 n :: l => if 0 ≤ n ∧ n < 256 then (match toBytes l with | some s => some (UInt8.ofNat n.toNat :: s) | none => none) else none
  | _ => none
def runesToS : List AV → Option (List UInt8)
  | [] => some []
  | .int .i32 n :: l => match runesToS l with | some s => some ((Utf8.encode n).data.toList ++ s) | none => none
  | _ => none

def slCells (σ : St) (size : Nat) : AV → Option (List AV)
  | .nils => some []
  | .esl => some []
  | .sl b o n _ e => if Nat.beq e size then ldN σ b o (n * e) else none
  | .str s => if Nat.beq size 1 then some (bytesOf s) else none
  | _ => none

def slLen : AV → Option Nat
  | .nils => some 0
  | .esl => some 0
  | .sl _ _ n _ _ => some n
  | _ => none
def kInt (E : Env) (t : Nat) : Option IntKind := match E.ty t with
  | some ti => match ti.k with
    | .int k => some k
    | _ => none
  | none => none
def convert (E : Env) (src dst : Nat) (x : AV) (σ : St) : Option (AV × St) :=
  match E.ty src, E.ty dst with
  | some s, some d =>
    match s.k, d.k, x with
    | _, .int k, .int _ n => some (.int k (k.wrap n), σ)
    | _, .string, .str s => some (.str s, σ)
    | _, .slice e, .str s => match kInt E e with
      | some .u8 => some (.sl σ.next 0 s.length none 1, σ.new (.row (bytesOf s) e false))
      | _ => none
    | .slice e, .slice e', .sl b o n c w => match kInt E e' with
      | some .u8 => if Nat.beq src dst then (match σ.get b with
        | .row cells e false => some (.sl b o n c w, σ.upd b (.row cells e true))
        | _ => none) else none
      | _ => none
    | .slice e, .string, x => match slLen x, kInt E e, slCells σ 1 x with
      | some _, some .u8, some l => match toBytes l with | some s => some (.str s, σ) | none => none
      | some _, some .i32, some l => match runesToS l with | some s => some (.str s, σ) | none => none
      | _, _, _ => none
    | .ptr t, .uptr, .ptr b o => match σ.get b, E.ty t with
      | .row cells _ false, some tt => if Nat.beq tt.size 0 then none else if Nat.blt o cells.length then some (.ptr b o, σ) else none
      | _, _ => none
    | .uptr, .ptr u, .ptr b 0 => match σ.get b, E.ty u with
      | .row cells e false, some tu => if Nat.beq tu.size 0 then none else if Nat.beq e u && Nat.ble tu.size cells.length then some (.ptr b 0, σ) else none
      | _, _ => none
    | _, _, _ => none
  | _, _ => none

def isUnk : AV → Bool
  | .unk => true
  | _ => false
def fillC (place : Nat → Option (Nat × Nat)) : List AV → List (Nat × AV) → Option (List AV)
  | cells, [] => some cells
  | cells, (i, v) :: rest =>
    match place i with
    | none => none
    | some (off, size) =>
      if isUnk v || Nat.beq size 0 then none else
      if Nat.beq v.cells.length size then match putL cells off v.cells with
        | some l => fillC place l rest
        | none => none
      else none

def nth {α : Type} : List α → Nat → Option α
  | [], _ => none
  | x :: _, 0 => some x
  | _ :: l, n + 1 => nth l n

def parts (val : Operand → AV) (ps : Array (Nat × Operand)) : List (Nat × AV) := ps.toList.map fun (i, x) => (i, val x)

def rep (n : Nat) (z : List AV) : List AV := match n with
  | 0 => []
  | n + 1 => z ++ rep n z

def numO (v : Option AV) (d : Nat) : Option Nat := match v with
  | none => some d
  | some (.int _ i) => if 0 ≤ i then some i.toNat else none
  | _ => none
def evSlice (E : Env) (t : Nat) (x : AV) (lo hi mx : Option AV) (σ : St) : Option (AV × St) :=
  match E.ty t with
  | none => none
  | some ti =>
  match ti.k, x with
  | .string, .str s =>
    match mx, numO lo 0, numO hi s.length with
    | none, some l, some h => if Nat.ble l h && Nat.ble h s.length then some (.str ((s.drop l).take (h - l)), σ) else none
    | _, _, _ => none
  | .slice el, .nils => match E.ty el with
    | none => none
    | some _ => match numO lo 0, numO hi 0, numO mx 0 with
      | some 0, some 0, some 0 => if mx.isSome && hi.isNone then none else some (.nils, σ)
      | _, _, _ => none
  | .slice el, .esl => match E.ty el with
    | none => none
    | some _ => match numO lo 0, numO hi 0, mx with
      | some 0, some 0, none => some (.esl, σ)
      | _, _, _ => none
  | .slice el, .sl b o n c e =>
    match E.ty el with
    | none => none
    | some te =>
    if Nat.beq te.size e then
    match numO lo 0, numO hi n with
    | some l, some h =>
      match mx with
      | none =>
        match c with
        | some c => if Nat.ble l h && Nat.ble h c then some (.sl b (if Nat.beq c l then o else o + l * e) (h - l) (some (c - l)) e, σ) else none
        | none =>
          if Nat.ble l h && Nat.ble h n then
            if Nat.blt l n || Nat.beq l 0 then some (.sl b (o + l * e) (h - l) none e, σ) else some (.esl, σ)
          else none
      | some m =>
        match numO (some m) 0 with
        | some m => if hi.isSome && (Nat.ble l h && Nat.ble h m && Nat.ble m (c.getD n)) then some (.sl b (if Nat.beq m l then o else o + l * e) (h - l) (some (m - l)) e, σ) else none
        | none => none
    | _, _ => none
    else none
  | .arr n e', .ptr b o =>
    match E.ty e', numO lo 0, numO hi n, mx with
    | some te, some l, some h, none =>
      if Nat.ble l h && Nat.ble h n then
        match σ.get b with
        | .row cells _ _ => if Nat.ble (o + n * te.size) cells.length then some (.sl b (if Nat.beq n l then o else o + l * te.size) (h - l) (some (n - l)) te.size, σ) else none
        | _ => none
      else none
    | _, _, _, _ => none
  | _, _ => none

def lenOf : AV → Option Nat
  | .nils => some 0
  | .esl => some 0
  | .sl _ _ n _ _ => some n
  | .str s => some s.length
  | _ => none

/-- append: what is appended, laid behind the slice -/
def evAppend (s : AV) (elem e by_ : Nat) (n : Nat) (new : List AV) (σ : St) : Option (AV × St) :=
  match s with
  | .nils => if Nat.beq n 0 then some (.nils, σ) else
    if Nat.ble (n * (by_ + 1)) 1048576 then some (.sl σ.next 0 n none e, σ.new (.row new elem false)) else none
  | .esl => if Nat.beq n 0 then some (.esl, σ) else none
  | .sl b o m c e' =>
    if Nat.beq e' e then
    if Nat.beq n 0 then some (.sl b o m c e', σ) else
    if Nat.ble ((m + n) * (by_ + 1)) 1048576 then
    match c with
    | some c =>
      if Nat.ble (m + n) c then
        match stN σ b (o + m * e) new with
        | some σ' => some (.sl b o (m + n) (some c) e, σ')
        | none => none
      else match ldN σ b o (m * e) with
        | some old => some (.sl σ.next 0 (m + n) none e, σ.new (.row (old ++ new) elem false))
        | none => none
    | none =>
      match σ.get b with
      | .row cells el false =>
        let old := (cells.drop o).take (m * e)
        if Nat.beq old.length (m * e) && (Nat.beq el elem && Nat.beq o 0) then
          let σ1 := σ.upd b .dead
          some (.sl σ1.next 0 (m + n) none e, σ1.new (.row (old ++ new) elem false))
        else none
      | _ => none
    else none
    else none
  | _ => none

def evBuiltin (E : Env) (bi : Builtin) (argTypes : List Nat) (args : List AV) (σ : St) : Option (AV × St) :=
  match bi, argTypes, args with
  | .len, [t], [x] => match E.ty t with
    | none => none
    | some ti => match ti.k, x with
      | .arr n _, _ => some (.int .i64 n, σ)
      | .string, .str s => some (.int .i64 s.length, σ)
      | .slice _, .nils => some (.int .i64 0, σ)
      | .slice _, .esl => some (.int .i64 0, σ)
      | .slice _, .sl _ _ n _ _ => some (.int .i64 n, σ)
      | _, _ => none
  | .cap, [t], [x] => match E.ty t with
    | none => none
    | some ti => match ti.k, x with
      | .slice _, .nils => some (.int .i64 0, σ)
      | .slice _, .sl _ _ _ (some c) _ => some (.int .i64 c, σ)
      | _, _ => none
  | .append, [t, u], [s, x] => match E.ty t, E.ty u with
    | some ti, some tu => match ti.k with
      | .slice elem => match E.ty elem with
        | some te => match tu.k with
          | .slice _ | .string => match lenOf x, slCells σ te.size x with
            | some n, some l => if l.all oneCell then evAppend s elem te.size te.bytes n l σ else none
            | _, _ => none
          | _ => none
        | none => none
      | _ => none
    | _, _ => none
  | .copy, [t, u], [d, x] => match E.ty t, E.ty u with
    | some ti, some tu => match ti.k with
      | .slice elem => match E.ty elem with
        | some te => match tu.k with
          | .slice _ | .string => match slLen d, lenOf x, slCells σ te.size x with
            | some n, some m, some l => if l.all oneCell then
              let k := min m n
              if Nat.beq k 0 then some (.int .i64 0, σ) else
              match d with
              | .sl b o _ _ e => if Nat.beq e te.size then (match stN σ b o (l.take (k * te.size)) with
                | some σ' => some (.int .i64 k, σ')
                | none => none) else none
              | _ => none
              else none
            | _, _, _ => none
          | _ => none
        | none => none
      | _ => none
    | _, _ => none
  | .min, _, [.int k x, .int _ y] => some (.int k (if y < x then y else x), σ)
  | .max, _, [.int k x, .int _ y] => some (.int k (if x < y then y else x), σ)
  | .unsafeSliceData, _, [.nils] => some (.nilp, σ)
  | .unsafeSliceData, _, [.sl b o n _ _] => if Nat.beq n 0 then none else some (.ptr b o, σ)
  | .unsafeString, [_, _], [.nilp, .int .i64 0] => some (.str [], σ)
  | .unsafeString, [pt, _], [.ptr b 0, .int .i64 n] =>
    if n ≤ 0 ∨ 9223372036854775807 < n then none else
    match E.ty pt with
    | none => none
    | some ti => match ti.k with
      | .ptr u => match σ.get b, E.ty u with
        | .row cells e false, some tu => if Nat.beq e u && Nat.beq tu.size 1 then (match ldN σ b 0 n.toNat with
          | some l => match toBytes l with
            | some s => some (.str s, σ.upd b (.row cells e true))
            | none => none
          | none => none) else none
        | _, _ => none
      | _ => none
  | _, _, _ => none

inductive Todo where
  | val (v : AV) (σ : St)
  | call (f : Nat) (args : List AV)

def isConstO : Operand → Bool
  | .const _ => true
  | _ => false

def sameK : AV → AV → Bool
  | .int k _, .int k' _ => decide (k = k')
  | .bool _, .bool _ => true
  | .str _, .str _ => true
  | _, _ => false
def allK : List AV → List AV → Bool
  | [], [] => true
  | a :: l, b :: m => sameK a b && allK l m
  | _, _ => false
/-- '==' where the type tells what is compared -/
def eqT (E : Env) (t : Nat) (cst : Bool) (x y : AV) : Option Bool :=
  match E.ty t with
  | none => none
  | some ti => match ti.k, x, y with
    | .bool, .bool a, .bool b => some (a == b)
    | .ptr _, .nilp, .nilp => some true
    | .ptr _, .nilp, .ptr _ _ => some false
    | .ptr _, .ptr _ _, .nilp => some false
    | .ptr e, .ptr b o, .ptr b' o' => match E.ty e with
      | some _ => if Nat.beq b b' && Nat.beq o o' then some true else none
      | none => none
    | .slice _, .nils, .nils => some true
    | .slice _, .nils, .sl .. => some false
    | .slice _, .sl .., .nils => some false
    | .slice _, .nils, .esl => some false
    | .slice _, .esl, .nils => some false
    | .func, .nilf, .nilf => some true
    | .func, .nilf, .fn .. => some false
    | .func, .fn .., .nilf => some false
    | .iface, .nili, .nili => if cst then some true else none
    | .iface, .nili, .ifc .. => some false
    | .iface, .ifc .., .nili => some false
    | .struct _, .agg a, .agg b => if ti.flat && (allK ti.zero a && allK ti.zero b) then eqL a b else none
    | _, _, _ => none

def valO (r : Option AV) (σ : St) : Option Todo := match r with | some x => some (.val x σ) | none => none
def valS (r : Option (AV × St)) : Option Todo := match r with | some (x, s) => some (.val x s) | none => none
/-- one operation -/
def evOp (E : Env) (val : Operand → AV) (o : Op) (σ : St) : Option Todo :=
  match o with
  | .move x | .assign x => some (.val (val x) σ)
  | .pick c a b => match val c with
    | .bool true => some (.val (val a) σ)
    | .bool false => some (.val (val b) σ)
    | _ => none
  | .alloc t => match E.ty t with
    | some ti => some (.val (.ptr σ.next 0) (σ.new (.row ti.zero t false)))
    | none => none
  | .box t x => if isUnk (val x) then none else some (.val (.ptr σ.next 0) (σ.new (.row (val x).cells t false)))
  | .build t ps => match E.ty t with
    | some ti => match ti.k with
      | .struct fs => match fillC (fun i => match nth fs i with
          | some (off, ft) => match E.ty ft with | some f => some (off, f.size) | none => none
          | none => none) ti.zero (parts val ps) with
        | some l => some (.val (.agg l) σ)
        | none => none
      | .arr _ e => match E.ty e with
        | some te => match fillC (fun i => some (i * te.size, te.size)) ti.zero (parts val ps) with
          | some l => some (.val (.agg l) σ)
          | none => none
        | none => none
      | _ => none
    | none => none
  | .buildSlice t n ps => match E.ty t with
    | none => none
    | some ti => match ti.k with
      | .slice e => match E.ty e with
        | some te => match fillC (fun i => some (i * te.size, te.size)) (rep n te.zero) (parts val ps) with
          | some l => if Nat.ble (n * te.size) 16777216 then some (.val (.sl σ.next 0 n (some n) te.size) (σ.new (.row l e false))) else none
          | none => none
        | none => none
      | _ => none
  | .load t a => match E.ty t, val a with
    | some ti, .ptr b o => if isAggK ti.k then (match ldN σ b o ti.size with | some l => some (.val (.agg l) σ) | none => none) else valO (ld1 σ b o) σ
    | _, _ => none
  | .store t a x => match E.ty t, val a with
    | some ti, .ptr b o =>
      if isUnk (val x) then none else
      if Nat.beq (val x).cells.length ti.size then (match stN σ b o (val x).cells with | some s => some (.val (.tup []) s) | none => none) else none
    | _, _ => none
  | .nilCheck x => match val x with
    | .ptr b o => some (.val (.ptr b o) σ)
    | .fn f cs => some (.val (.fn f cs) σ)
    | _ => none
  | .binOp op t x y _ => match binop op (val x) (val y) with
    | some r => some (.val r σ)
    | none => match op with
      | .eql => (match eqT E t (isConstO x || isConstO y) (val x) (val y) with | some b => some (.val (.bool b) σ) | none => none)
      | .neq => (match eqT E t (isConstO x || isConstO y) (val x) (val y) with | some b => some (.val (.bool (!b)) σ) | none => none)
      | _ => none
  | .unOp op _ x => valO (unop op (val x)) σ
  | .convert s d x => valS (convert E s d (val x) σ)
  | .makeInterface t x => match E.ty t with
    | none => none
    | some ti => match ti.k with
      | .iface => none
      | _ => some (.val (.ifc t (val x)) σ)
  | .makeFunc (.func f) first cap => if first.isEmpty then some (.val (.fn f (cap.toList.map val)) σ) else none
  | .makeSlice t l c => match E.ty t, val l, val c with
    | some ti, .int .i64 l, .int .i64 c => match ti.k with
      | .slice e => match E.ty e with
        | some te => if 0 ≤ l ∧ l ≤ c ∧ c ≤ 65536 ∧ (te.bytes : Int) * c ≤ 65536 then
            some (.val (.sl σ.next 0 l.toNat (some c.toNat) te.size) (σ.new (.row (rep c.toNat te.zero) e false))) else none
        | none => none
      | _ => none
    | _, _, _ => none
  | .slice t x lo hi mx => valS (evSlice E t (val x) (lo.map val) (hi.map val) (mx.map val) σ)
  | .fieldAddr t x f => match E.ty t, val x with
    | some ti, .ptr b o => match ti.k with
      | .struct fs => match nth fs f with
        | some (off, ft) => match E.ty ft with
          | some tf => if Nat.beq tf.size 0 then none else some (.val (.ptr b (o + off)) σ)
          | none => none
        | none => none
      | _ => none
    | _, _ => none
  | .field t x f => match E.ty t, val x with
    | some ti, .agg cs => match ti.k with
      | .struct fs => match nth fs f with
        | some (off, ft) => match E.ty ft with
          | some tf => if isAggK tf.k then some (.val (.agg ((cs.drop off).take tf.size)) σ) else valO (nth cs off) σ
          | none => none
        | none => none
      | _ => none
    | _, _ => none
  | .indexAddr t x i => match E.ty t, val i with
    | some ti, .int _ i => if 0 ≤ i then (match ti.k, val x with
      | .slice e, .sl b o n _ _ => match E.ty e with
        | some te => if Nat.blt i.toNat n then some (.val (.ptr b (o + i.toNat * te.size)) σ) else none
        | none => none
      | .arr n e, .ptr b o => match E.ty e with
        | some te => if Nat.blt i.toNat n then some (.val (.ptr b (o + i.toNat * te.size)) σ) else none
        | none => none
      | _, _ => none) else none
    | _, _ => none
  | .index t x i => match E.ty t, val i with
    | some ti, .int _ i => if 0 ≤ i then (match ti.k, val x with
      | .string, .str s => match nth s i.toNat with | some c => some (.val (.int .u8 c.toNat) σ) | none => none
      | .arr n e, .agg cs => match E.ty e with
        | some te => if Nat.blt i.toNat n then (if isAggK te.k then some (.val (.agg ((cs.drop (i.toNat * te.size)).take te.size)) σ) else valO (nth cs (i.toNat * te.size)) σ) else none
        | none => none
      | _, _ => none) else none
    | _, _ => none
  | .extract x i => match val x with
    | .tup l => valO (nth l i) σ
    | _ => none
  | .range t x => match E.ty t with
    | none => none
    | some ti => match ti.k, val x with
      | .string, .str s => some (.val (.ptr σ.next 0) (σ.new (.iter s 0)))
      | _, _ => none
  | .next it true => match val it with
    | .ptr b 0 => match σ.get b with
      | .iter s pos => if Nat.blt pos s.length then
          let r := Utf8.decode ⟨⟨s⟩⟩ pos
          some (.val (.tup [.bool true, .int .i64 pos, .int .i32 r.1]) (σ.upd b (.iter s (pos + r.2))))
        else some (.val (.tup [.bool false]) σ)
      | _ => none
    | _ => none
  | .call c =>
    let args := c.args.toList.map val
    match c.callee with
    | .builtin b => valS (evBuiltin E b c.argTypes.toList args σ)
    | .value f => match val f with
      | .fn f cs => some (.call f (args ++ cs))
      | _ => none
    | .invoke _ _ => none
  | _ => none

inductive Out where
  | norm
  | exit (id : Nat)
  | ret

def yield (ops : Array Oper) (fr : Fr) (j : Nat) : Option Bool :=
  match (nth ops.toList j) with
  | some o => match o.dst with
    | some d => if Nat.blt d fr.n then (match fr.get d with | .bool b => some b | _ => none) else none
    | none => none
  | none => none

def Fr.put (fr : Fr) (dst : Option Nat) (v : AV) : Option Fr :=
  match dst with
  | none => some fr
  | some d => if Nat.blt d fr.n then some { t := fr.t.set d v, n := fr.n, g := fr.g } else none

/-- is the guard met? none: it can't be told -/
def guardOk (ops : Array Oper) (fr : Fr) : Option (Nat × Bool) → Option Bool
  | none => some true
  | some (j, w) => match yield ops fr j with
    | some b => some (b == w)
    | none => match nth ops.toList j with
      | some o => match o.dst with
        | some d => match fr.get d with
          | .tup _ => some false
          | _ => none
        | none => none
      | none => none

abbrev CallF := Nat → List AV → St → Option (AV × St)

def evOps (E : Env) (call : CallF) (ops : Array Oper) : List Oper → Fr → St → Option (Fr × St)
  | [], fr, σ => some (fr, σ)
  | o :: rest, fr, σ =>
    match guardOk ops fr o.guard with
    | some true =>
      match evOp E fr.val o.op σ with
      | some (.val v σ') => match fr.put o.dst v with
        | some fr' => evOps E call ops rest fr' σ'
        | none => none
      | some (.call f args) => match call f args σ with
        | some (v, σ') => match fr.put o.dst v with
          | some fr' => evOps E call ops rest fr' σ'
          | none => none
        | none => none
      | none => none
    | some false => match fr.put o.dst (.tup []) with
      | some fr' => evOps E call ops rest fr' σ
      | none => none
    | none => none

/-- operations that may be carried out at any time: what they read is not turned, what they make is their own -/
def hoistPure (E : Env) : Op → Bool
  | .move _ | .assign _ | .pick .. | .build .. | .nilCheck _ | .binOp .. | .unOp .. | .makeInterface .. | .makeFunc .. | .fieldAddr .. | .field .. | .indexAddr .. | .index .. | .extract .. | .load .. | .slice .. => true
  | .convert _ d _ => match E.ty d with
    | some ti => match ti.k with
      | .int _ | .string => true
      | _ => false
    | none => false
  | .call c => match c.callee with
    | .builtin .len | .builtin .cap | .builtin .min | .builtin .max => true
    | _ => false
  | _ => false
def hoistFresh : Op → Bool
  | .alloc _ | .box .. | .buildSlice .. => true
  | _ => false
mutual
/-- the same, to the letter -/
def eqAV : AV → AV → Bool
  | .int k a, .int k' b => decide (k = k') && decide (a = b)
  | .bool a, .bool b => a == b
  | .str a, .str b => eqS a b
  | .nilp, .nilp => true
  | .ptr b o, .ptr b' o' => Nat.beq b b' && Nat.beq o o'
  | .nils, .nils => true
  | .sl b o n none e, .sl b' o' n' none e' => Nat.beq b b' && Nat.beq o o' && Nat.beq n n' && Nat.beq e e'
  | .sl b o n (some c) e, .sl b' o' n' (some c') e' => Nat.beq b b' && Nat.beq o o' && Nat.beq n n' && Nat.beq c c' && Nat.beq e e'
  | .esl, .esl => true
  | .agg l, .agg m => eqAVs l m
  | .tup l, .tup m => eqAVs l m
  | .fn f l, .fn g m => Nat.beq f g && eqAVs l m
  | .nilf, .nilf => true
  | .nili, .nili => true
  | .ifc t v, .ifc u x => Nat.beq t u && eqAV v x
  | .unk, .unk => true
  | _, _ => false
def eqAVs : List AV → List AV → Bool
  | [], [] => true
  | a :: l, b :: m => eqAV a b && eqAVs l m
  | _, _ => false
end
/-- what such an operation reads: block, place, how many cells; of a place none, the block stands for all of it -/
structure Touch where
  b : Nat
  o : Nat
  n : Option Nat
def slTouch : AV → Option Touch
  | .sl b o n _ e => some ⟨b, o, some (n * e)⟩
  | _ => none
/-- what an operation that may be carried out at any time reads -/
def touch (E : Env) (val : Operand → AV) : Op → Option Touch
  | .load t x => match val x, E.ty t with
    | .ptr b o, some ti => some ⟨b, o, some (if isAggK ti.k then ti.size else 1)⟩
    | _, _ => none
  | .slice _ x _ _ _ => match val x with
    | .ptr b o => some ⟨b, o, none⟩
    | _ => none
  | .convert _ _ x => slTouch (val x)
  | _ => none
def memN : List Nat → Nat → Bool
  | [], _ => false
  | x :: l, b => if Nat.beq x b then true else memN l b
def sameCells (σ σ1 : St) (x : Touch) : Bool := match x.n with
  | none => false
  | some n => match σ.get x.b, σ1.get x.b with
    | .row c _ _, .row d _ _ => eqAVs ((c.drop x.o).take n) ((d.drop x.o).take n)
    | _, _ => false
/-- nothing of what waits has been turned by what does not wait for it -/
def apartLog (anc : List Nat) (σ σ1 : St) : List (Nat × Touch) → Bool
  | [] => true
  | (j, x) :: l => (memN anc j || ((Nat.blt x.b σ.next && !memN σ1.log x.b) || sameCells σ σ1 x)) && apartLog anc σ σ1 l

def evDraw (E : Env) (call : CallF) (ops : Array Oper) : List DOp → List (Nat × Touch) → Fr → St → Option (Fr × St)
  | [], _, fr, σ => some (fr, σ)
  | x :: rest, pend, fr, σ =>
    match nth ops.toList x.i with
    | none => none
    | some o =>
      match guardOk ops fr o.guard with
      | some false => match fr.put o.dst (.tup []) with
        | some fr' => evDraw E call ops rest pend fr' σ
        | none => none
      | some true =>
        if x.heavy then
          match evOp E fr.val o.op { h := σ.h, next := σ.next, log := [] } with
          | some (.val v σ1) =>
            if apartLog x.anc σ σ1 pend then match fr.put o.dst v with
              | some fr' => evDraw E call ops rest pend fr' { h := σ1.h, next := σ1.next, log := σ1.log ++ σ.log }
              | none => none
            else none
          | some (.call f args) => match call f args { h := σ.h, next := σ.next, log := [] } with
            | some (v, σ1) =>
              if apartLog x.anc σ σ1 pend then match fr.put o.dst v with
                | some fr' => evDraw E call ops rest pend fr' { h := σ1.h, next := σ1.next, log := σ1.log ++ σ.log }
                | none => none
              else none
            | none => none
          | none => none
        else if hoistPure E o.op then
          match evOp E fr.val o.op σ with
          | some (.val v _) => match fr.put o.dst v with
            | some fr' => match touch E fr.val o.op with
              | some t => if Nat.blt t.b σ.next then evDraw E call ops rest ((x.i, t) :: pend) fr' σ else none
              | none => evDraw E call ops rest pend fr' σ
            | none => none
          | _ => none
        else if hoistFresh o.op then
          match evOp E fr.val o.op σ with
          | some (.val v σ1) => match fr.put o.dst v with
            | some fr' => evDraw E call ops rest ((x.i, ⟨σ.next, 0, none⟩) :: pend) fr' σ1
            | none => none
          | _ => none
        else none
      | none => none

/-- what an operation must wait for -/
def depsOf (o : Oper) : List Nat := (o.after.toList.filter (Region.binds .any)).map (·.on)
def subN : List Nat → List Nat → Bool
  | [], _ => true
  | x :: l, m => memN m x && subN l m
def looksB (ops : Array Oper) (x y : Oper) : Bool := match x.dst with
  | some d => memN (y.looksAt ops) d
  | none => false
def sameDst (x y : Oper) : Bool := match x.dst, y.dst with
  | some d, some e => Nat.beq d e
  | _, _ => false
/-- one step of an order, behind those of 'acc' (the last first) -/
def stepChk (ops : Array Oper) (acc : List DOp) (x : DOp) : Bool :=
  match ops[x.i]? with
  | none => false
  | some o => subN (depsOf o) (acc.map (·.i)) &&
    (x.anc.all fun q => memN (depsOf o) q || acc.any fun y => memN (depsOf o) y.i && memN y.anc q) &&
    (match o.op with | .select .. => false | _ => true) &&
    acc.all fun y => !Nat.beq y.i x.i && (!y.heavy || memN x.anc y.i) && match ops[y.i]? with
      | none => false
      | some p => !sameDst p o && (!(looksB ops p o || looksB ops o p) || memN x.anc y.i)
def ordChk (ops : Array Oper) : List DOp → List DOp → Bool
  | acc, [] => (List.range ops.size).all fun i => memN (acc.map (·.i)) i
  | acc, x :: rest => stepChk ops acc x && ordChk ops (x :: acc) rest
def drawChk (ops : Array Oper) (l : List DOp) : Bool := ordChk ops [] l
def lastTwo : List DOp → Option (List DOp × DOp × DOp)
  | [] => none
  | x :: l => match lastTwo l with
    | some (p, a, b) => some (x :: p, a, b)
    | none => match l with
      | [y] => some ([], x, y)
      | _ => none
/-- the address of a bare store -/
def bareStore (ops : List Oper) (i : Nat) : Option Operand := match nth ops i with
  | some o => match o.op, o.dst, o.guard with
    | .store _ a _, none, none => some a
    | _, _, _ => none
  | none => none
def eqNats : List Nat → List Nat → Bool
  | [], [] => true
  | a :: l, b :: m => Nat.beq a b && eqNats l m
  | _, _ => false
def eqDOps : List DOp → List DOp → Bool
  | [], [] => true
  | a :: l, b :: m => (Nat.beq a.i b.i && (a.heavy == b.heavy && eqNats a.anc b.anc)) && eqDOps l m
  | _, _ => false
/-- two orders that differ in their last two operations, both bare stores: their addresses -/
def twinOf (ops : List Oper) (l m : List DOp) : Option (Operand × Operand) := match lastTwo l, lastTwo m with
  | some (p, a, b), some (q, c, d) => if eqDOps p q && ((Nat.beq a.i d.i && Nat.beq b.i c.i) && ((a.heavy && b.heavy) && (c.heavy && d.heavy))) then match bareStore ops a.i, bareStore ops b.i with
      | some x, some y => some (x, y)
      | _, _ => none
    else none
  | _, _ => none
/-- an operation that waits for one more -/
def edge (ops : Array Oper) (i j : Nat) : Array Oper := ops.modify i fun o => { o with after := o.after.push ⟨j, .data⟩ }
def twinChk (ops : Array Oper) (l m : List DOp) : Bool := match lastTwo l, twinOf ops.toList l m with
  | some (_, a, b), some _ => !Nat.beq a.i b.i && (drawChk (edge ops b.i a.i) l && drawChk (edge ops a.i b.i) m)
  | _, _ => false
def twinId (id : Nat) : Nat := id + 1000000
/-- every region with a draw has an order that is in order, or two that are twins -/
def codeChk (ords : List (Nat × List DOp)) (f : List (Nat × List DOp) → Nat → Option (List DOp)) : Code → Bool
  | .region id ops true => match f ords id with
    | some l => match f ords (twinId id) with
      | none => drawChk ops l
      | some m => twinChk ops l m
    | none => false
  | .seq a b => codeChk ords f a && codeChk ords f b
  | .cond _ a b => codeChk ords f a && codeChk ords f b
  | .block _ a => codeChk ords f a
  | .loop a => codeChk ords f a
  | .scope a => codeChk ords f a
  | _ => true
def findOrd : List (Nat × List DOp) → Nat → Option (List DOp)
  | [], _ => none
  | (i, l) :: r, id => if Nat.beq i id then some l else findOrd r id
def sameAt (fr : Fr) (x : Operand) (σ σ1 : St) : Prop := match fr.val x with
  | .ptr b _ => σ.get b = σ1.get b
  | _ => False
open Classical in
noncomputable def evTwin (E : Env) (call : CallF) (ops : Array Oper) (l m : List DOp) (fr : Fr) (σ : St) : Option (Fr × St) :=
  match twinOf ops.toList l m with
  | none => none
  | some (x, y) => match evDraw E call ops l [] fr σ, evDraw E call ops m [] fr σ with
    | some (fr1, σ1), some (_, σ2) => if sameAt fr1 x σ1 σ2 ∧ sameAt fr1 y σ1 σ2 then some (fr1, σ1) else none
    | _, _ => none
noncomputable def evReg (E : Env) (ords : List (Nat × List DOp)) (call : CallF) (id : Nat) (ops : Array Oper) (d : Bool) (fr : Fr) (σ : St) : Option (Fr × St) :=
  match d with
  | false => evOps E call ops ops.toList fr σ
  | true => match findOrd ords id with
    | some l => match findOrd ords (twinId id) with
      | none => evDraw E call ops l [] fr σ
      | some m => evTwin E call ops l m fr σ
    | none => none

def loopN (body : Fr → St → Option (Out × Fr × St)) : Nat → Fr → St → Option (Out × Fr × St)
  | 0, _, _ => none
  | k + 1, fr, σ => match body fr σ with
    | some (.norm, fr', σ') => loopN body k fr' σ'
    | r => r

noncomputable def evCode (E : Env) (ords : List (Nat × List DOp)) (call : CallF) (k : Nat) : Code → Fr → St → Option (Out × Fr × St)
  | .skip, fr, σ => some (.norm, fr, σ)
  | .region id ops d, fr, σ => match evReg E ords call id ops d fr σ with
    | some (fr', σ') => some (.norm, fr', σ')
    | none => none
  | .seq a b, fr, σ => match evCode E ords call k a fr σ with
    | some (.norm, fr', σ') => evCode E ords call k b fr' σ'
    | r => r
  | .cond c a b, fr, σ => match fr.val c with
    | .bool true => evCode E ords call k a fr σ
    | .bool false => evCode E ords call k b fr σ
    | _ => none
  | .block id a, fr, σ => match evCode E ords call k a fr σ with
    | some (.exit i, fr', σ') => if Nat.beq i id then some (.norm, fr', σ') else some (.exit i, fr', σ')
    | r => r
  | .loop a, fr, σ => loopN (evCode E ords call k a) k fr σ
  | .exit id, fr, σ => some (.exit id, fr, σ)
  | .ret, fr, σ => some (.ret, fr, σ)
  | .scope a, fr, σ => evCode E ords call k a fr σ
  | .label _, fr, σ => some (.norm, fr, σ)
  | _, _, _ => none

def resultsOf (E : Env) (fr : Fr) (σ : St) : List ResultVar → Option (List AV)
  | [] => some []
  | .tmp t :: l => match resultsOf E fr σ l with
    | some vs => some (fr.get t :: vs)
    | none => none
  | .cell a t :: l => match fr.get a, E.ty t, resultsOf E fr σ l with
    | .ptr b o, some ti, some vs =>
      if isAggK ti.k then (match ldN σ b o ti.size with | some c => some (.agg c :: vs) | none => none)
      else (match ld1 σ b o with | some c => some (c :: vs) | none => none)
    | _, _, _ => none

def scalar : AV → Bool
  | .int .. | .bool _ | .str _ | .nilp | .nils | .nilf | .nili => true
  | _ => false
def allPlain : List AV → Bool
  | [] => true
  | .agg l :: vs => l.all scalar && allPlain vs
  | v :: vs => scalar v && allPlain vs

/-- what a call leaves: where nothing that was there has changed, and nothing new leads out, the new blocks are let go -/
def tidy (σ0 σ : St) (vs : List AV) : St :=
  match σ.log.filter (Nat.blt · σ0.next) with
  | [] => if allPlain vs then { h := σ.h, next := σ0.next, log := σ0.log } else { h := σ.h, next := σ.next, log := σ0.log }
  | l => { h := σ.h, next := σ.next, log := l ++ σ0.log }

def oneOf : List AV → AV
  | [v] => v
  | l => .tup l

def argsT : List AV → Nat → T AV → T AV
  | [], _, t => t
  | v :: l, i, t => argsT l (i + 1) (t.set i v)

noncomputable def callN (E : Env) (k : Nat) : Nat → CallF
  | 0, _, _, _ => none
  | d + 1, f, args, σ =>
    match E.prim f with
    | some p => p args σ
    | none =>
    match E.fn f with
    | none => none
    | some fi =>
      if Nat.ble args.length fi.ntmps then
      match evCode E fi.ords (callN E k d) k fi.code { t := argsT args 0 .e, n := fi.ntmps, g := E.g } { h := σ.h, next := σ.next, log := [] } with
      | some (.exit _, _, _) => none
      | some (_, fr, σ') =>
        (match resultsOf E fr σ' fi.results with
         | some vs => some (oneOf vs, tidy σ σ' vs)
         | none => none)
      | none => none
      else none
end Go.Ev
end
