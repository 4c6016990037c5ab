/- The law of this seat holds of every input: a part of the proof (an evaluator that is proved to answer as the model does, and its runs by the kernel). -/
import Derived.Test.YtaomoiphkcbnkaaGreatDoorEvFxV
set_option linter.unusedVariables false
set_option linter.unusedSimpArgs false
namespace Go.Ev

def kNo : IntKind → Nat
  | .i8 => 0 | .i16 => 1 | .i32 => 2 | .i64 => 3 | .u8 => 4 | .u16 => 5 | .u32 => 6 | .u64 => 7
def kM (k : IntKind) : Nat := 2 ^ k.bits
def kH (k : IntKind) : Nat := 2 ^ (k.bits - 1)
def numOf : List UInt8 → Nat
  | [] => 0
  | c :: l => c.toNat + 256 * numOf l
def encI (k : IntKind) : Int → V
  | .ofNat n => .w (kNo k) n
  | .negSucc n => .neg (kNo k) n
def capN : Option Nat → Nat
  | none => 0
  | some c => c + 1
mutual
def enc : AV → V
  | .int k n => encI k n
  | .low k m r => .low (kNo k) m r
  | .bool x => .bo x
  | .str s => .st s.length (numOf s)
  | .nilp => .nilp
  | .ptr b o => .ptr b o
  | .nils => .nils
  | .sl b o n c e => .sl b o n (capN c) e
  | .esl => .esl
  | .agg cs => .agg (encs cs)
  | .tup vs => .tup (encs vs)
  | .fn f cs => .fn f (encs cs)
  | .nilf => .nilf
  | .nili => .nili
  | .ifc t v => .ifc t (enc v)
  | .unk => .unk
def encs : List AV → List V
  | [] => []
  | v :: l => enc v :: encs l
end
def i8 : Nat → I8
  | 0 => .i0 | 1 => .i1 | 2 => .i2 | 3 => .i3 | 4 => .i4 | 5 => .i5 | 6 => .i6 | _ => .i7
def path : Nat → Nat → List I8
  | 0, _ => []
  | d + 1, t => i8 (t % 8) :: path d (t / 8)
def depth (n : Nat) : Nat := if n ≤ 8 then 1 else if n ≤ 64 then 2 else if n ≤ 512 then 3 else 4

/-- what a function's frame is like: how deep, how many, how many variables the program has -/
structure FI where
  d : Nat
  n : Nat
  g : Nat

noncomputable def cO (i : FI) : Operand → Option (F → V)
  | .tmp t => if t < i.n then getC (path i.d t) else none
  | .const v => let x := enc (ofValue v); some fun _ => x
  | .global g => if g < i.g then some fun _ => .ptr g 0 else some fun _ => .unk
  | .func f => some fun _ => .fn f []

noncomputable def FS.get (σ : FS) (b : Nat) : B := bc (Nat.blt b σ.next) (H.get σ.h b) .dead
noncomputable def FS.new (σ : FS) (x : B) : FS := { h := H.set σ.h σ.next x, next := Nat.succ σ.next, log := σ.log }
noncomputable def FS.upd (σ : FS) (b : Nat) (x : B) : FS := { h := H.set σ.h b x, next := σ.next, log := bc (memR σ.log b) σ.log (b :: σ.log) }

/-- the first n bytes, as cells -/
def nbV : Nat → Nat → List V
  | 0, _ => []
  | l + 1, n => .w 4 (n % 256) :: nbV l (n / 256)
noncomputable def ldNF (σ : FS) (b o n : Nat) : Option (List V) :=
  match σ.get b with
  | .row cs _ _ => takeR (dropR cs o) n
  | .bs len num _ _ => bc (Nat.ble (Nat.add o n) len) (some (nbV n (Nat.div num (Nat.pow 256 o)))) none
  | _ => none
noncomputable def ld1F (σ : FS) (b o : Nat) : Option V :=
  match σ.get b with
  | .row cs _ _ => nthR cs o
  | .bs len num _ _ => bc (Nat.blt o len) (some (.w 4 (Nat.mod (Nat.div num (Nat.pow 256 o)) 256))) none
  | _ => none
def oneF : V → Bool
  | .agg _ | .tup _ | .unk => false
  | _ => true
/-- a number with n bytes of another from byte o on -/
def splice (num o n m : Nat) : Nat := Nat.add (Nat.mod num (Nat.pow 256 o)) (Nat.mul (Nat.pow 256 o) (Nat.add (Nat.mod m (Nat.pow 256 n)) (Nat.mul (Nat.pow 256 n) (Nat.div num (Nat.pow 256 (Nat.add o n))))))
noncomputable def stNF (σ : FS) (b o : Nat) (vs : List V) : Option FS :=
  match σ.get b with
  | .row cs e ro => bc ro none (bc (allR oneF vs) (Option.casesOn (motive := fun _ => Option FS) (putR cs o vs) none (fun l => some (σ.upd b (.row l e false)))) none)
  | .bs len num e ro => bc ro none (match vs with
    | [.w k n] => bc (Nat.beq k 4) (bc (Nat.blt n 256) (bc (Nat.blt o len) (some (σ.upd b (.bs len (splice num o 1 n) e false))) none) none) none
    | _ => none)
  | _ => none
/-- writes n bytes -/
noncomputable def stBF (σ : FS) (b o n m : Nat) : Option FS :=
  match σ.get b with
  | .bs len num e ro => bc ro none (bc (Nat.ble (Nat.add o n) len) (some (σ.upd b (.bs len (splice num o n m) e false))) none)
  | _ => none
def V.cells : V → List V
  | .agg cs => cs
  | v => [v]
def isUnkF : V → Bool
  | .unk => true
  | _ => false

/-- a whole number that came out: turned to its kind -/
noncomputable def finW (k : IntKind) (r : Nat) : Option V := Bool.casesOn (motive := fun _ => Option V) k.signed (some (.w (kNo k) (Nat.mod r (kM k)))) (bc (Nat.blt r (kH k)) (some (.w (kNo k) r)) none)
noncomputable def finN (k : IntKind) (r : Nat) : Option V := Bool.casesOn (motive := fun _ => Option V) k.signed none (bc (Nat.blt r (kH k)) (some (.neg (kNo k) r)) none)
noncomputable def onWW (k : IntKind) (x y : V) (f : Nat → Nat → Option V) (g : Option V) : Option V :=
  match x with
  | .w k1 a => (match y with
    | .w k2 b => bc (Nat.beq k1 (kNo k)) (bc (Nat.beq k2 (kNo k)) (f a b) none) none
    | _ => g)
  | _ => g
noncomputable def boS (x : Bool) : Option V := some (.bo x)
def slowBin (op : BinOp) (x y : V) : Option V := match binop op x.av y.av with
  | some r => some (enc r)
  | none => none
noncomputable def intBin (k : IntKind) (op : BinOp) : Option (V → V → Option V) :=
  match op with
  | .add => some fun x y => onWW k x y (fun a b => finW k (Nat.add a b)) (slowBin .add x y)
  | .sub => some fun x y => onWW k x y (fun a b => bc (Nat.ble b a) (finW k (Nat.sub a b)) (bc k.signed (finN k (Nat.pred (Nat.sub b a))) (bc (Nat.ble b (kM k)) (finW k (Nat.sub (Nat.add a (kM k)) b)) none))) (slowBin .sub x y)
  | .mul => some fun x y => onWW k x y (fun a b => finW k (Nat.mul a b)) (slowBin .mul x y)
  | .quo => some fun x y => onWW k x y (fun a b => bc (Nat.beq b 0) none (finW k (Nat.div a b))) (slowBin .quo x y)
  | .rem => some fun x y => onWW k x y (fun a b => bc (Nat.beq b 0) none (some (.w (kNo k) (Nat.mod a b)))) (slowBin .rem x y)
  | .and => some fun x y => onWW k x y (fun a b => finW k (Nat.land (Nat.mod a (kM k)) (Nat.mod b (kM k)))) (slowBin .and x y)
  | .or => some fun x y => onWW k x y (fun a b => finW k (Nat.lor (Nat.mod a (kM k)) (Nat.mod b (kM k)))) (slowBin .or x y)
  | .xor => some fun x y => onWW k x y (fun a b => finW k (Nat.xor (Nat.mod a (kM k)) (Nat.mod b (kM k)))) (slowBin .xor x y)
  | .lss => some fun x y => onWW k x y (fun a b => boS (Nat.blt a b)) (slowBin .lss x y)
  | .leq => some fun x y => onWW k x y (fun a b => boS (Nat.ble a b)) (slowBin .leq x y)
  | .gtr => some fun x y => onWW k x y (fun a b => boS (Nat.blt b a)) (slowBin .gtr x y)
  | .geq => some fun x y => onWW k x y (fun a b => boS (Nat.ble b a)) (slowBin .geq x y)
  | .eql => some fun x y => onWW k x y (fun a b => boS (Nat.beq a b)) (slowBin .eql x y)
  | .neq => some fun x y => onWW k x y (fun a b => boS (not (Nat.beq a b))) (slowBin .neq x y)
  | .shl => some fun x y => (match x with
    | .w k1 a => (match y with
      | .w _ b => bc (Nat.beq k1 (kNo k)) (finW k (Nat.mul a (Nat.pow 2 (bc (Nat.ble b k.bits) b k.bits)))) none
      | _ => none)
    | _ => none)
  | .shr => some fun x y => (match x with
    | .w k1 a => (match y with
      | .w _ b => bc (Nat.beq k1 (kNo k)) (some (.w (kNo k) (Nat.div a (Nat.pow 2 (bc (Nat.ble b k.bits) b k.bits))))) none
      | _ => none)
    | _ => slowBin .shr x y)
  | _ => none
noncomputable def onSS (x y : V) (f : Nat → Nat → Nat → Nat → Option V) : Option V :=
  match x with
  | .st l n => (match y with
    | .st l' n' => f l n l' n'
    | _ => none)
  | _ => none
noncomputable def eqSF (l n l' n' : Nat) : Bool := bc (Nat.beq l l') (Nat.beq (Nat.mod n (Nat.pow 256 l)) (Nat.mod n' (Nat.pow 256 l))) false
noncomputable def strBin (op : BinOp) : Option (V → V → Option V) :=
  match op with
  | .add => some fun x y => onSS x y fun l n l' n' => bc (Nat.ble (Nat.add l l') 9223372036854775807) (some (.st (Nat.add l l') (Nat.add (Nat.mod n (Nat.pow 256 l)) (Nat.mul (Nat.pow 256 l) n')))) none
  | .eql => some fun x y => onSS x y fun l n l' n' => boS (eqSF l n l' n')
  | .neq => some fun x y => onSS x y fun l n l' n' => boS (not (eqSF l n l' n'))
  | .lss => some fun x y => onSS x y fun l n l' n' => boS (lessR l' l n l' n')
  | .geq => some fun x y => onSS x y fun l n l' n' => boS (not (lessR l' l n l' n'))
  | .gtr => some fun x y => onSS x y fun l n l' n' => boS (lessR l l' n' l n)
  | .leq => some fun x y => onSS x y fun l n l' n' => boS (not (lessR l l' n' l n))
  | _ => none
/-- '==' on what is neither a number nor a text -/
def eqF (E : Env) (t : Nat) (cst : Bool) (x y : V) : Option Bool := match binop .eql x.av y.av with
  | some _ => none
  | none => eqT E t cst x.av y.av
def neF (E : Env) (t : Nat) (cst : Bool) (x y : V) : Option Bool := match binop .neq x.av y.av with
  | some _ => none
  | none => match eqT E t cst x.av y.av with
    | some b => some (!b)
    | none => none
def ptrEq (x y : V) : Option Bool :=
  match x, y with
  | .nilp, .nilp => some true
  | .nilp, .ptr _ _ => some false
  | .ptr _ _, .nilp => some false
  | _, _ => none
def ptrEq2 (x y : V) : Option Bool :=
  match x with
  | .ptr b o => (match y with
    | .ptr b' o' => if Nat.beq b b' && Nat.beq o o' then some true else none
    | .nilp => some false
    | _ => none)
  | .nilp => (match y with
    | .nilp => some true
    | .ptr _ _ => some false
    | _ => none)
  | _ => none

inductive CO where
  | pure (g : F → V)
  | part (g : F → Option V)
  | eff (g : F → FS → FR)

noncomputable def cBin (E : Env) (op : BinOp) (t : Nat) (cst : Bool) (x y : F → V) : Option CO :=
  match E.ty t with
  | none => none
  | some ti => match ti.k with
    | .int k => (match intBin k op with
      | some h => some (.part fun f => h (x f) (y f))
      | none => none)
    | .string => (match strBin op with
      | some h => some (.part fun f => h (x f) (y f))
      | none => none)
    | .ptr e => match E.ty e with
      | some _ => (match op with
        | .eql => some (.part fun f => match ptrEq2 (x f) (y f) with | some b => some (.bo b) | none => none)
        | .neq => some (.part fun f => match ptrEq2 (x f) (y f) with | some b => some (.bo (not b)) | none => none)
        | _ => none)
      | none => none
    | _ => (match op with
      | .eql => some (.part fun f => match eqF E t cst (x f) (y f) with | some b => some (.bo b) | none => none)
      | .neq => some (.part fun f => match neF E t cst (x f) (y f) with | some b => some (.bo b) | none => none)
      | _ => none)
noncomputable def cUn (op : UnOp) (x : F → V) : Option CO :=
  match op with
  | .not => some (.part fun f => match x f with | .bo b => some (.bo (not b)) | _ => none)
  | _ => some (.part fun f => match unop op (x f).av with | some v => some (enc v) | none => none)

/-- the bytes of a slice or a text -/
noncomputable def slB (σ : FS) (x : V) : Option (Nat × Nat) :=
  match x with
  | .nils => some (0, 0)
  | .esl => some (0, 0)
  | .st l n => some (l, n)
  | .sl b o n _ e => bc (Nat.beq e 1) (match σ.get b with
    | .bs len num _ _ => bc (Nat.ble (Nat.add o n) len) (some (n, Nat.mod (Nat.div num (Nat.pow 256 o)) (Nat.pow 256 n))) none
    | _ => none) none
  | _ => none
/-- its cells -/
noncomputable def slC (σ : FS) (size : Nat) (x : V) : Option (Nat × List V) :=
  match x with
  | .nils => some (0, [])
  | .esl => some (0, [])
  | .sl b o n _ e => bc (Nat.beq e size) (match ldNF σ b o (Nat.mul n e) with
    | some l => some (n, l)
    | none => none) none
  | _ => none
/-- runes of ASCII, as a text -/
noncomputable def runesF (l : List V) : Option (Nat × Nat) := match l with
  | [] => some (0, 0)
  | [.w k n] => bc (Nat.beq k 2) (bc (Nat.blt n 128) (some (1, n)) none) none
  | _ => match runesToS (V.avs l) with
    | some s => some (s.length, numOf s)
    | none => none
def isU8 (E : Env) (e : Nat) : Bool := match E.ty e with
  | some te => (match te.k with
    | .int .u8 => te.size == 1
    | _ => false)
  | none => false
noncomputable def cConv (E : Env) (src dst : Nat) (x : F → V) : Option CO :=
  match E.ty src, E.ty dst with
  | some s, some d =>
    match s.k, d.k with
    | _, .int k => some (.part fun f => match x f with
      | .w _ n => finW k n
      | .neg k1 n => (match k.signed with
        | true => bc (Nat.blt n (kH k)) (some (.neg (kNo k) n)) none
        | false => some (enc (.int k (k.wrap (Int.negSucc n)))))
      | _ => none)
    | .string, .string => some (.part fun f => match x f with
      | .st l n => some (.st l n)
      | _ => none)
    | .string, .slice e => if isU8 E e then some (.eff fun f σ => match x f with
        | .st l n => .val (.sl σ.next 0 l 0 1) (σ.new (.bs l n e false))
        | _ => .no) else none
    | .slice _, .slice e' => if isU8 E e' && Nat.beq src dst then some (.eff fun f σ => match x f with
        | .sl b o n c w => (match σ.get b with
          | .row cs e ro => bc ro .no (.val (.sl b o n c w) (σ.upd b (.row cs e true)))
          | .bs l m e ro => bc ro .no (.val (.sl b o n c w) (σ.upd b (.bs l m e true)))
          | _ => .no)
        | _ => .no) else none
    | .slice e, .string => match kInt E e with
      | some .u8 => some (.eff fun f σ => match x f with
        | .st _ _ => .no
        | v => match slB σ v with
          | some (l, n) => .val (.st l n) σ
          | none => .no)
      | some .i32 => some (.eff fun f σ => match slC σ 1 (x f) with
        | some (_, l) => (match runesF l with
          | some (l, n) => .val (.st l n) σ
          | none => .no)
        | none => .no)
      | _ => none
    | .ptr t, .uptr => match E.ty t with
      | some tt => if Nat.beq tt.size 0 then none else some (.eff fun f σ => match x f with
        | .ptr b o => (match σ.get b with
          | .row cs _ ro => bc ro .no (bc (Nat.blt o (lenR cs)) (.val (.ptr b o) σ) .no)
          | .bs l _ _ ro => bc ro .no (bc (Nat.blt o l) (.val (.ptr b o) σ) .no)
          | _ => .no)
        | _ => .no)
      | none => none
    | .uptr, .ptr u => match E.ty u with
      | some tu => if Nat.beq tu.size 0 then none else some (.eff fun f σ => match x f with
        | .ptr b o => bc (Nat.beq o 0) (match σ.get b with
          | .row cs e ro => bc ro .no (bc (Nat.beq e u) (bc (Nat.ble tu.size (lenR cs)) (.val (.ptr b 0) σ) .no) .no)
          | .bs l _ e ro => bc ro .no (bc (Nat.beq e u) (bc (Nat.ble tu.size l) (.val (.ptr b 0) σ) .no) .no)
          | _ => .no) .no
        | _ => .no)
      | none => none
    | _, _ => none
  | _, _ => none

noncomputable def cFill (i : FI) (place : Nat → Option (Nat × Nat)) : List (Nat × Operand) → Option (F → List V → Option (List V))
  | [] => some fun _ l => some l
  | (j, x) :: rest => match place j, cO i x, cFill i place rest with
    | some (off, size), some g, some r => if Nat.beq size 0 then none else some fun f l =>
      bc (isUnkF (g f)) none (bc (Nat.beq (lenR (g f).cells) size) (Option.casesOn (motive := fun _ => Option (List V)) (putR l off (g f).cells) none (fun l' => r f l')) none)
    | _, _, _ => none

/-- bytes put at their places -/
noncomputable def cFillB (i : FI) (n : Nat) : List (Nat × Operand) → Option (F → Nat → Option Nat)
  | [] => some fun _ m => some m
  | (j, x) :: rest => match cO i x, cFillB i n rest with
    | some g, some r => if j < n then some fun f m => match g f with
      | .w k c => bc (Nat.beq k 4) (bc (Nat.blt c 256) (r f (splice m j 1 c)) none) none
      | _ => none
      else none
    | _, _ => none
noncomputable def numF (v : V) (k : Nat → Option V) : Option V := match v with
  | .w _ n => k n
  | _ => none
/-- a bound of a slice: there or not -/
noncomputable def cBound (i : FI) : Option Operand → Option (F → Nat → (Nat → Option V) → Option V)
  | none => some fun _ d k => k d
  | some x => match cO i x with
    | some g => some fun f _ k => numF (g f) k
    | none => none
noncomputable def cOptA (i : FI) : Option Operand → Option (F → Option AV)
  | none => some fun _ => none
  | some x => match cO i x with
    | some g => some fun f => some (g f).av
    | none => none
noncomputable def slice3 (E : Env) (t : Nat) (lo hi : Option AV) (m : AV) : AV → Option V
  | .nils => (match evSlice E t .nils lo hi (some m) { h := .e, next := 0, log := [] } with
    | some (v, _) => some (enc v)
    | none => none)
  | .sl b o n c e => (match evSlice E t (.sl b o n c e) lo hi (some m) { h := .e, next := 0, log := [] } with
    | some (v, _) => some (enc v)
    | none => none)
  | _ => none
/-- a slice with its bound told -/
noncomputable def cSlice3 (E : Env) (i : FI) (t : Nat) (x : F → V) (lo hi : Option Operand) (m : Operand) : Option CO :=
  match cOptA i lo, cOptA i hi, cO i m with
  | some l, some h, some g => some (.part fun f => slice3 E t (l f) (h f) (g f).av (x f).av)
  | _, _, _ => none
noncomputable def cSlice (E : Env) (i : FI) (t : Nat) (x : F → V) (lo hi mx : Option Operand) : Option CO :=
  match E.ty t, cBound i lo, cBound i hi with
  | some ti, some lo', some hi' =>
    match ti.k with
    | .string => if mx.isSome then none else some (.part fun f => match x f with
      | .st len num => lo' f 0 fun l => hi' f len fun h => bc (Nat.ble l h) (bc (Nat.ble h len) (some (.st (Nat.sub h l) (Nat.mod (Nat.div num (Nat.pow 256 l)) (Nat.pow 256 (Nat.sub h l))))) none) none
      | _ => none)
    | .slice el => match E.ty el with
      | none => none
      | some te =>
        if mx.isSome then none else some (.part fun f => match x f with
        | .nils => lo' f 0 fun l => hi' f 0 fun h => bc (Nat.beq l 0) (bc (Nat.beq h 0) (some .nils) none) none
        | .esl => lo' f 0 fun l => hi' f 0 fun h => bc (Nat.beq l 0) (bc (Nat.beq h 0) (some .esl) none) none
        | .sl b o n c e => bc (Nat.beq te.size e) (lo' f 0 fun l => hi' f n fun h =>
          Nat.casesOn (motive := fun _ => Option V) c
            (bc (Nat.ble l h) (bc (Nat.ble h n) (bc (bc (Nat.blt l n) true (Nat.beq l 0)) (some (.sl b (Nat.add o (Nat.mul l e)) (Nat.sub h l) 0 e)) (some .esl)) none) none)
            (fun c => bc (Nat.ble l h) (bc (Nat.ble h c) (some (.sl b (bc (Nat.beq c l) o (Nat.add o (Nat.mul l e))) (Nat.sub h l) (Nat.succ (Nat.sub c l)) e)) none) none)) none
        | _ => none)
    | .arr n e' => match E.ty e' with
      | none => none
      | some te => if mx.isSome then none else some (.eff fun f σ => match x f with
        | .ptr b o => (match lo' f 0 (fun l => hi' f n fun h => bc (Nat.ble l h) (bc (Nat.ble h n) (some (.sl b (bc (Nat.beq n l) o (Nat.add o (Nat.mul l te.size))) (Nat.sub h l) (Nat.succ (Nat.sub n l)) te.size)) none) none) with
          | some v => (match σ.get b with
            | .row cs _ _ => bc (Nat.ble (Nat.add o (Nat.mul n te.size)) (lenR cs)) (.val v σ) .no
            | .bs len _ _ _ => bc (Nat.ble (Nat.add o (Nat.mul n te.size)) len) (.val v σ) .no
            | _ => .no)
          | none => .no)
        | _ => .no)
    | _ => none
  | _, _, _ => none

noncomputable def appBF (elem : Nat) (s : V) (n m : Nat) (σ : FS) : FR :=
  match s with
  | .nils => bc (Nat.beq n 0) (.val .nils σ) (bc (Nat.ble (Nat.mul n 2) 1048576) (.val (.sl σ.next 0 n 0 1) (σ.new (.bs n m elem false))) .no)
  | .esl => bc (Nat.beq n 0) (.val .esl σ) .no
  | .sl b o len c e => bc (Nat.beq e 1) (bc (Nat.beq n 0) (.val s σ) (bc (Nat.ble (Nat.mul (Nat.add len n) 2) 1048576)
      (match σ.get b with
       | .bs blen num el ro => Nat.casesOn (motive := fun _ => FR) c
          (bc ro .no (bc (Nat.beq el elem) (bc (Nat.beq o 0) (bc (Nat.ble len blen)
            (.val (.sl σ.next 0 (Nat.add len n) 0 1) ((σ.upd b .dead).new (.bs (Nat.add len n) (Nat.add (Nat.mod num (Nat.pow 256 len)) (Nat.mul (Nat.pow 256 len) m)) elem false))) .no) .no) .no))
          (fun c => bc (Nat.ble (Nat.add len n) c)
            (match stBF σ b (Nat.add o len) n m with
             | some σ' => .val (.sl b o (Nat.add len n) (Nat.succ c) 1) σ'
             | none => .no)
            (bc (Nat.ble (Nat.add o len) blen) (.val (.sl σ.next 0 (Nat.add len n) 0 1) (σ.new (.bs (Nat.add len n) (Nat.add (Nat.mod (Nat.div num (Nat.pow 256 o)) (Nat.pow 256 len)) (Nat.mul (Nat.pow 256 len) m)) elem false))) .no))
       | .row _ el ro => bc (Nat.beq c 0) (bc ro .no (bc (Nat.beq el elem) (bc (Nat.beq o 0) (bc (Nat.beq len 0)
            (.val (.sl σ.next 0 n 0 1) ((σ.upd b .dead).new (.bs n m elem false))) .no) .no) .no)) .no
       | _ => .no) .no)) .no
  | _ => .no
noncomputable def appCF (elem e by_ : Nat) (s : V) (n : Nat) (new : List V) (σ : FS) : FR :=
  match s with
  | .nils => bc (Nat.beq n 0) (.val .nils σ) (bc (Nat.ble (Nat.mul n (Nat.succ by_)) 1048576) (.val (.sl σ.next 0 n 0 e) (σ.new (.row new elem false))) .no)
  | .esl => bc (Nat.beq n 0) (.val .esl σ) .no
  | .sl b o m c e' => bc (Nat.beq e' e) (bc (Nat.beq n 0) (.val s σ) (bc (Nat.ble (Nat.mul (Nat.add m n) (Nat.succ by_)) 1048576)
      (Nat.casesOn (motive := fun _ => FR) c
        (match σ.get b with
         | .row cs el ro => bc ro .no (bc (Nat.beq el elem) (bc (Nat.beq o 0) (match takeR cs (Nat.mul m e) with
           | some old => .val (.sl σ.next 0 (Nat.add m n) 0 e) ((σ.upd b .dead).new (.row (appR old new) elem false))
           | none => .no) .no) .no)
         | _ => .no)
        (fun c => bc (Nat.ble (Nat.add m n) c)
          (match stNF σ b (Nat.add o (Nat.mul m e)) new with
           | some σ' => .val (.sl b o (Nat.add m n) (Nat.succ c) e) σ'
           | none => .no)
          (match ldNF σ b o (Nat.mul m e) with
           | some old => .val (.sl σ.next 0 (Nat.add m n) 0 e) (σ.new (.row (appR old new) elem false))
           | none => .no))) .no)) .no
  | _ => .no
noncomputable def lenF (x : V) : Option V := match x with
  | .st l _ => some (.w 3 l)
  | .sl _ _ n _ _ => some (.w 3 n)
  | .nils => some (.w 3 0)
  | .esl => some (.w 3 0)
  | _ => none
def slLenF : V → Option Nat
  | .nils => some 0
  | .esl => some 0
  | .sl _ _ n _ _ => some n
  | _ => none
def isSSK : TK → Bool
  | .slice _ | .string => true
  | _ => false
noncomputable def cBi (E : Env) (bi : Builtin) (tys : List Nat) (args : List (F → V)) : Option CO :=
  match bi, tys, args with
  | .len, [t], [x] => match E.ty t with
    | none => none
    | some ti => match ti.k with
      | .arr n _ => some (.pure fun _ => .w 3 n)
      | .string => some (.part fun f => match x f with
        | .st l _ => some (.w 3 l)
        | _ => none)
      | .slice _ => some (.part fun f => match x f with
        | .sl _ _ n _ _ => some (.w 3 n)
        | .nils => some (.w 3 0)
        | .esl => some (.w 3 0)
        | _ => none)
      | _ => none
  | .cap, [t], [x] => match E.ty t with
    | none => none
    | some ti => match ti.k with
      | .slice _ => some (.part fun f => match x f with
        | .nils => some (.w 3 0)
        | .sl _ _ _ c _ => Nat.casesOn (motive := fun _ => Option V) c none (fun c => some (.w 3 c))
        | _ => none)
      | _ => none
  | .append, [t, u], [s, x] => match E.ty t, E.ty u with
    | some ti, some tu => match ti.k with
      | .slice elem => match E.ty elem with
        | some te =>
          if isSSK tu.k then
          (if isU8 E elem && Nat.beq te.bytes 1 then some (.eff fun f σ => match slB σ (x f) with
            | some (n, m) => appBF elem (s f) n m σ
            | none => .no)
          else some (.eff fun f σ => match slC σ te.size (x f) with
            | some (n, l) => bc (allR oneF l) (appCF elem te.size te.bytes (s f) n l σ) .no
            | none => .no)) else none
        | none => none
      | _ => none
    | _, _ => none
  | .copy, [t, u], [d, x] => match E.ty t, E.ty u with
    | some ti, some tu => match ti.k with
      | .slice elem => match E.ty elem with
        | some te =>
          if isSSK tu.k && isU8 E elem && Nat.beq te.size 1 then
          some (.eff fun f σ => match slB σ (x f) with
            | some (m, num) => (match d f with
              | .sl b o n _ e => bc (Nat.beq e 1) (bc (Nat.beq (bc (Nat.ble m n) m n) 0) (.val (.w 3 0) σ) (match stBF σ b o (bc (Nat.ble m n) m n) num with
                | some σ' => .val (.w 3 (bc (Nat.ble m n) m n)) σ'
                | none => .no)) .no
              | _ => .no)
            | none => .no) else none
        | none => none
      | _ => none
    | _, _ => none
  | .min, _, [x, y] => some (.part fun f => match x f, y f with
    | .w k a, .w _ b => some (.w k (bc (Nat.blt b a) b a))
    | .neg k a, .w _ _ => some (.neg k a)
    | .w k _, .neg _ b => some (.neg k b)
    | _, _ => none)
  | .max, _, [x, y] => some (.part fun f => match x f, y f with
    | .w k a, .w _ b => some (.w k (bc (Nat.blt a b) b a))
    | .neg k _, .w _ b => some (.w k b)
    | .w k a, .neg _ _ => some (.w k a)
    | _, _ => none)
  | .unsafeSliceData, _, [x] => some (.part fun f => match x f with
    | .nils => some .nilp
    | .sl b o n _ _ => bc (Nat.beq n 0) none (some (.ptr b o))
    | _ => none)
  | .unsafeString, [pt, _], [x, y] => match E.ty pt with
    | none => none
    | some ti => match ti.k with
      | .ptr u => match E.ty u with
        | some tu => if Nat.beq tu.size 1 then some (.eff fun f σ => match x f with
          | .nilp => (match y f with
            | .w k n => bc (Nat.beq k 3) (bc (Nat.beq n 0) (.val (.st 0 0) σ) .no) .no
            | _ => .no)
          | .ptr b o => bc (Nat.beq o 0) (match y f with
            | .w k n => bc (Nat.beq k 3) (bc (Nat.beq n 0) .no (bc (Nat.ble n 9223372036854775807) (match σ.get b with
              | .bs len num e ro => bc ro .no (bc (Nat.beq e u) (bc (Nat.ble n len) (.val (.st n (Nat.mod num (Nat.pow 256 n))) (σ.upd b (.bs len num e true))) .no) .no)
              | _ => .no) .no)) .no
            | _ => .no) .no
          | _ => .no) else none
        | none => none
      | _ => none
  | _, _, _ => none

noncomputable def cOs (i : FI) : List Operand → Option (List (F → V))
  | [] => some []
  | x :: l => match cO i x, cOs i l with
    | some g, some gs => some (g :: gs)
    | _, _ => none
noncomputable def mapV (gs : List (F → V)) (f : F) : List V := List.rec (motive := fun _ => List V) [] (fun g _ r => g f :: r) gs
noncomputable def oV (r : Option V) (σ : FS) : FR := match r with
  | some v => .val v σ
  | none => .no

def isZ8 : List AV → Bool
  | [.int .u8 n] => decide (n = 0)
  | _ => false
def allZ8 : List AV → Bool
  | [] => true
  | .int .u8 n :: l => decide (n = 0) && allZ8 l
  | _ => false
def placeOf (E : Env) (fs : List (Nat × Nat)) (j : Nat) : Option (Nat × Nat) := match nth fs j with
  | some (off, ft) => match E.ty ft with | some f => some (off, f.size) | none => none
  | none => none
noncomputable def cOp (E : Env) (i : FI) (o : Op) : Option CO :=
  match o with
  | .move x | .assign x => match cO i x with
    | some g => some (.pure g)
    | none => none
  | .pick c a b => match cO i c, cO i a, cO i b with
    | some c, some a, some b => some (.part fun f => match c f with
      | .bo x => bc x (some (a f)) (some (b f))
      | _ => none)
    | _, _, _ => none
  | .alloc t => match E.ty t with
    | some ti => if isAggK ti.k && allZ8 ti.zero then (let n := ti.zero.length; some (.eff fun _ σ => .val (.ptr σ.next 0) (σ.new (.bs n 0 t false))))
      else let z := encs ti.zero; some (.eff fun _ σ => .val (.ptr σ.next 0) (σ.new (.row z t false)))
    | none => none
  | .box t x => match cO i x with
    | some g => some (.eff fun f σ => bc (isUnkF (g f)) .no (.val (.ptr σ.next 0) (σ.new (.row (g f).cells t false))))
    | none => none
  | .build t ps => match E.ty t with
    | some ti => match ti.k with
      | .struct fs => match cFill i (placeOf E fs) ps.toList with
        | some r => let z := encs ti.zero; some (.part fun f => match r f z with
          | some l => some (.agg l)
          | none => none)
        | none => none
      | .arr _ e => match E.ty e with
        | some te => match cFill i (fun j => some (j * te.size, te.size)) ps.toList with
          | some r => let z := encs ti.zero; some (.part fun f => match r f z with
            | some l => some (.agg l)
            | none => none)
          | none => none
        | none => none
      | _ => none
    | none => none
  | .buildSlice t n ps => match E.ty t with
    | none => none
    | some ti => match ti.k with
      | .slice e => match E.ty e with
        | some te => if isU8 E e then (if isZ8 te.zero then (match cFillB i n ps.toList with
            | some r => if Nat.ble (n * te.size) 16777216 then some (.eff fun f σ => match r f 0 with
              | some m => .val (.sl σ.next 0 n (Nat.succ n) te.size) (σ.new (.bs n m e false))
              | none => .no) else none
            | none => none) else none) else match cFill i (fun j => some (j * te.size, te.size)) ps.toList with
          | some r => if Nat.ble (n * te.size) 16777216 then let z := encs (rep n te.zero); some (.eff fun f σ => match r f z with
              | some l => .val (.sl σ.next 0 n (Nat.succ n) te.size) (σ.new (.row l e false))
              | none => .no) else none
          | none => none
        | none => none
      | _ => none
  | .load t a => match E.ty t, cO i a with
    | some ti, some g => if isAggK ti.k then some (.eff fun f σ => match g f with
        | .ptr b o => (match ldNF σ b o ti.size with
          | some l => .val (.agg l) σ
          | none => .no)
        | _ => .no)
      else some (.eff fun f σ => match g f with
        | .ptr b o => oV (ld1F σ b o) σ
        | _ => .no)
    | _, _ => none
  | .store t a x => match E.ty t, cO i a, cO i x with
    | some ti, some g, some v => some (.eff fun f σ => match g f with
      | .ptr b o => bc (isUnkF (v f)) .no (bc (Nat.beq (lenR (v f).cells) ti.size) (match stNF σ b o (v f).cells with
        | some σ' => .val (.tup []) σ'
        | none => .no) .no)
      | _ => .no)
    | _, _, _ => none
  | .nilCheck x => match cO i x with
    | some g => some (.part fun f => match g f with
      | .ptr b o => some (.ptr b o)
      | .fn h cs => some (.fn h cs)
      | _ => none)
    | none => none
  | .binOp op t x y _ => match cO i x, cO i y with
    | some g, some h => cBin E op t (isConstO x || isConstO y) g h
    | _, _ => none
  | .unOp op _ x => match cO i x with
    | some g => cUn op g
    | none => none
  | .convert s d x => match cO i x with
    | some g => cConv E s d g
    | none => none
  | .makeInterface t x => match E.ty t, cO i x with
    | some ti, some g => (match ti.k with
      | .iface => none
      | _ => some (.pure fun f => .ifc t (g f)))
    | _, _ => none
  | .makeFunc (.func f) first cap => if first.isEmpty then (match cOs i cap.toList with
      | some gs => some (.pure fun fr => .fn f (mapV gs fr))
      | none => none) else none
  | .makeSlice t l c => match E.ty t, cO i l, cO i c with
    | some ti, some l, some c => match ti.k with
      | .slice e => match E.ty e with
        | some te => let z := encs te.zero; let u8 := isU8 E e && isZ8 te.zero
          some (.eff fun f σ => match l f, c f with
          | .w k1 l, .w k2 c => bc (Nat.beq k1 3) (bc (Nat.beq k2 3) (bc (Nat.ble l c) (bc (Nat.ble c 65536) (bc (Nat.ble (Nat.mul te.bytes c) 65536)
              (.val (.sl σ.next 0 l (Nat.succ c) te.size) (σ.new (bc u8 (.bs c 0 e false) (.row (repR c z) e false)))) .no) .no) .no) .no) .no
          | _, _ => .no)
        | none => none
      | _ => none
    | _, _, _ => none
  | .slice t x lo hi mx => match cO i x with
    | some g => (match mx with
      | some m => cSlice3 E i t g lo hi m
      | none => cSlice E i t g lo hi none)
    | none => none
  | .fieldAddr t x f => match E.ty t, cO i x with
    | some ti, some g => match ti.k with
      | .struct fs => match nth fs f with
        | some (off, ft) => match E.ty ft with
          | some tf => if Nat.beq tf.size 0 then none else some (.part fun fr => match g fr with
            | .ptr b o => some (.ptr b (Nat.add o off))
            | _ => none)
          | none => none
        | none => none
      | _ => none
    | _, _ => none
  | .field t x f => match E.ty t, cO i x with
    | some ti, some g => match ti.k with
      | .struct fs => match nth fs f with
        | some (off, ft) => match E.ty ft with
          | some tf => if isAggK tf.k then some (.part fun fr => match g fr with
              | .agg cs => (match takeR (dropR cs off) tf.size with
                | some l => some (.agg l)
                | none => none)
              | _ => none)
            else some (.part fun fr => match g fr with
              | .agg cs => nthR cs off
              | _ => none)
          | none => none
        | none => none
      | _ => none
    | _, _ => none
  | .indexAddr t x j => match E.ty t, cO i x, cO i j with
    | some ti, some g, some h => match ti.k with
      | .slice e => match E.ty e with
        | some te => some (.part fun f => match h f with
          | .w _ j => (match g f with
            | .sl b o n _ _ => bc (Nat.blt j n) (some (.ptr b (Nat.add o (Nat.mul j te.size)))) none
            | _ => none)
          | _ => none)
        | none => none
      | .arr n e => match E.ty e with
        | some te => some (.part fun f => match h f with
          | .w _ j => (match g f with
            | .ptr b o => bc (Nat.blt j n) (some (.ptr b (Nat.add o (Nat.mul j te.size)))) none
            | _ => none)
          | _ => none)
        | none => none
      | _ => none
    | _, _, _ => none
  | .index t x j => match E.ty t, cO i x, cO i j with
    | some ti, some g, some h => match ti.k with
      | .string => some (.part fun f => match h f with
        | .w _ j => (match g f with
          | .st len num => bc (Nat.blt j len) (some (.w 4 (Nat.mod (Nat.div num (Nat.pow 256 j)) 256))) none
          | _ => none)
        | _ => none)
      | .arr n e => match E.ty e with
        | some te => some (.part fun f => match h f with
          | .w _ j => (match g f with
            | .agg cs => bc (Nat.blt j n) (Bool.casesOn (motive := fun _ => Option V) (isAggK te.k) (nthR cs (Nat.mul j te.size)) (match takeR (dropR cs (Nat.mul j te.size)) te.size with
              | some l => some (.agg l)
              | none => none)) none
            | _ => none)
          | _ => none)
        | none => none
      | _ => none
    | _, _, _ => none
  | .extract x j => match cO i x with
    | some g => some (.part fun f => match g f with
      | .tup l => nthR l j
      | _ => none)
    | none => none
  | .range t x => match E.ty t, cO i x with
    | some ti, some g => (match ti.k with
      | .string => some (.eff fun f σ => match g f with
        | .st len num => .val (.ptr σ.next 0) (σ.new (.iter len num 0))
        | _ => .no)
      | _ => none)
    | _, _ => none
  | .next it true => match cO i it with
    | some g => some (.eff fun f σ => match g f with
      | .ptr b o => bc (Nat.beq o 0) (match σ.get b with
        | .iter len num pos => bc (Nat.blt pos len) (bc (Nat.blt (Nat.mod (Nat.div num (Nat.pow 256 pos)) 256) 128)
            (.val (.tup [.bo true, .w 3 pos, .w 2 (Nat.mod (Nat.div num (Nat.pow 256 pos)) 256)]) (σ.upd b (.iter len num (Nat.succ pos)))) .no)
            (.val (.tup [.bo false]) σ)
        | _ => .no) .no
      | _ => .no)
    | none => none
  | .call c => match cOs i c.args.toList with
    | none => none
    | some gs => match c.callee with
      | .builtin b => cBi E b c.argTypes.toList gs
      | .value (.func f) => some (.eff fun fr _ => .call f (mapV gs fr))
      | .value h => match cO i h with
        | some g => some (.eff fun fr _ => match g fr with
          | .fn f cs => .call f (appR (mapV gs fr) cs)
          | _ => .no)
        | none => none
      | .invoke _ _ => none
  | _ => none

/-- the guard: which value, and what it should be -/
noncomputable def cGuard (i : FI) (ops : List Oper) : Option (Nat × Bool) → Option (Option ((F → V) × Bool))
  | none => some none
  | some (j, w) => match nth ops j with
    | some o => match o.dst with
      | some d => if d < i.n then (match getC (path i.d d) with
        | some g => some (some (g, w))
        | none => none) else none
      | none => none
    | none => none
/-- yes, no, or it can't be told -/
noncomputable def gdF (x : V) (yes nay : FOut) : FOut := match x with
  | .bo b => bc b yes nay
  | .tup _ => nay
  | _ => .no
noncomputable def gdN (x : V) (yes nay : FOut) : FOut := match x with
  | .bo b => bc b nay yes
  | .tup _ => nay
  | _ => .no
noncomputable def cDst (i : FI) : Option Nat → Option (V → F → F)
  | none => some fun _ f => f
  | some d => if d < i.n then setC (path i.d d) else none

/-- an operation that is not known fails where it is carried out -/
noncomputable def cOpD (E : Env) (i : FI) (o : Oper) : CO := match cOp E i o.op with
  | some c => c
  | none => .part fun _ => none
/-- one operation, and what is behind it -/
noncomputable def stepF (c : CO) (put : V → F → F) (rest : FCl) : Option FCl :=
  match c with
  | .pure g => some fun call f σ => rest call (put (g f) f) σ
  | .part g => some fun call f σ => Option.rec (motive := fun _ => FOut) .no (fun v => rest call (put v f) σ) (g f)
  | .eff g => some fun call f σ => FR.rec (motive := fun _ => FOut) .no (fun v σ' => rest call (put v f) σ') (fun h args => FV.rec (motive := fun _ => FOut) .no (fun v σ' => rest call (put v f) σ') (call h args σ)) (g f σ)
noncomputable def guardF (gd : Option ((F → V) × Bool)) (put : V → F → F) (go rest : FCl) : Option FCl :=
  match gd with
  | none => some go
  | some (h, true) => some fun call f σ => gdF (h f) (go call f σ) (rest call (put U f) σ)
  | some (h, false) => some fun call f σ => gdN (h f) (go call f σ) (rest call (put U f) σ)
noncomputable def cOps (E : Env) (i : FI) (ops : List Oper) : List Oper → Option FCl
  | [] => some fun _ f σ => .norm f σ
  | o :: l => match cOps E i ops l, cOpD E i o, cGuard i ops o.guard, cDst i o.dst with
    | some rest, c, some gd, some put => (match stepF c put rest with
      | some go => guardF gd put go rest
      | none => none)
    | _, _, _, _ => none

mutual
def eqV : V → V → Bool
  | .w k a, .w k' b => Nat.beq k k' && Nat.beq a b
  | .neg k a, .neg k' b => Nat.beq k k' && Nat.beq a b
  | .bo a, .bo b => a == b
  | .st l a, .st m b => Nat.beq l m && Nat.beq a b
  | .nilp, .nilp => true
  | .ptr b o, .ptr b' o' => Nat.beq b b' && Nat.beq o o'
  | .nils, .nils => true
  | .sl b o n c e, .sl b' o' n' c' e' => Nat.beq b b' && Nat.beq o o' && Nat.beq n n' && Nat.beq c c' && Nat.beq e e'
  | .esl, .esl => true
  | .agg l, .agg m => eqVs l m
  | .tup l, .tup m => eqVs l m
  | .fn f l, .fn g m => Nat.beq f g && eqVs l m
  | .nilf, .nilf => true
  | .nili, .nili => true
  | .ifc t v, .ifc u x => Nat.beq t u && eqV v x
  | .unk, .unk => true
  | _, _ => false
def eqVs : List V → List V → Bool
  | [], [] => true
  | a :: l, b :: m => eqV a b && eqVs l m
  | _, _ => false
end
abbrev FPend := List (Nat × Touch)
noncomputable def sameF (σ σ1 : FS) (x : Touch) : Bool := match x.n with
  | none => false
  | some n => match σ.get x.b, σ1.get x.b with
    | .row c _ _, .row d _ _ => (match takeR (dropR c x.o) n, takeR (dropR d x.o) n with
      | some l, some m => eqVs l m
      | _, _ => false)
    | .bs l c _ _, .bs m d _ _ => bc (Nat.beq l m) (Nat.beq (Nat.mod (Nat.div c (Nat.pow 256 x.o)) (Nat.pow 256 n)) (Nat.mod (Nat.div d (Nat.pow 256 x.o)) (Nat.pow 256 n))) false
    | _, _ => false
noncomputable def apartF (anc : List Nat) (σ σ1 : FS) (l : FPend) : Bool := List.rec (motive := fun _ => Bool) true (fun x _ r => bc (bc (memR anc x.1) true (bc (bc (Nat.blt x.2.b σ.next) (not (memR σ1.log x.2.b)) false) true (sameF σ σ1 x.2))) r false) l
/-- is there one to come that does not wait for j, and turns things? -/
def needs (j : Nat) : List DOp → Bool
  | [] => false
  | x :: l => (x.heavy && !memN x.anc j) || needs j l
abbrev DCl := FPend → FCl
noncomputable def heavyF (anc : List Nat) (c : CO) (put : V → F → F) (rest : DCl) : Option DCl :=
  match c with
  | .pure g => some fun p call f σ => bc (apartF anc σ { h := σ.h, next := σ.next, log := [] } p) (rest p call (put (g f) f) σ) .no
  | .part g => some fun p call f σ => Option.rec (motive := fun _ => FOut) .no (fun v => bc (apartF anc σ { h := σ.h, next := σ.next, log := [] } p) (rest p call (put v f) σ) .no) (g f)
  | .eff g => some fun p call f σ => FR.rec (motive := fun _ => FOut) .no
      (fun v σ1 => bc (apartF anc σ σ1 p) (rest p call (put v f) { h := σ1.h, next := σ1.next, log := appN σ1.log σ.log }) .no)
      (fun h args => FV.rec (motive := fun _ => FOut) .no (fun v σ1 => bc (apartF anc σ σ1 p) (rest p call (put v f) { h := σ1.h, next := σ1.next, log := appN σ1.log σ.log }) .no) (call h args { h := σ.h, next := σ.next, log := [] })) (g f { h := σ.h, next := σ.next, log := [] })
/-- the record of what was read -/
abbrev RecF := FPend → F → FS → (FPend → FOut) → FOut
noncomputable def recL (j : Nat) (nd : Bool) (g : F → V) (n : Nat) : Option RecF := match nd with
  | false => some fun p _ _ k => k p
  | true => some fun p f _ k => match g f with
    | .ptr b o => k ((j, ⟨b, o, some n⟩) :: p)
    | _ => .no
noncomputable def recT (j : Nat) (nd : Bool) (t : F → Option Touch) : Option RecF := some fun p f σ k => match t f with
  | none => k p
  | some x => bc (Nat.blt x.b σ.next) (bc nd (k ((j, x) :: p)) (k p)) .no
noncomputable def pureF (go : RecF) (c : CO) (put : V → F → F) (rest : DCl) : Option DCl :=
  match c with
  | .pure g => some fun p call f σ => go p f σ fun p' => rest p' call (put (g f) f) σ
  | .part g => some fun p call f σ => Option.rec (motive := fun _ => FOut) .no (fun v => go p f σ fun p' => rest p' call (put v f) σ) (g f)
  | .eff g => some fun p call f σ => FR.rec (motive := fun _ => FOut) .no (fun v _ => go p f σ fun p' => rest p' call (put v f) σ) (fun _ _ => .no) (g f σ)
noncomputable def freshF (j : Nat) (nd : Bool) (c : CO) (put : V → F → F) (rest : DCl) : Option DCl :=
  match c with
  | .eff g => some fun p call f σ => FR.rec (motive := fun _ => FOut) .no (fun v σ1 => rest (bc nd ((j, ⟨σ.next, 0, none⟩) :: p) p) call (put v f) σ1) (fun _ _ => .no) (g f σ)
  | _ => some fun _ _ _ _ => .no
noncomputable def guardD (gd : Option ((F → V) × Bool)) (put : V → F → F) (go rest : DCl) : Option DCl :=
  match gd with
  | none => some go
  | some (h, true) => some fun p call f σ => gdF (h f) (go p call f σ) (rest p call (put U f) σ)
  | some (h, false) => some fun p call f σ => gdN (h f) (go p call f σ) (rest p call (put U f) σ)
noncomputable def cRec (E : Env) (i : FI) (j : Nat) (nd : Bool) (op : Op) : Option RecF := match op with
  | .load t a => (match E.ty t, cO i a with
    | some ti, some g => recL j nd g (if isAggK ti.k then ti.size else 1)
    | _, _ => none)
  | .slice _ x _ _ _ => (match cO i x with
    | some g => recT j nd fun f => match g f with
      | .ptr b o => some ⟨b, o, none⟩
      | _ => none
    | none => none)
  | .convert _ _ x => (match cO i x with
    | some g => recT j nd fun f => match g f with
      | .sl b o n _ e => some ⟨b, o, some (Nat.mul n e)⟩
      | _ => none
    | none => none)
  | _ => some fun p _ _ k => k p
/-- how an operation of a region with a draw is carried out -/
noncomputable def cDOp (E : Env) (i : FI) (x : DOp) (o : Oper) (l : List DOp) (c : CO) (put : V → F → F) (rest : DCl) : Option DCl :=
  if x.heavy then heavyF x.anc c put rest
  else if hoistPure E o.op then
    (match cRec E i x.i (needs x.i l) o.op with
     | some go => pureF go c put rest
     | none => none)
  else if hoistFresh o.op then freshF x.i (needs x.i l) c put rest
  else some fun _ _ _ _ => .no
noncomputable def cDraw (E : Env) (i : FI) (ops : List Oper) : List DOp → Option DCl
  | [] => some fun _ _ f σ => .norm f σ
  | x :: l => match nth ops x.i with
    | none => none
    | some o => match cDraw E i ops l, cOpD E i o, cGuard i ops o.guard, cDst i o.dst with
      | some rest, c, some gd, some put => (match cDOp E i x o l c put rest with
        | some go => guardD gd put go rest
        | none => none)
      | _, _, _, _ => none
def eqBl : B → B → Bool
  | .row c e ro, .row d e' ro' => eqVs c d && (Nat.beq e e' && ro == ro')
  | .bs l n e ro, .bs l' n' e' ro' => (Nat.beq l l' && Nat.beq n n') && (Nat.beq e e' && ro == ro')
  | _, _ => false
noncomputable def sameB (v : V) (σ σ1 : FS) : Bool := match v with
  | .ptr b _ => eqBl (σ.get b) (σ1.get b)
  | _ => false
noncomputable def cReg (E : Env) (ords : List (Nat × List DOp)) (i : FI) (id : Nat) (ops : Array Oper) (d : Bool) : Option FCl :=
  match d with
  | false => cOps E i ops.toList ops.toList
  | true => match findOrd ords id with
    | some l => match cDraw E i ops.toList l with
      | some g => (match findOrd ords (twinId id) with
        | none => some (g [])
        | some m => match twinOf ops.toList l m, cDraw E i ops.toList m with
          | some (x, y), some g2 => (match cO i x, cO i y with
            | some gx, some gy => some fun call f σ => FOut.rec (motive := fun _ => FOut) .no (fun f1 σ1 => FOut.rec (motive := fun _ => FOut) .no (fun _ σ2 => bc (sameB (gx f1) σ1 σ2) (bc (sameB (gy f1) σ1 σ2) (.norm f1 σ1) .no) .no) (fun _ _ _ => .no) (fun _ _ => .no) (g2 [] call f σ)) (fun _ _ _ => .no) (fun _ _ => .no) (g [] call f σ)
            | _, _ => none)
          | _, _ => none)
      | none => none
    | none => none

noncomputable def condF (x : V) (a b : FOut) : FOut := match x with
  | .bo x => bc x a b
  | _ => .no
noncomputable def cCode (E : Env) (ords : List (Nat × List DOp)) (i : FI) (k : Nat) : Code → Option FCl
  | .skip => some fun _ f σ => .norm f σ
  | .region id ops d => match cReg E ords i id ops d with
    | some x => some x
    | none => some fun _ _ _ => .no
  | .seq a b => match cCode E ords i k a, cCode E ords i k b with
    | some x, some y => some fun call f σ => FOut.rec (motive := fun _ => FOut) .no (fun f' σ' => y call f' σ') (fun j f' σ' => .exit j f' σ') (fun f' σ' => .ret f' σ') (x call f σ)
    | _, _ => none
  | .cond c a b => match cO i c, cCode E ords i k a, cCode E ords i k b with
    | some g, some x, some y => some fun call f σ => condF (g f) (x call f σ) (y call f σ)
    | _, _, _ => none
  | .block id a => match cCode E ords i k a with
    | some x => some fun call f σ => FOut.rec (motive := fun _ => FOut) .no (fun f' σ' => .norm f' σ') (fun j f' σ' => bc (Nat.beq j id) (.norm f' σ') (.exit j f' σ')) (fun f' σ' => .ret f' σ') (x call f σ)
    | none => none
  | .loop a => match cCode E ords i k a with
    | some x => some (loopR x k)
    | none => none
  | .exit id => some fun _ f σ => .exit id f σ
  | .ret => some fun _ f σ => .ret f σ
  | .scope a => cCode E ords i k a
  | .label _ => some fun _ f σ => .norm f σ
  | _ => some fun _ _ _ => .no

noncomputable def cRes (E : Env) (i : FI) : List ResultVar → Option (F → FS → Option (List V))
  | [] => some fun _ _ => some []
  | .tmp t :: l => match cRes E i l with
    | some r => if t < i.n then (match getC (path i.d t) with
      | some g => some fun f σ => match r f σ with
        | some vs => some (g f :: vs)
        | none => none
      | none => none)
      else none
    | none => none
  | .cell a t :: l => match E.ty t, cRes E i l with
    | some ti, some r => if a < i.n then (match getC (path i.d a) with
      | some g => some fun f σ => match g f with
        | .ptr b o => (match r f σ with
          | some vs => (match isAggK ti.k with
            | true => (match ldNF σ b o ti.size with | some c => some (.agg c :: vs) | none => none)
            | false => (match ld1F σ b o with | some c => some (c :: vs) | none => none))
          | none => none)
        | _ => none
      | none => none)
      else none
    | _, _ => none
def scalarF : V → Bool
  | .w .. | .neg .. | .bo _ | .st .. | .nilp | .nils | .nilf | .nili => true
  | _ => false
noncomputable def plainF (l : List V) : Bool := List.rec (motive := fun _ => Bool) true (fun v _ r => bc (match v with
  | .agg cs => allR scalarF cs
  | x => scalarF x) r false) l
noncomputable def tidyF (σ0 σ : FS) (vs : List V) : FS :=
  match oldR σ0.next σ.log with
  | [] => bc (plainF vs) { h := σ.h, next := σ0.next, log := σ0.log } { h := σ.h, next := σ.next, log := σ0.log }
  | l => { h := σ.h, next := σ.next, log := appN l σ0.log }
def oneV : List V → V
  | [v] => v
  | l => .tup l
noncomputable def argsF (d : Nat) (l : List V) : Nat → F → F := List.rec (motive := fun _ => Nat → F → F) (fun _ f => f) (fun v _ ih i f => Option.rec (motive := fun _ => F) .e (fun s => ih (Nat.succ i) (s v f)) (setC (path d i))) l
noncomputable def runFn (n d : Nat) (code : FCl) (res : F → FS → Option (List V)) (call : FCall) (args : List V) (σ : FS) : FV :=
  bc (Nat.ble (lenR args) n) (
    let fin (f : F) (σ' : FS) : FV := bc (Nat.ble σ.next σ'.next) (match res f σ' with
      | some vs => .ok (oneV vs) (tidyF σ σ' vs)
      | none => .no) .no
    FOut.casesOn (motive := fun _ => FV) (code call (argsF d args 0 .e) { h := σ.h, next := σ.next, log := [] }) .no (fun f σ' => fin f σ') (fun _ _ _ => .no) (fun f σ' => fin f σ')) .no
noncomputable def cFn (E : Env) (k : Nat) (f : Nat) : Option (FCall → List V → FS → FV) :=
  match E.fn f with
  | none => none
  | some fi => if fi.ntmps ≤ 4096 then match cCode E fi.ords { d := depth fi.ntmps, n := fi.ntmps, g := E.g } k fi.code, cRes E { d := depth fi.ntmps, n := fi.ntmps, g := E.g } fi.results with
      | some code, some res => some (runFn fi.ntmps (depth fi.ntmps) code res)
      | _, _ => none
    else none
/-- what the functions are, made ready -/
structure FT where
  fn : Nat → Option (FCall → List V → FS → FV)
  prim : Nat → Option (List V → FS → FV)
noncomputable def callF (T : FT) (d : Nat) : FCall := Nat.rec (motive := fun _ => FCall) (fun _ _ _ => .no) (fun _ ih f args σ => Option.casesOn (motive := fun _ => FV) (T.prim f)
    (Option.casesOn (motive := fun _ => FV) (T.fn f) .no (fun g => g ih args σ)) (fun p => p args σ)) d
end Go.Ev
