/- The law of this seat holds of every input: a part of the proof (an evaluator that is proved to answer as the model does, and its runs by the kernel). -/
import Derived.Test.YtaomoiphkcbnkaaGreatDoorEvT
set_option linter.unusedVariables false
set_option linter.unusedSimpArgs false
section
namespace Go.Ev

/-- A value of the fast evaluator: whole numbers are natural numbers (or below nought), texts are numbers. -/
inductive V where
  | w (k n : Nat)
  | neg (k n : Nat)
  | low (k m r : Nat)
  | bo (x : Bool)
  | st (len num : Nat)
  | nilp
  | ptr (b o : Nat)
  | nils
  | sl (b o n c e : Nat)
  | esl
  | agg (cs : List V)
  | tup (vs : List V)
  | fn (f : Nat) (cs : List V)
  | nilf
  | nili
  | ifc (t : Nat) (v : V)
  | unk
  deriving Inhabited

/-- a block of the fast evaluator -/
inductive B where
  | row (cells : List V) (elem : Nat) (ro : Bool)
  | bs (len num : Nat) (elem : Nat) (ro : Bool)
  | iter (len num pos : Nat)
  | dead
  deriving Inhabited

/-- a tree of blocks -/
inductive H where
  | e
  | n (v : B) (l r : H)
/-- a tree of values, eight to a node -/
inductive F where
  | e
  | l (v0 v1 v2 v3 v4 v5 v6 v7 : V)
  | n (a0 a1 a2 a3 a4 a5 a6 a7 : F)
inductive I8 where
  | i0 | i1 | i2 | i3 | i4 | i5 | i6 | i7

structure FS where
  h : H
  next : Nat
  log : List Nat

def capO : Nat → Option Nat
  | 0 => none
  | c + 1 => some c
def nb : Nat → Nat → List UInt8
  | 0, _ => []
  | l + 1, n => UInt8.ofNat (n % 256) :: nb l (n / 256)
def kOf : Nat → IntKind
  | 0 => .i8 | 1 => .i16 | 2 => .i32 | 3 => .i64 | 4 => .u8 | 5 => .u16 | 6 => .u32 | _ => .u64
mutual
def V.av : V → AV
  | .w k n => .int (kOf k) n
  | .neg k n => .int (kOf k) (Int.negSucc n)
  | .low k m r => .low (kOf k) m r
  | .bo x => .bool x
  | .st l n => .str (nb l n)
  | .nilp => .nilp
  | .ptr b o => .ptr b o
  | .nils => .nils
  | .sl b o n c e => .sl b o n (capO c) e
  | .esl => .esl
  | .agg cs => .agg (V.avs cs)
  | .tup vs => .tup (V.avs vs)
  | .fn f cs => .fn f (V.avs cs)
  | .nilf => .nilf
  | .nili => .nili
  | .ifc t v => .ifc t (V.av v)
  | .unk => .unk
def V.avs : List V → List AV
  | [] => []
  | v :: l => V.av v :: V.avs l
end
def B.blk : B → Blk
  | .row cs e ro => .row (V.avs cs) e ro
  | .bs l n e ro => .row (Go.Ev.bytesOf (nb l n)) e ro
  | .iter l n p => .iter (nb l n) p
  | .dead => .dead
end Go.Ev
end
section
namespace Go.Ev
def U : V := .tup []
noncomputable def gl0 (f : F) : V := F.rec (motive := fun _ => V) (.tup []) (fun v0 _ _ _ _ _ _ _ => v0) (fun _ _ _ _ _ _ _ _ _ _ _ _ _ _ _ _ => .tup []) f
noncomputable def ch0 (f : F) : F := F.rec (motive := fun _ => F) .e (fun _ _ _ _ _ _ _ _ => .e) (fun a0 _ _ _ _ _ _ _ _ _ _ _ _ _ _ _ => a0) f
noncomputable def sl0 (v : V) (f : F) : F := F.rec (motive := fun _ => F) (.l v U U U U U U U) (fun _ v1 v2 v3 v4 v5 v6 v7 => .l v v1 v2 v3 v4 v5 v6 v7) (fun _ _ _ _ _ _ _ _ _ _ _ _ _ _ _ _ => .l v U U U U U U U) f
noncomputable def st0 (x f : F) : F := F.rec (motive := fun _ => F) (.n x .e .e .e .e .e .e .e) (fun _ _ _ _ _ _ _ _ => .n x .e .e .e .e .e .e .e) (fun _ a1 a2 a3 a4 a5 a6 a7 _ _ _ _ _ _ _ _ => .n x a1 a2 a3 a4 a5 a6 a7) f
noncomputable def gl1 (f : F) : V := F.rec (motive := fun _ => V) (.tup []) (fun _ v1 _ _ _ _ _ _ => v1) (fun _ _ _ _ _ _ _ _ _ _ _ _ _ _ _ _ => .tup []) f
noncomputable def ch1 (f : F) : F := F.rec (motive := fun _ => F) .e (fun _ _ _ _ _ _ _ _ => .e) (fun _ a1 _ _ _ _ _ _ _ _ _ _ _ _ _ _ => a1) f
noncomputable def sl1 (v : V) (f : F) : F := F.rec (motive := fun _ => F) (.l U v U U U U U U) (fun v0 _ v2 v3 v4 v5 v6 v7 => .l v0 v v2 v3 v4 v5 v6 v7) (fun _ _ _ _ _ _ _ _ _ _ _ _ _ _ _ _ => .l U v U U U U U U) f
noncomputable def st1 (x f : F) : F := F.rec (motive := fun _ => F) (.n .e x .e .e .e .e .e .e) (fun _ _ _ _ _ _ _ _ => .n .e x .e .e .e .e .e .e) (fun a0 _ a2 a3 a4 a5 a6 a7 _ _ _ _ _ _ _ _ => .n a0 x a2 a3 a4 a5 a6 a7) f
noncomputable def gl2 (f : F) : V := F.rec (motive := fun _ => V) (.tup []) (fun _ _ v2 _ _ _ _ _ => v2) (fun _ _ _ _ _ _ _ _ _ _ _ _ _ _ _ _ => .tup []) f
noncomputable def ch2 (f : F) : F := F.rec (motive := fun _ => F) .e (fun _ _ _ _ _ _ _ _ => .e) (fun _ _ a2 _ _ _ _ _ _ _ _ _ _ _ _ _ => a2) f
noncomputable def sl2 (v : V) (f : F) : F := F.rec (motive := fun _ => F) (.l U U v U U U U U) (fun v0 v1 _ v3 v4 v5 v6 v7 => .l v0 v1 v v3 v4 v5 v6 v7) (fun _ _ _ _ _ _ _ _ _ _ _ _ _ _ _ _ => .l U U v U U U U U) f
noncomputable def st2 (x f : F) : F := F.rec (motive := fun _ => F) (.n .e .e x .e .e .e .e .e) (fun _ _ _ _ _ _ _ _ => .n .e .e x .e .e .e .e .e) (fun a0 a1 _ a3 a4 a5 a6 a7 _ _ _ _ _ _ _ _ => .n a0 a1 x a3 a4 a5 a6 a7) f
noncomputable def gl3 (f : F) : V := F.rec (motive := fun _ => V) (.tup []) (fun _ _ _ v3 _ _ _ _ => v3) (fun _ _ _ _ _ _ _ _ _ _ _ _ _ _ _ _ => .tup []) f
noncomputable def ch3 (f : F) : F := F.rec (motive := fun _ => F) .e (fun _ _ _ _ _ _ _ _ => .e) (fun _ _ _ a3 _ _ _ _ _ _ _ _ _ _ _ _ => a3) f
noncomputable def sl3 (v : V) (f : F) : F := F.rec (motive := fun _ => F) (.l U U U v U U U U) (fun v0 v1 v2 _ v4 v5 v6 v7 => .l v0 v1 v2 v v4 v5 v6 v7) (fun _ _ _ _ _ _ _ _ _ _ _ _ _ _ _ _ => .l U U U v U U U U) f
noncomputable def st3 (x f : F) : F := F.rec (motive := fun _ => F) (.n .e .e .e x .e .e .e .e) (fun _ _ _ _ _ _ _ _ => .n .e .e .e x .e .e .e .e) (fun a0 a1 a2 _ a4 a5 a6 a7 _ _ _ _ _ _ _ _ => .n a0 a1 a2 x a4 a5 a6 a7) f
noncomputable def gl4 (f : F) : V := F.rec (motive := fun _ => V) (.tup []) (fun _ _ _ _ v4 _ _ _ => v4) (fun _ _ _ _ _ _ _ _ _ _ _ _ _ _ _ _ => .tup []) f
noncomputable def ch4 (f : F) : F := F.rec (motive := fun _ => F) .e (fun _ _ _ _ _ _ _ _ => .e) (fun _ _ _ _ a4 _ _ _ _ _ _ _ _ _ _ _ => a4) f
noncomputable def sl4 (v : V) (f : F) : F := F.rec (motive := fun _ => F) (.l U U U U v U U U) (fun v0 v1 v2 v3 _ v5 v6 v7 => .l v0 v1 v2 v3 v v5 v6 v7) (fun _ _ _ _ _ _ _ _ _ _ _ _ _ _ _ _ => .l U U U U v U U U) f
noncomputable def st4 (x f : F) : F := F.rec (motive := fun _ => F) (.n .e .e .e .e x .e .e .e) (fun _ _ _ _ _ _ _ _ => .n .e .e .e .e x .e .e .e) (fun a0 a1 a2 a3 _ a5 a6 a7 _ _ _ _ _ _ _ _ => .n a0 a1 a2 a3 x a5 a6 a7) f
noncomputable def gl5 (f : F) : V := F.rec (motive := fun _ => V) (.tup []) (fun _ _ _ _ _ v5 _ _ => v5) (fun _ _ _ _ _ _ _ _ _ _ _ _ _ _ _ _ => .tup []) f
noncomputable def ch5 (f : F) : F := F.rec (motive := fun _ => F) .e (fun _ _ _ _ _ _ _ _ => .e) (fun _ _ _ _ _ a5 _ _ _ _ _ _ _ _ _ _ => a5) f
noncomputable def sl5 (v : V) (f : F) : F := F.rec (motive := fun _ => F) (.l U U U U U v U U) (fun v0 v1 v2 v3 v4 _ v6 v7 => .l v0 v1 v2 v3 v4 v v6 v7) (fun _ _ _ _ _ _ _ _ _ _ _ _ _ _ _ _ => .l U U U U U v U U) f
noncomputable def st5 (x f : F) : F := F.rec (motive := fun _ => F) (.n .e .e .e .e .e x .e .e) (fun _ _ _ _ _ _ _ _ => .n .e .e .e .e .e x .e .e) (fun a0 a1 a2 a3 a4 _ a6 a7 _ _ _ _ _ _ _ _ => .n a0 a1 a2 a3 a4 x a6 a7) f
noncomputable def gl6 (f : F) : V := F.rec (motive := fun _ => V) (.tup []) (fun _ _ _ _ _ _ v6 _ => v6) (fun _ _ _ _ _ _ _ _ _ _ _ _ _ _ _ _ => .tup []) f
noncomputable def ch6 (f : F) : F := F.rec (motive := fun _ => F) .e (fun _ _ _ _ _ _ _ _ => .e) (fun _ _ _ _ _ _ a6 _ _ _ _ _ _ _ _ _ => a6) f
noncomputable def sl6 (v : V) (f : F) : F := F.rec (motive := fun _ => F) (.l U U U U U U v U) (fun v0 v1 v2 v3 v4 v5 _ v7 => .l v0 v1 v2 v3 v4 v5 v v7) (fun _ _ _ _ _ _ _ _ _ _ _ _ _ _ _ _ => .l U U U U U U v U) f
noncomputable def st6 (x f : F) : F := F.rec (motive := fun _ => F) (.n .e .e .e .e .e .e x .e) (fun _ _ _ _ _ _ _ _ => .n .e .e .e .e .e .e x .e) (fun a0 a1 a2 a3 a4 a5 _ a7 _ _ _ _ _ _ _ _ => .n a0 a1 a2 a3 a4 a5 x a7) f
noncomputable def gl7 (f : F) : V := F.rec (motive := fun _ => V) (.tup []) (fun _ _ _ _ _ _ _ v7 => v7) (fun _ _ _ _ _ _ _ _ _ _ _ _ _ _ _ _ => .tup []) f
noncomputable def ch7 (f : F) : F := F.rec (motive := fun _ => F) .e (fun _ _ _ _ _ _ _ _ => .e) (fun _ _ _ _ _ _ _ a7 _ _ _ _ _ _ _ _ => a7) f
noncomputable def sl7 (v : V) (f : F) : F := F.rec (motive := fun _ => F) (.l U U U U U U U v) (fun v0 v1 v2 v3 v4 v5 v6 _ => .l v0 v1 v2 v3 v4 v5 v6 v) (fun _ _ _ _ _ _ _ _ _ _ _ _ _ _ _ _ => .l U U U U U U U v) f
noncomputable def st7 (x f : F) : F := F.rec (motive := fun _ => F) (.n .e .e .e .e .e .e .e x) (fun _ _ _ _ _ _ _ _ => .n .e .e .e .e .e .e .e x) (fun a0 a1 a2 a3 a4 a5 a6 _ _ _ _ _ _ _ _ _ => .n a0 a1 a2 a3 a4 a5 a6 x) f
noncomputable def selGl {α : Type} (i : I8) (k : (F → V) → Option α) : Option α := (I8.casesOn (motive := fun _ => Option α) i (k gl0) (k gl1) (k gl2) (k gl3) (k gl4) (k gl5) (k gl6) (k gl7))
noncomputable def selCh {α : Type} (i : I8) (k : (F → F) → Option α) : Option α := (I8.casesOn (motive := fun _ => Option α) i (k ch0) (k ch1) (k ch2) (k ch3) (k ch4) (k ch5) (k ch6) (k ch7))
noncomputable def selSl {α : Type} (i : I8) (k : (V → F → F) → Option α) : Option α := (I8.casesOn (motive := fun _ => Option α) i (k sl0) (k sl1) (k sl2) (k sl3) (k sl4) (k sl5) (k sl6) (k sl7))
noncomputable def selSt {α : Type} (i : I8) (k : (F → F) → (F → F → F) → Option α) : Option α := (I8.casesOn (motive := fun _ => Option α) i (k ch0 st0) (k ch1 st1) (k ch2 st2) (k ch3 st3) (k ch4 st4) (k ch5 st5) (k ch6 st6) (k ch7 st7))
noncomputable def getC : List I8 → Option (F → V)
  | [] => none
  | [i] => selGl i some
  | i :: p => match getC p with
    | some g => selCh i fun c => some fun f => g (c f)
    | none => none
noncomputable def setC : List I8 → Option (V → F → F)
  | [] => none
  | [i] => selSl i some
  | i :: p => match setC p with
    | some s => selSt i fun c t => some fun v f => t (s v (c f)) f
    | none => none
inductive FOut where
  | no
  | norm (fr : F) (σ : FS)
  | exit (id : Nat) (fr : F) (σ : FS)
  | ret (fr : F) (σ : FS)
inductive FR where
  | no
  | val (v : V) (σ : FS)
  | call (f : Nat) (args : List V)
inductive FV where
  | no
  | ok (v : V) (σ : FS)
abbrev FCall := Nat → List V → FS → FV
abbrev FCl := FCall → F → FS → FOut
noncomputable def bc {α : Type} (c : Bool) (x y : α) : α := Bool.rec (motive := fun _ => α) y x c
noncomputable def H.get (t : H) : Nat → B := H.rec (motive := fun _ => Nat → B) (fun _ => .dead) (fun v _ _ l r k => Nat.rec (motive := fun _ => B) v (fun _ _ => Nat.rec (motive := fun _ => B) (r (Nat.shiftRight k 1)) (fun _ _ => l (Nat.shiftRight k 1)) (Nat.land k 1)) k) t
noncomputable def H.one (f : Nat) : Nat → B → H := Nat.rec (motive := fun _ => Nat → B → H) (fun _ v => .n v .e .e) (fun _ ih k v => Nat.rec (motive := fun _ => H) (.n v .e .e) (fun _ _ => Nat.rec (motive := fun _ => H) (.n .dead .e (ih (Nat.shiftRight k 1) v)) (fun _ _ => .n .dead (ih (Nat.shiftRight k 1) v) .e) (Nat.land k 1)) k) f
noncomputable def H.set (t : H) : Nat → B → H := H.rec (motive := fun _ => Nat → B → H) (fun k v => H.one k k v) (fun u l r sl sr k v => Nat.rec (motive := fun _ => H) (.n v l r) (fun _ _ => Nat.rec (motive := fun _ => H) (.n u l (sr (Nat.shiftRight k 1) v)) (fun _ _ => .n u (sl (Nat.shiftRight k 1) v) r) (Nat.land k 1)) k) t
noncomputable def nthR (l : List V) : Nat → Option V := List.rec (motive := fun _ => Nat → Option V) (fun _ => none) (fun x _ ih n => Nat.rec (motive := fun _ => Option V) (some x) (fun m _ => ih m) n) l
noncomputable def dropR (l : List V) : Nat → List V := List.rec (motive := fun _ => Nat → List V) (fun _ => []) (fun x l ih n => Nat.rec (motive := fun _ => List V) (x :: l) (fun m _ => ih m) n) l
noncomputable def takeR (l : List V) : Nat → Option (List V) := List.rec (motive := fun _ => Nat → Option (List V)) (fun n => Nat.rec (motive := fun _ => Option (List V)) (some []) (fun _ _ => none) n) (fun x _ ih n => Nat.rec (motive := fun _ => Option (List V)) (some []) (fun m _ => Option.rec (motive := fun _ => Option (List V)) none (fun r => some (x :: r)) (ih m)) n) l
noncomputable def putR (l : List V) : Nat → List V → Option (List V) := List.rec (motive := fun _ => Nat → List V → Option (List V))
  (fun _ vs => List.rec (motive := fun _ => Option (List V)) (some []) (fun _ _ _ => none) vs)
  (fun x l ih o vs => List.rec (motive := fun _ => Option (List V)) (some (x :: l)) (fun v vs' _ => Nat.rec (motive := fun _ => Option (List V)) (Option.rec (motive := fun _ => Option (List V)) none (fun r => some (v :: r)) (ih 0 vs')) (fun o' _ => Option.rec (motive := fun _ => Option (List V)) none (fun r => some (x :: r)) (ih o' (v :: vs'))) o) vs) l
noncomputable def lenR (l : List V) : Nat := List.rec (motive := fun _ => Nat) 0 (fun _ _ n => Nat.succ n) l
noncomputable def appR (l m : List V) : List V := List.rec (motive := fun _ => List V) m (fun x _ r => x :: r) l
noncomputable def allR (p : V → Bool) (l : List V) : Bool := List.rec (motive := fun _ => Bool) true (fun x _ r => bc (p x) r false) l
noncomputable def repR (n : Nat) (z : List V) : List V := Nat.rec (motive := fun _ => List V) [] (fun _ r => appR z r) n
noncomputable def loopR (body : FCl) (n : Nat) : FCl := Nat.rec (motive := fun _ => FCl) (fun _ _ _ => .no) (fun _ ih call fr σ => FOut.rec (motive := fun _ => FOut) .no (fun fr' σ' => ih call fr' σ') (fun i fr' σ' => .exit i fr' σ') (fun fr' σ' => .ret fr' σ') (body call fr σ)) n
noncomputable def memR (l : List Nat) (b : Nat) : Bool := List.rec (motive := fun _ => Bool) false (fun x _ r => bc (Nat.beq x b) true r) l
noncomputable def oldR (n : Nat) (l : List Nat) : List Nat := List.rec (motive := fun _ => List Nat) [] (fun x _ r => bc (Nat.blt x n) (x :: r) r) l
noncomputable def appN (l m : List Nat) : List Nat := List.rec (motive := fun _ => List Nat) m (fun x _ r => x :: r) l
noncomputable def lessR (f : Nat) : Nat → Nat → Nat → Nat → Bool := Nat.rec (motive := fun _ => Nat → Nat → Nat → Nat → Bool) (fun _ _ _ _ => false) (fun _ ih l n l' n' => Nat.rec (motive := fun _ => Bool) false (fun l1' _ => Nat.rec (motive := fun _ => Bool) true (fun l1 _ =>
  bc (Nat.beq (Nat.mod n 256) (Nat.mod n' 256)) (ih l1 (Nat.div n 256) l1' (Nat.div n' 256)) (Nat.blt (Nat.mod n 256) (Nat.mod n' 256))) l) l') f
end Go.Ev
end
