/- The law of this seat holds of every input: a part of the proof (an evaluator that is proved to answer as the model does, and its runs by the kernel). -/
import Derived.Test.YtaomoiphkcbnkaaGreatDoorEvF10
import Derived.Test.YtaomoiphkcbnkaaGreatDoorEvTab
import Derived.Test.YtaomoiphkcbnkaaGreatDoorEvSl
import Derived.Laws.Externs
import Derived.Lib.MakeNoZero
import Derived.Lib.Bytealg
import Derived.Lib.IndexEntry
set_option linter.unusedVariables false
set_option linter.unusedSimpArgs false
section
namespace Go.Ev
variable {P : Program} {E : Env}

/-- what the program has of a function without a body -/
structure ExtF (P : Program) (f : Nat) (e : Array Value → Sem Value) : Prop where
  fn : ∃ F, P.funcs[f]? = some F ∧ (F.name == "runtime.NumGoroutine") = false ∧ F.body.isNone = true ∧ Extern.findNext F = none ∧ Extern.find F = some e
theorem ExtF.run {f : Nat} {e : Array Value → Sem Value} (h : ExtF P f e) {args : Array Value} {w w' : World} {v : Value} (hr : (e args).run P w = .ok v w') : (callFunc f args).run P w = .ok (.value v) w' := by
  obtain ⟨F, h1, h2, h3, h4, h5⟩ := h.fn
  rw [run_callFunc_extern h1 h2 h3 h4 h5, hr]; rfl

def pNoEscape : List AV → St → Option (AV × St)
  | [x], σ => some (x, σ)
  | _, _ => none
theorem pNoEscape_ok {f : Nat} (h : ExtF P f Extern.AbiNoEscape.same) {args : List AV} {σ σ' : St} {v : AV} (hp : pNoEscape args σ = some (v, σ')) : CallSays P E f args σ v σ' := by
  unfold pNoEscape at hp
  split at hp
  · simp at hp; obtain ⟨rfl, rfl⟩ := hp
    refine .inr fun ρ w vs hr _ hv => ?_
    cases hv
    rename_i h1 hl
    cases hl
    exact ⟨_, ρ, w, h.run rfl, h1, .refl hr⟩
  · cases hp
def pIndex : List AV → St → Option (AV × St)
  | [.str s, .int .u8 c], σ => some (.int .i64 (firstIdx ⟨⟨s⟩⟩ c.toNat.toUInt8), σ)
  | _, _ => none
theorem ba_eq (b : ByteArray) : (⟨⟨b.data.toList⟩⟩ : ByteArray) = b := by cases b; rfl
theorem pIndex_ok {f : Nat} (h : ExtF P f Extern.BytealgIndexByte.indexByte) {args : List AV} {σ σ' : St} {v : AV} (hp : pIndex args σ = some (v, σ')) : CallSays P E f args σ v σ' := by
  unfold pIndex at hp
  split at hp
  · rename_i s c
    simp at hp; obtain ⟨rfl, rfl⟩ := hp
    refine .inr fun ρ w vs hr _ hv => ?_
    cases hv
    rename_i h1 hl
    cases hl
    rename_i h2 hl
    cases hl
    obtain ⟨b, rfl, hb⟩ := h1.inv_str
    rw [h2.inv_int, ← hb, ba_eq]
    exact ⟨_, ρ, w, h.run (run_indexByte_string b c w), .int _ _, .refl hr⟩
  · cases hp
def pCount : List AV → St → Option (AV × St)
  | [.str s, .int .u8 c], σ => some (.int .i64 (Lib.countByte s c.toNat.toUInt8), σ)
  | _, _ => none
theorem pCount_ok {f : Nat} (h : ExtF P f Extern.BytealgCount.count) {args : List AV} {σ σ' : St} {v : AV} (hp : pCount args σ = some (v, σ')) : CallSays P E f args σ v σ' := by
  unfold pCount at hp
  split at hp
  · rename_i s c
    simp at hp; obtain ⟨rfl, rfl⟩ := hp
    refine .inr fun ρ w vs hr _ hv => ?_
    cases hv
    rename_i h1 hl
    cases hl
    rename_i h2 hl
    cases hl
    obtain ⟨b, rfl, hb⟩ := h1.inv_str
    rw [h2.inv_int, ← hb]
    exact ⟨_, ρ, w, h.run (Lib.run_countString b c w), .int _ _, .refl hr⟩
  · cases hp
def pNoZero (e : Nat) : List AV → St → Option (AV × St)
  | [.int .i64 n], σ => if 0 ≤ n ∧ n ≤ 65536 then some (.sl σ.next 0 n.toNat none 1, σ.new (.row (rep n.toNat [.unk]) e false)) else none
  | _, _ => none
theorem unks_rel (ρ : Rho) : ∀ vs : List Value, VRL ρ (rep vs.length [.unk]) vs
  | [] => .nil
  | v :: vs => .cons (.unk v) (unks_rel ρ vs)
theorem pNoZero_ok {f e t : Nat} {ps : Array TypeId} (ht : P.underlying t = some (.slice e)) (h : ExtF P f (Extern.BytealgMakeNoZero.makeNoZero ps #[t])) {args : List AV} {σ σ' : St} {v : AV} (hp : pNoZero e args σ = some (v, σ')) : CallSays P E f args σ v σ' := by
  unfold pNoZero at hp
  split at hp
  · rename_i n
    split at hp
    · rename_i hn
      simp at hp; obtain ⟨rfl, rfl⟩ := hp
      refine .inr fun ρ w vs hr _ hv => ?_
      cases hv
      rename_i h1 hl
      cases hl
      rw [h1.inv_int]
      obtain ⟨m, rfl⟩ : ∃ m : Nat, n = m := ⟨n.toNat, by omega⟩
      obtain ⟨cs, hrun, hle, _⟩ := Lib.run_makeNoZero (P := P) w ps t e ht m (by omega)
      have hd : Post ρ σ w ρ σ w.drew := Post.drew hr 1
      have hu := unks_rel ρ (cs.toList.take m)
      have hlen : (cs.toList.take m).length = m := by simp; omega
      rw [hlen] at hu
      have hpost := new_row_more hd.hr hu (cs.toList.drop m).toArray e
      have hcs : (cs.toList.take m).toArray ++ (cs.toList.drop m).toArray = cs := by
        apply Array.ext'
        simp
      rw [hcs] at hpost
      refine ⟨_, _, _, h.run hrun, ?_, hd.trans hpost⟩
      have hz : (rep m [AV.unk]).length + (cs.toList.drop m).toArray.size = cs.size := by
        rw [(rep_spec [AV.unk] m).1]; simp; omega
      refine .sl (d := 0) (z := (rep m [AV.unk]).length + (cs.toList.drop m).toArray.size) ?_ (fun x hx => by cases hx) (by simpa using hle) (by rw [hz]; omega)
      exact upR_same ..
    · cases hp
  · cases hp

-- the same, fast
def fNoEscape : List V → FS → FV
  | [x], σ => .ok x σ
  | _, _ => .no
noncomputable def idxF (l : Nat) : Nat → Nat → Nat → V := Nat.rec (motive := fun _ => Nat → Nat → Nat → V) (fun _ _ _ => .neg 3 0) (fun _ ih i n c => bc (Nat.beq (Nat.mod n 256) c) (.w 3 i) (ih (Nat.succ i) (Nat.div n 256) c)) l
noncomputable def cntF (l : Nat) : Nat → Nat → Nat := Nat.rec (motive := fun _ => Nat → Nat → Nat) (fun _ _ => 0) (fun _ ih n c => bc (Nat.beq (Nat.mod n 256) c) (Nat.succ (ih (Nat.div n 256) c)) (ih (Nat.div n 256) c)) l
noncomputable def fIndex : List V → FS → FV
  | [.st l n, .w k c], σ => bc (Nat.beq k 4) (bc (Nat.blt c 256) (.ok (idxF l 0 n c) σ) .no) .no
  | _, _ => .no
noncomputable def fCount : List V → FS → FV
  | [.st l n, .w k c], σ => bc (Nat.beq k 4) (bc (Nat.blt c 256) (.ok (.w 3 (cntF l n c)) σ) .no) .no
  | _, _ => .no
noncomputable def fNoZero (e : Nat) : List V → FS → FV
  | [.w k n], σ => bc (Nat.beq k 3) (bc (Nat.ble n 65536) (.ok (.sl σ.next 0 n 0 1) (σ.new (.row (repR n [.unk]) e false))) .no) .no
  | _, _ => .no
/-- a fast one says what the slow one says -/
def PrimR (p : List V → FS → FV) (q : List AV → St → Option (AV × St)) : Prop := ∀ args fs σ v fs', SR fs σ → p args fs = .ok v fs' → ∃ σ', q (V.avs args) σ = some (v.av, σ') ∧ SR fs' σ'
theorem fNoEscape_r : PrimR fNoEscape pNoEscape := by
  intro args fs σ v fs' h hp
  unfold fNoEscape at hp
  split at hp
  · simp at hp; obtain ⟨rfl, rfl⟩ := hp
    exact ⟨σ, rfl, h⟩
  · cases hp
theorem fNoZero_r (e : Nat) : PrimR (fNoZero e) (pNoZero e) := by
  intro args fs σ v fs' h hp
  unfold fNoZero at hp
  split at hp
  · rename_i k n
    simp only [bc_eq] at hp
    split at hp
    · rename_i hk
      have hk : k = 3 := by simpa using hk
      subst hk
      split at hp
      · rename_i hn
        have hn : n ≤ 65536 := by simpa using hn
        simp at hp; obtain ⟨rfl, rfl⟩ := hp
        refine ⟨_, ?_, h.new _⟩
        simp only [V.avs, V.av, kOf, pNoZero]
        rw [if_pos ⟨by omega, by omega⟩]
        have : V.avs (repR n [V.unk]) = rep n [.unk] := repR_eq n [.unk]
        simp only [Int.toNat_natCast, h.next, capO, B.blk, this]
      · cases hp
    · cases hp
  · cases hp
theorem cntF_spec : ∀ (l n c : Nat), c < 256 → cntF l n c = Lib.countByte (nb l n) (UInt8.ofNat c)
  | 0, n, c, _ => rfl
  | l + 1, n, c, hc => by
    have ih := cntF_spec l (n / 256) c hc
    have e : cntF (l + 1) n c = bc (Nat.beq (n % 256) c) (Nat.succ (cntF l (n / 256) c)) (cntF l (n / 256) c) := rfl
    rw [e, ih, bc_eq, beqD]
    unfold Lib.countByte
    simp only [nb, List.count_cons]
    by_cases h : n % 256 = c
    · subst h; simp
    · have h2 : (UInt8.ofNat (n % 256) == UInt8.ofNat c) = false := by
        simp only [beq_eq_false_iff_ne, ne_eq]
        intro e
        have := congrArg UInt8.toNat e
        simp at this
        omega
      rw [h2]; simp [h]
theorem fCount_r : PrimR fCount pCount := by
  intro args fs σ v fs' h hp
  unfold fCount at hp
  split at hp
  · rename_i l n k c
    simp only [bc_eq] at hp
    split at hp
    · rename_i hk
      have hk : k = 4 := by simpa using hk
      subst hk
      split at hp
      · rename_i hc
        have hc : c < 256 := by simpa using hc
        simp at hp; obtain ⟨rfl, rfl⟩ := hp
        refine ⟨σ, ?_, h⟩
        simp only [V.avs, V.av, kOf, pCount, Int.toNat_natCast, cntF_spec l n c hc]
      · cases hp
    · cases hp
  · cases hp
/-- the first place, counted from i -/
def idxS (c : UInt8) : List UInt8 → Nat → Int
  | [], _ => -1
  | x :: l, i => if x == c then i else idxS c l (i + 1)
theorem idx_find (s : List UInt8) (c : UInt8) : ∀ (r : List UInt8) (i : Nat), (∀ k, k < r.length → s[i + k]? = r[k]?) →
    (match (List.range' i r.length).find? (fun j => (⟨⟨s⟩⟩ : ByteArray)[j]! == c) with | some j => (j : Int) | none => -1) = idxS c r i
  | [], i, _ => rfl
  | x :: r, i, h => by
    have h0 : s[i]? = some x := by simpa using h 0 (by simp)
    have hx : (⟨⟨s⟩⟩ : ByteArray)[i]! = x := by
      have hlt : i < s.length := (List.getElem?_eq_some_iff.1 h0).1
      have hlt' : i < (⟨⟨s⟩⟩ : ByteArray).size := hlt
      rw [getElem!_pos (⟨⟨s⟩⟩ : ByteArray) i hlt']
      show s[i] = x
      rw [List.getElem?_eq_getElem hlt] at h0
      exact Option.some.inj h0
    have ih := idx_find s c r (i + 1) (fun k hk => by
      have := h (k + 1) (by simpa using hk)
      rw [show i + 1 + k = i + (k + 1) by omega, this]; simp)
    simp only [List.length_cons, List.range'_succ, List.find?_cons, hx, idxS]
    by_cases hc : (x == c) = true
    · simp [hc]
    · have hc : (x == c) = false := by simpa using hc
      simp only [hc]
      simpa using ih
theorem firstIdx_idxS (s : List UInt8) (c : UInt8) : firstIdx ⟨⟨s⟩⟩ c = idxS c s 0 := by
  have := idx_find s c s 0 (fun k _ => by simp)
  rw [← this]
  unfold firstIdx
  have e : (⟨⟨s⟩⟩ : ByteArray).size = s.length := rfl
  rw [e, List.range_eq_range']
  rfl
theorem idxF_spec : ∀ (l i n c : Nat), c < 256 → (idxF l i n c).av = .int .i64 (idxS (UInt8.ofNat c) (nb l n) i)
  | 0, i, n, c, _ => rfl
  | l + 1, i, n, c, hc => by
    have ih := idxF_spec l (i + 1) (n / 256) c hc
    have e : idxF (l + 1) i n c = bc (Nat.beq (n % 256) c) (.w 3 i) (idxF l (i + 1) (n / 256) c) := rfl
    rw [e, bc_eq, beqD]
    simp only [nb, idxS]
    by_cases h : n % 256 = c
    · subst h; simp [V.av, kOf]
    · have h2 : (UInt8.ofNat (n % 256) == UInt8.ofNat c) = false := by
        simp only [beq_eq_false_iff_ne, ne_eq]
        intro e
        have := congrArg UInt8.toNat e
        simp at this
        omega
      rw [if_neg (by simpa using h), if_neg (by rw [h2]; simp)]
      exact ih
theorem fIndex_r : PrimR fIndex pIndex := by
  intro args fs σ v fs' h hp
  unfold fIndex at hp
  split at hp
  · rename_i l n k c
    simp only [bc_eq] at hp
    split at hp
    · rename_i hk
      have hk : k = 4 := by simpa using hk
      subst hk
      split at hp
      · rename_i hc
        have hc : c < 256 := by simpa using hc
        simp at hp; obtain ⟨rfl, rfl⟩ := hp
        refine ⟨σ, ?_, h⟩
        simp only [V.avs, V.av, kOf, pIndex, Int.toNat_natCast, firstIdx_idxS, idxF_spec l 0 n c hc]
      · cases hp
    · cases hp
  · cases hp
end Go.Ev
end
section
namespace Go.Ev
variable {P : Program} {E : Env}

def pCompare : List AV → St → Option (AV × St)
  | [.str a, .str b], σ => some (.int .i64 (Lib.compareBytes a b), σ)
  | _, _ => none
theorem pCompare_ok {f : Nat} (h : ExtF P f Extern.BytealgCompare.compare) {args : List AV} {σ σ' : St} {v : AV} (hp : pCompare args σ = some (v, σ')) : CallSays P E f args σ v σ' := by
  unfold pCompare at hp
  split at hp
  · rename_i s c
    simp at hp; obtain ⟨rfl, rfl⟩ := hp
    refine .inr fun ρ w vs hr _ hv => ?_
    cases hv
    rename_i h1 hl
    cases hl
    rename_i h2 hl
    cases hl
    obtain ⟨a, rfl, ha⟩ := h1.inv_str
    obtain ⟨b, rfl, hb⟩ := h2.inv_str
    rw [← ha, ← hb]
    exact ⟨_, ρ, w, h.run (Lib.run_compareString a b w), .int _ _, .refl hr⟩
  · cases hp
theorem compare_less : ∀ a b : List UInt8, Lib.compareBytes a b = if lessS a b then -1 else if eqS a b then 0 else 1
  | [], [] => rfl
  | [], _ :: _ => rfl
  | _ :: _, [] => rfl
  | x :: a, y :: b => by
    have ih := compare_less a b
    simp only [Lib.compareBytes, lessS, eqS]
    by_cases h : x < y
    · have hn : x.toNat < y.toNat := UInt8.lt_iff_toNat_lt.1 h
      have h1 : Nat.blt x.toNat y.toNat = true := blt_true hn
      simp [h, h1]
    · have hn : ¬ x.toNat < y.toNat := fun e => h (UInt8.lt_iff_toNat_lt.2 e)
      have h1 : Nat.blt x.toNat y.toNat = false := by
        cases hb : Nat.blt x.toNat y.toNat with
        | false => rfl
        | true => exact absurd (by simpa using hb) hn
      by_cases h2 : y < x
      · have hn2 : y.toNat < x.toNat := UInt8.lt_iff_toNat_lt.1 h2
        have h3 : Nat.beq x.toNat y.toNat = false := by
          cases hb : Nat.beq x.toNat y.toNat with
          | false => rfl
          | true => have := Nat.eq_of_beq_eq_true hb; omega
        simp [h, h1, h2, h3]
      · have hn2 : ¬ y.toNat < x.toNat := fun e => h2 (UInt8.lt_iff_toNat_lt.2 e)
        have h3 : Nat.beq x.toNat y.toNat = true := by
          have : x.toNat = y.toNat := by omega
          rw [this]; exact Nat.beq_refl _
        simp [h, h1, h2, h3, ih]
noncomputable def fCompare : List V → FS → FV
  | [.st l n, .st l' n'], σ => .ok (bc (lessR l' l n l' n') (.neg 3 0) (bc (eqSF l n l' n') (.w 3 0) (.w 3 1))) σ
  | _, _ => .no
theorem fCompare_r : PrimR fCompare pCompare := by
  intro args fs σ v fs' h hp
  unfold fCompare at hp
  split at hp
  · rename_i l n l' n'
    simp at hp; obtain ⟨rfl, rfl⟩ := hp
    refine ⟨σ, ?_, h⟩
    simp only [V.avs, V.av, pCompare, compare_less, bc_eq, lessR_spec _ _ _ _ _ (Nat.le_refl _), eqSF_spec]
    by_cases h1 : lessS (nb l n) (nb l' n') = true
    · simp [h1, V.av, kOf]
    · by_cases h2 : eqS (nb l n) (nb l' n') = true
      · simp [h1, h2, V.av, kOf]
      · simp [h1, h2, V.av, kOf]
  · cases hp
end Go.Ev
end
section
namespace Go.Ev
variable {P : Program} {E : Env}

def pIndexStr (g : Nat) : List AV → St → Option (AV × St)
  | [.str a, .str b], σ => match σ.get g with
    | .row [.low .i64 m r] _ _ => if m = 3001 ∧ 2 ≤ b.length ∧ b.length ≤ r ∧ a.length < 4294967281 then some (.int .i64 (Lib.index a b), σ) else none
    | _ => none
  | _, _ => none
theorem pIndexStr_ok {f g : Nat} (hg : P.globals.findIdx? (·.name == "internal/bytealg.MaxLen") = some g) (hlt : g < E.g) (h : ExtF P f Extern.BytealgIndex.index) {args : List AV} {σ σ' : St} {v : AV}
    (hp : pIndexStr g args σ = some (v, σ')) : CallSays P E f args σ v σ' := by
  unfold pIndexStr at hp
  split at hp
  · rename_i s c
    split at hp
    · rename_i m r e ro hget
      split at hp
      · rename_i hh
        obtain ⟨rfl, h2, h3, h4⟩ := hh
        simp at hp; obtain ⟨rfl, rfl⟩ := hp
        refine .inr fun ρ w vs hr hgl hv => ?_
        cases hv
        rename_i h1 hl
        cases hl
        rename_i h5 hl
        cases hl
        obtain ⟨a, rfl, ha⟩ := h1.inv_str
        obtain ⟨b, rfl, hb⟩ := h5.inv_str
        obtain ⟨z, hz⟩ := hgl g hlt
        obtain ⟨hc, _⟩ := hr.row g g 0 z _ e ro hz hget
        obtain ⟨x, hx, hxr⟩ := hc 0 _ rfl
        obtain ⟨n, rfl, hn, _⟩ := hxr.inv_low
        rw [lowP, if_neg (by decide), if_neg (by decide), if_neg (by decide), if_neg (by decide)] at hn
        have la : a.size = s.length := by rw [← ha]; exact Array.length_toList.symm
        have lb : b.size = c.length := by rw [← hb]; exact Array.length_toList.symm
        rw [← ha, ← hb]
        exact ⟨_, ρ, w, h.run (Lib.run_indexString a b w g n hg hx (by omega) (by omega) (by omega)), .int _ _, .refl hr⟩
      · cases hp
    · cases hp
  · cases hp
def idx2 (sub : List UInt8) : List UInt8 → Nat → Int
  | [], i => if sub.isEmpty then i else -1
  | b :: l, i => if sub.isPrefixOf (b :: l) then i else idx2 sub l (i + 1)
theorem idx2_spec (sub : List UInt8) : ∀ (s : List UInt8) (i : Nat), idx2 sub s i = if Lib.index s sub = -1 then -1 else Lib.index s sub + i
  | [], i => by
    unfold idx2 Lib.index
    cases sub.isEmpty <;> simp
  | b :: l, i => by
    have ih := idx2_spec sub l (i + 1)
    have hge := Lib.index_ge l sub
    unfold idx2 Lib.index
    split
    · simp
    · rw [ih]
      by_cases h : Lib.index l sub = -1
      · simp [h]
      · have h1 : ¬ Lib.index l sub + 1 = -1 := by omega
        have h2 : (Lib.index l sub == -1) = false := by simpa using h
        rw [if_neg h, h2]
        simp only [Bool.false_eq_true, if_false]
        rw [if_neg h1]
        push_cast; omega
noncomputable def fIndexStr (g : Nat) : List V → FS → FV
  | [.st l n, .st l' n'], σ => match σ.get g with
    | .row cs _ _ => match cs with
      | [.low k m r] => bc (Nat.beq k 3) (bc (Nat.beq m 3001) (bc (Nat.ble 2 l') (bc (Nat.ble l' r) (bc (Nat.blt l 4294967281) (.ok (enc (.int .i64 (idx2 (nb l' n') (nb l n) 0))) σ) .no) .no) .no) .no) .no
      | _ => .no
    | _ => .no
  | _, _ => .no
theorem fIndexStr_r (g : Nat) : PrimR (fIndexStr g) (pIndexStr g) := by
  intro args fs σ v fs' h hp
  unfold fIndexStr at hp
  split at hp
  · rename_i l n l' n'
    split at hp
    · rename_i cs e ro hget
      split at hp
      · rename_i k m r
        simp only [bc_eq] at hp
        split at hp
        · rename_i hk
          split at hp
          · rename_i hm
            split at hp
            · rename_i h2
              split at hp
              · rename_i h3
                split at hp
                · rename_i h4
                  have hk : k = 3 := by simpa using hk
                  have hm : m = 3001 := by simpa using hm
                  have h2 : 2 ≤ l' := by simpa using h2
                  have h3 : l' ≤ r := by simpa using h3
                  have h4 : l < 4294967281 := by simpa using h4
                  subst hk hm
                  simp at hp; obtain ⟨rfl, rfl⟩ := hp
                  refine ⟨σ, ?_, h⟩
                  have hσ : σ.get g = .row [.low .i64 3001 r] e ro := by rw [h.get, hget]; rfl
                  have hi : idx2 (nb l' n') (nb l n) 0 = Lib.index (nb l n) (nb l' n') := by
                    rw [idx2_spec]
                    by_cases hx : Lib.index (nb l n) (nb l' n') = -1
                    · simp [hx]
                    · rw [if_neg hx]; simp
                  simp only [V.avs, V.av, pIndexStr, hσ]
                  rw [if_pos ⟨trivial, by rw [nb_length]; exact h2, by rw [nb_length]; exact h3, by rw [nb_length]; exact h4⟩, hi, enc_av]
                · cases hp
              · cases hp
            · cases hp
          · cases hp
        · cases hp
      · cases hp
    · cases hp
  · cases hp
end Go.Ev
end
