/- The law of this seat holds of every input: a part of the proof (an evaluator that is proved to answer as the model does, and its runs by the kernel). -/
import Derived.Test.YtaomoiphkcbnkaaGreatDoorEvF1
import Derived.Test.YtaomoiphkcbnkaaGreatDoorEvRel
set_option linter.unusedVariables false
set_option linter.unusedSimpArgs false
namespace Go.Ev

/-- the fast evaluator's memory stands for the evaluator's -/
structure SR (f : FS) (σ : St) : Prop where
  next : σ.next = f.next
  log : ∀ b, b ∈ σ.log ↔ b ∈ f.log
  get : ∀ b, σ.get b = (f.get b).blk

variable {f f' : FS} {σ σ' : St}
theorem n_add (a b : Nat) : Nat.add a b = a + b := rfl
theorem n_sub (a b : Nat) : Nat.sub a b = a - b := rfl
theorem n_mul (a b : Nat) : Nat.mul a b = a * b := rfl
theorem n_div (a b : Nat) : Nat.div a b = a / b := rfl
theorem n_mod (a b : Nat) : Nat.mod a b = a % b := rfl
theorem n_pow (a b : Nat) : Nat.pow a b = a ^ b := rfl

theorem FS.get_def (f : FS) (b : Nat) : f.get b = if b < f.next then f.h.get b else .dead := by
  unfold FS.get; rw [bc_eq]
  by_cases h : b < f.next
  · rw [if_pos h, if_pos (by simpa using h)]
  · rw [if_neg h, if_neg (by simpa using h)]
theorem FS.get_new (f : FS) (x : B) (b : Nat) : (f.new x).get b = if b = f.next then x else f.get b := by
  rw [FS.get_def, FS.get_def]
  show (if b < f.next + 1 then (f.h.set f.next x).get b else .dead) = _
  rw [H.get_set]
  by_cases h : b = f.next
  · subst h; simp
  · rw [if_neg h, if_neg h]
    by_cases h2 : b < f.next
    · rw [if_pos (by omega), if_pos h2]
    · rw [if_neg (by omega), if_neg h2]
theorem FS.get_upd (f : FS) (c : Nat) (x : B) (b : Nat) (hc : c < f.next) : (f.upd c x).get b = if b = c then x else f.get b := by
  rw [FS.get_def, FS.get_def]
  show (if b < f.next then (f.h.set c x).get b else .dead) = _
  rw [H.get_set]
  by_cases h : b = c
  · subst h; simp [hc]
  · rw [if_neg h, if_neg h]
theorem FS.lt_of_get {f : FS} {b : Nat} (h : f.get b ≠ .dead) : b < f.next := by
  rw [FS.get_def] at h
  by_cases hb : b < f.next
  · exact hb
  · rw [if_neg hb] at h; exact absurd rfl h

theorem SR.new (h : SR f σ) (x : B) : SR (f.new x) (σ.new x.blk) where
  next := by show σ.next + 1 = f.next + 1; rw [h.next]
  log := h.log
  get b := by
    rw [St.get_new, FS.get_new, h.next, h.get]
    by_cases hb : b = f.next <;> simp [hb]
theorem SR.upd (h : SR f σ) {c : Nat} (x : B) (hc : c < f.next) : SR (f.upd c x) (σ.upd c x.blk) where
  next := h.next
  log b := by
    have e1 : b ∈ (σ.upd c x.blk).log ↔ b = c ∨ b ∈ σ.log := by
      show b ∈ (match σ.log with | [] => [c] | d :: l => if Nat.beq d c then d :: l else c :: d :: l) ↔ _
      split
      · rename_i e; simp [e]
      · rename_i d l e
        rw [e]
        split
        · rename_i hd
          have := Nat.eq_of_beq_eq_true hd
          subst this
          simp
        · simp
    have e2 : b ∈ (f.upd c x).log ↔ b = c ∨ b ∈ f.log := by
      show b ∈ bc (memR f.log c) f.log (c :: f.log) ↔ _
      rw [bc_eq]
      split
      · rename_i hm
        have := (memR_eq _ _).1 hm
        constructor
        · exact .inr
        · rintro (rfl | h) <;> assumption
      · simp
    rw [e1, e2, h.log]
  get b := by
    rw [St.get_upd _ _ _ _ (by rw [h.next]; exact hc), FS.get_upd _ _ _ _ hc, h.get]
    by_cases hb : b = c <;> simp [hb]
theorem SR.nolog (h : SR f σ) : SR { h := f.h, next := f.next, log := [] } { h := σ.h, next := σ.next, log := [] } where
  next := h.next
  log _ := Iff.rfl
  get b := h.get b
theorem SR.relog {f1 : FS} {σ1 : St} (h : SR f σ) (h1 : SR f1 σ1) : SR { h := f1.h, next := f1.next, log := appN f1.log f.log } { h := σ1.h, next := σ1.next, log := σ1.log ++ σ.log } where
  next := h1.next
  log b := by rw [appN_eq]; simp [h.log, h1.log]
  get b := h1.get b

-- the empty state is the empty state
theorem SR.row (h : SR f σ) {b : Nat} {cs : List V} {e : Nat} {ro : Bool} (hb : f.get b = .row cs e ro) : σ.get b = .row (V.avs cs) e ro := by rw [h.get, hb]; rfl
theorem SR.bs (h : SR f σ) {b : Nat} {l n e : Nat} {ro : Bool} (hb : f.get b = .bs l n e ro) : σ.get b = .row (bytesOf (nb l n)) e ro := by rw [h.get, hb]; rfl
theorem SR.iter (h : SR f σ) {b : Nat} {l n p : Nat} (hb : f.get b = .iter l n p) : σ.get b = .iter (nb l n) p := by rw [h.get, hb]; rfl

theorem bytesOf_length (s : List UInt8) : (bytesOf s).length = s.length := by simp [bytesOf]
theorem bytesOf_drop (s : List UInt8) (n : Nat) : (bytesOf s).drop n = bytesOf (s.drop n) := by simp [bytesOf, List.map_drop]
theorem bytesOf_take (s : List UInt8) (n : Nat) : (bytesOf s).take n = bytesOf (s.take n) := by simp [bytesOf, List.map_take]
theorem bytesOf_append (s t : List UInt8) : bytesOf (s ++ t) = bytesOf s ++ bytesOf t := by simp [bytesOf]
theorem nbV_avs : ∀ l n : Nat, V.avs (nbV l n) = bytesOf (nb l n)
  | 0, n => by simp [nbV, nb, V.avs, bytesOf]
  | l + 1, n => by
    have ih := nbV_avs l (n / 256)
    simp only [nbV, nb, V.avs, ih, V.av, bytesOf, List.map_cons, kOf]
    congr 2
    simp
theorem ldNF_spec (h : SR f σ) {b o n : Nat} {l : List V} (hl : ldNF f b o n = some l) : ldN σ b o n = some (V.avs l) := by
  unfold ldNF at hl
  unfold ldN
  rw [h.get]
  cases hb : f.get b with
  | row cs e ro =>
    rw [hb] at hl
    simp only [B.blk] at hl ⊢
    rw [takeR_eq, dropR_eq] at hl
    split at hl
    · rename_i hn
      simp at hl; subst hl
      have : ((V.avs cs).drop o).take n = V.avs ((cs.drop o).take n) := by simp [avs_eq, List.map_drop, List.map_take]
      rw [this]
      rw [if_pos]
      have : (V.avs ((cs.drop o).take n)).length = n := by simp at hn; simp [avs_eq]; omega
      rw [this]; simp
    · cases hl
  | bs len num e ro =>
    rw [hb] at hl
    simp only [B.blk] at hl ⊢
    rw [bc_eq] at hl
    split at hl
    · rename_i hn
      have hn : o + n ≤ len := by simpa using hn
      simp at hl; subst hl
      have e : ((bytesOf (nb len num)).drop o).take n = bytesOf (nb n (num / 256 ^ o)) := by
        rw [bytesOf_drop, bytesOf_take, nb_drop, nb_take _ _ _ (by omega)]
      rw [e, if_pos (by rw [bytesOf_length, nb_length]; simp), nbV_avs]; rfl
    · cases hl
  | iter _ _ _ => rw [hb] at hl; cases hl
  | dead => rw [hb] at hl; cases hl
theorem ld1F_spec (h : SR f σ) {b o : Nat} {v : V} (hl : ld1F f b o = some v) : ld1 σ b o = some v.av := by
  unfold ld1F at hl
  unfold ld1
  rw [h.get]
  cases hb : f.get b with
  | row cs e ro =>
    rw [hb] at hl
    simp only [B.blk] at hl ⊢
    rw [nthR_eq] at hl
    rw [avs_eq, List.getElem?_map, hl]; rfl
  | bs len num e ro =>
    rw [hb] at hl
    simp only [B.blk] at hl ⊢
    rw [bc_eq] at hl
    split at hl
    · rename_i hn
      have hn : o < len := by simpa using hn
      simp at hl; subst hl
      rw [bytesOf, List.getElem?_map, nb_get _ _ _ hn]
      simp [V.av, kOf, n_div, n_mod, n_pow]
    · cases hl
  | iter _ _ _ => rw [hb] at hl; cases hl
  | dead => rw [hb] at hl; cases hl
theorem ld1F_lt {b o : Nat} {v : V} (hl : ld1F f b o = some v) : b < f.next := by
  refine FS.lt_of_get fun e => ?_
  unfold ld1F at hl; rw [e] at hl; cases hl
theorem ldNF_lt {b o n : Nat} {l : List V} (hl : ldNF f b o n = some l) : b < f.next := by
  refine FS.lt_of_get fun e => ?_
  unfold ldNF at hl; rw [e] at hl; cases hl
theorem oneF_av (v : V) : oneCell v.av = oneF v := by cases v <;> rfl
theorem oneF_all (l : List V) : (V.avs l).all oneCell = allR oneF l := by
  rw [allR_eq, avs_eq, List.all_map]
  congr 1
  funext v; exact oneF_av v
theorem splice_nb (num o n m len : Nat) (h : o + n ≤ len) : nb len (splice num o n m) = nb o num ++ (nb n m ++ nb (len - (o + n)) (num / 256 ^ (o + n))) := by
  unfold splice
  obtain ⟨r, rfl⟩ : ∃ r, len = o + (n + r) := ⟨len - (o + n), by omega⟩
  simp only [n_add, n_mod, n_mul, n_div, n_pow]
  rw [nb_add, nb_add, show o + (n + r) - (o + n) = r by omega]
theorem putL_mid : ∀ (a b c : List AV) , ∀ d : List AV, b.length = d.length → putL (a ++ (b ++ c)) a.length d = some (a ++ (d ++ c))
  | [], b, c, [], h => by
    have : b = [] := List.length_eq_zero_iff.1 (by simpa using h)
    subst this; cases c <;> simp [putL]
  | [], b, c, x :: d, h => by
    cases b with
    | nil => simp at h
    | cons y b =>
      have := putL_mid [] b c d (by simpa using h)
      simp at this
      simp [putL, this]
  | x :: a, b, c, [], h => by simp [putL]; exact List.length_eq_zero_iff.1 (by simpa using h)
  | x :: a, b, c, y :: d, h => by
    have := putL_mid a b c (y :: d) h
    simp at this
    simp [putL, this]
theorem bytes_one (s : List UInt8) : (bytesOf s).all oneCell = true := by simp [bytesOf, oneCell]
/-- bytes are put into a row -/
theorem stN_bytes (h : SR f σ) {b o n m len num e : Nat} (hb : f.get b = .bs len num e false) (hn : o + n ≤ len) : ∃ σ', stN σ b o (bytesOf (nb n m)) = some σ' ∧ SR (f.upd b (.bs len (splice num o n m) e false)) σ' := by
  refine ⟨σ.upd b (B.bs len (splice num o n m) e false).blk, ?_, h.upd _ (FS.lt_of_get (by rw [hb]; exact nofun))⟩
  unfold stN
  rw [h.bs hb]
  have e1 : putL (bytesOf (nb len num)) o (bytesOf (nb n m)) = some (bytesOf (nb len (splice num o n m))) := by
    rw [splice_nb _ _ _ _ _ hn, nb_split len num (o + n) hn, nb_split (o + n) num o (by omega)]
    rw [bytesOf_append, bytesOf_append, bytesOf_append, bytesOf_append, List.append_assoc]
    have := putL_mid (bytesOf (nb o num)) (bytesOf (nb (o + n - o) (num / 256 ^ o))) (bytesOf (nb (len - (o + n)) (num / 256 ^ (o + n)))) (bytesOf (nb n m)) (by simp [bytesOf_length, nb_length])
    rwa [bytesOf_length, nb_length] at this
  simp only [e1, bytes_one, if_true]
  rfl
theorem stBF_spec (h : SR f σ) {b o n m : Nat} (hs : stBF f b o n m = some f') : ∃ σ', stN σ b o (bytesOf (nb n m)) = some σ' ∧ SR f' σ' := by
  unfold stBF at hs
  split at hs
  · rename_i len num e ro hb
    rw [bc_eq, bc_eq] at hs
    split at hs
    · cases hs
    · rename_i hro
      split at hs
      · rename_i hn
        simp at hs; subst hs
        have hro : ro = false := by simpa using hro
        subst hro
        exact stN_bytes h hb (by simpa using hn)
      · cases hs
  · cases hs
theorem stNF_spec (h : SR f σ) {b o : Nat} {vs : List V} (hs : stNF f b o vs = some f') : ∃ σ', stN σ b o (V.avs vs) = some σ' ∧ SR f' σ' := by
  unfold stNF at hs
  split at hs
  · rename_i cs e ro hb
    rw [bc_eq, bc_eq] at hs
    split at hs
    · cases hs
    rename_i hro
    have hro : ro = false := by simpa using hro
    subst hro
    split at hs
    · rename_i hall
      cases hp : putR cs o vs with
      | none => rw [hp] at hs; cases hs
      | some l =>
        rw [hp] at hs
        simp at hs; subst hs
        refine ⟨σ.upd b (B.row l e false).blk, ?_, h.upd _ (FS.lt_of_get (by rw [hb]; exact nofun))⟩
        unfold stN
        rw [h.row hb]
        simp only [putR_spec hp, oneF_all, hall, if_true]
        rfl
    · cases hs
  · rename_i len num e ro hb
    rw [bc_eq] at hs
    split at hs
    · cases hs
    rename_i hro
    have hro : ro = false := by simpa using hro
    subst hro
    split at hs
    · rename_i k n
      rw [bc_eq, bc_eq, bc_eq] at hs
      split at hs
      · rename_i hk
        split at hs
        · rename_i hn
          split at hs
          · rename_i ho
            simp at hs; subst hs
            have hk := Nat.eq_of_beq_eq_true hk
            subst hk
            have hn : n < 256 := by simpa using hn
            obtain ⟨σ', h1, h2⟩ := stN_bytes (o := o) (n := 1) (m := n) h hb (by simp at ho; omega)
            refine ⟨σ', ?_, h2⟩
            rw [← h1]
            congr 1
            simp [V.avs, V.av, kOf, bytesOf, nb]
            omega
          · cases hs
        · cases hs
      · cases hs
    · cases hs
  · cases hs
theorem cells_av (v : V) : v.av.cells = V.avs v.cells := by cases v <;> simp [V.av, AV.cells, V.cells, V.avs]
theorem isUnk_av (v : V) : isUnk v.av = isUnkF v := by cases v <;> rfl
theorem avs_length (l : List V) : (V.avs l).length = l.length := by simp [avs_eq]
theorem lenR_avs (l : List V) : (V.avs l).length = lenR l := by rw [avs_length, lenR_eq]
end Go.Ev
