/- The law of this seat holds of every input: a part of the proof (an evaluator that is proved to answer as the model does, and its runs by the kernel). -/
import Derived.Test.YtaomoiphkcbnkaaGreatDoorEvFx
import Derived.Test.YtaomoiphkcbnkaaGreatDoorEvBuild
set_option linter.unusedVariables false
set_option linter.unusedSimpArgs false
namespace Go.Ev

theorem bc_eq {α : Type} (c : Bool) (x y : α) : bc c x y = if c = true then x else y := by cases c <;> rfl
theorem bc_true {α : Type} (x y : α) : bc true x y = x := rfl
theorem bc_false {α : Type} (x y : α) : bc false x y = y := rfl

theorem bleD (a b : Nat) : Nat.ble a b = decide (a ≤ b) := by
  cases e : Nat.ble a b with
  | true => exact (decide_eq_true (Nat.le_of_ble_eq_true e)).symm
  | false => exact (decide_eq_false fun h => by rw [Nat.ble_eq_true_of_le h] at e; cases e).symm
theorem bltD (a b : Nat) : Nat.blt a b = decide (a < b) := bleD (a + 1) b
theorem beqD (a b : Nat) : Nat.beq a b = decide (a = b) := by
  cases e : Nat.beq a b with
  | true => exact (decide_eq_true (Nat.eq_of_beq_eq_true e)).symm
  | false => exact (decide_eq_false fun h => by subst h; rw [Nat.beq_refl] at e; cases e).symm
theorem avs_eq : ∀ l : List V, V.avs l = l.map V.av
  | [] => by simp [V.avs]
  | v :: l => by simp [V.avs, avs_eq l]
theorem kOf_kNo (k : IntKind) : kOf (kNo k) = k := by cases k <;> rfl
theorem kOf_eq {k : IntKind} {n : Nat} (h : Nat.beq n (kNo k) = true) : kOf n = k := by rw [Nat.eq_of_beq_eq_true h, kOf_kNo]
theorem capO_capN (c : Option Nat) : capO (capN c) = c := by cases c <;> rfl
theorem nb_numOf : ∀ s : List UInt8, nb s.length (numOf s) = s
  | [] => rfl
  | c :: l => by
    have hc : c.toNat < 256 := c.toNat_lt
    simp only [List.length_cons, numOf, nb]
    rw [show (c.toNat + 256 * numOf l) % 256 = c.toNat by omega, show (c.toNat + 256 * numOf l) / 256 = numOf l by omega, nb_numOf l]
    simp
theorem encI_av (k : IntKind) (n : Int) : (encI k n).av = .int k n := by cases n <;> simp [encI, V.av, kOf_kNo]
mutual
theorem enc_av : ∀ a : AV, (enc a).av = a
  | .int k n => by simp only [enc, encI_av]
  | .low k m r => by simp [enc, V.av, kOf_kNo]
  | .bool x => by simp [enc, V.av]
  | .str s => by simp [enc, V.av, nb_numOf]
  | .nilp => by simp [enc, V.av]
  | .ptr b o => by simp [enc, V.av]
  | .nils => by simp [enc, V.av]
  | .sl b o n c e => by simp [enc, V.av, capO_capN]
  | .esl => by simp [enc, V.av]
  | .agg cs => by simp [enc, V.av, encs_avs cs]
  | .tup vs => by simp [enc, V.av, encs_avs vs]
  | .fn f cs => by simp [enc, V.av, encs_avs cs]
  | .nilf => by simp [enc, V.av]
  | .nili => by simp [enc, V.av]
  | .ifc t v => by simp [enc, V.av, enc_av v]
  | .unk => by simp [enc, V.av]
theorem encs_avs : ∀ l : List AV, V.avs (encs l) = l
  | [] => by simp [encs, V.avs]
  | a :: l => by simp [encs, V.avs, enc_av a, encs_avs l]
end
-- texts
theorem nb_length : ∀ (l n : Nat), (nb l n).length = l
  | 0, _ => rfl
  | l + 1, n => by simp [nb, nb_length l]
theorem nb_get : ∀ (l n i : Nat), i < l → (nb l n)[i]? = some (UInt8.ofNat (n / 256 ^ i % 256))
  | 0, _, _, h => by omega
  | l + 1, n, 0, _ => by simp [nb]
  | l + 1, n, i + 1, h => by
    simp only [nb, List.getElem?_cons_succ]
    rw [nb_get l (n / 256) i (by omega), Nat.div_div_eq_div_mul, Nat.pow_succ, Nat.mul_comm]
theorem nb_drop : ∀ (l n i : Nat), (nb l n).drop i = nb (l - i) (n / 256 ^ i)
  | l, n, 0 => by simp
  | 0, n, i + 1 => by simp [nb]
  | l + 1, n, i + 1 => by
    simp only [nb, List.drop_succ_cons]
    rw [nb_drop l (n / 256) i, Nat.div_div_eq_div_mul, Nat.pow_succ, Nat.mul_comm]
    congr 1; omega
theorem nb_take : ∀ (l n i : Nat), i ≤ l → (nb l n).take i = nb i n
  | l, n, 0, _ => by simp [nb]
  | 0, n, i + 1, h => by omega
  | l + 1, n, i + 1, h => by simp [nb, nb_take l (n / 256) i (by omega)]
theorem nb_mod : ∀ (l n i : Nat), l ≤ i → nb l (n % 256 ^ i) = nb l n
  | 0, _, _, _ => rfl
  | l + 1, n, 0, h => by omega
  | l + 1, n, i + 1, h => by
    simp only [nb]
    have e : 256 ^ (i + 1) = 256 * 256 ^ i := by rw [Nat.pow_succ, Nat.mul_comm]
    rw [e, Nat.mod_mul_right_mod, Nat.mod_mul_right_div_self, nb_mod l (n / 256) i (by omega)]
theorem nb_add : ∀ (l m a b : Nat), nb (l + m) (a % 256 ^ l + 256 ^ l * b) = nb l a ++ nb m b
  | 0, m, a, b => by simp [nb, Nat.mod_one]
  | l + 1, m, a, b => by
    have e : 256 ^ (l + 1) = 256 * 256 ^ l := by rw [Nat.pow_succ, Nat.mul_comm]
    have e2 : l + 1 + m = (l + m) + 1 := by omega
    rw [e2]
    simp only [nb, List.cons_append]
    have h1 : a % 256 ^ (l + 1) = a % 256 + 256 * (a / 256 % 256 ^ l) := by rw [e, Nat.mod_mul]
    rw [h1, e, Nat.mul_assoc]
    rw [show (a % 256 + 256 * (a / 256 % 256 ^ l) + 256 * (256 ^ l * b)) % 256 = a % 256 by omega]
    rw [show (a % 256 + 256 * (a / 256 % 256 ^ l) + 256 * (256 ^ l * b)) / 256 = a / 256 % 256 ^ l + 256 ^ l * b by omega]
    rw [nb_add l m (a / 256) b]
theorem nb_inj : ∀ (l a b : Nat), nb l a = nb l b → a % 256 ^ l = b % 256 ^ l
  | 0, a, b, _ => by simp [Nat.mod_one]
  | l + 1, a, b, h => by
    simp only [nb, List.cons.injEq] at h
    have h1 : a % 256 = b % 256 := by
      have := congrArg UInt8.toNat h.1
      simp at this
      omega
    have h2 := nb_inj l _ _ h.2
    have e : 256 ^ (l + 1) = 256 * 256 ^ l := by rw [Nat.pow_succ, Nat.mul_comm]
    rw [e, Nat.mod_mul, Nat.mod_mul, h1, h2]
theorem nb_split (l n i : Nat) (h : i ≤ l) : nb l n = nb i n ++ nb (l - i) (n / 256 ^ i) := by
  rw [← nb_take l n i h, ← nb_drop, List.take_append_drop]
theorem eqS_iff : ∀ (a b : List UInt8), eqS a b = decide (a = b)
  | [], [] => by simp [eqS]
  | a :: x, b :: y => by
    simp only [eqS, eqS_iff x y, List.cons.injEq]
    by_cases h : a = b
    · subst h; simp
    · have : Nat.beq a.toNat b.toNat = false := by
        cases e : Nat.beq a.toNat b.toNat
        · rfl
        · exact absurd (UInt8.toNat_inj.1 (Nat.eq_of_beq_eq_true e)) h
      simp [this, h]
  | [], _ :: _ => by simp [eqS]
  | _ :: _, [] => by simp [eqS]
theorem eqSF_spec (l n l' n' : Nat) : eqSF l n l' n' = eqS (nb l n) (nb l' n') := by
  rw [eqS_iff, eqSF, bc_eq]
  by_cases h : l = l'
  · subst h
    rw [if_pos (by simp)]
    by_cases e : n % 256 ^ l = n' % 256 ^ l
    · have : nb l n = nb l n' := by rw [← nb_mod l n l (Nat.le_refl _), e, nb_mod l n' l (Nat.le_refl _)]
      show Nat.beq (n % 256 ^ l) (n' % 256 ^ l) = _
      rw [e]; simp [this]
    · have : nb l n ≠ nb l n' := fun h => e (nb_inj _ _ _ h)
      have hb : Nat.beq (n % 256 ^ l) (n' % 256 ^ l) = false := by
        cases h : Nat.beq (n % 256 ^ l) (n' % 256 ^ l)
        · rfl
        · exact absurd (Nat.eq_of_beq_eq_true h) e
      show Nat.beq (n % 256 ^ l) (n' % 256 ^ l) = _
      rw [hb]; simp [this]
  · have : nb l n ≠ nb l' n' := fun e => h (by have := congrArg List.length e; simpa [nb_length] using this)
    rw [if_neg (by simpa using h)]; simp [this]
theorem lessR_spec : ∀ (f l n l' n' : Nat), l' ≤ f → lessR f l n l' n' = lessS (nb l n) (nb l' n')
  | 0, l, n, l', n', h => by
    have : l' = 0 := by omega
    subst this
    cases l <;> rfl
  | f + 1, l, n, 0, n', _ => by cases l <;> rfl
  | f + 1, 0, n, l' + 1, n', _ => rfl
  | f + 1, l + 1, n, l' + 1, n', h => by
    have ih := lessR_spec f l (n / 256) l' (n' / 256) (by omega)
    have e : lessR (f + 1) (l + 1) n (l' + 1) n' = bc (Nat.beq (n % 256) (n' % 256)) (lessR f l (n / 256) l' (n' / 256)) (Nat.blt (n % 256) (n' % 256)) := rfl
    rw [e, ih]
    simp only [nb, lessS]
    have h1 : (UInt8.ofNat (n % 256)).toNat = n % 256 := by simp
    have h2 : (UInt8.ofNat (n' % 256)).toNat = n' % 256 := by simp
    rw [h1, h2, bc_eq]
    by_cases hb : n % 256 = n' % 256
    · rw [hb]; simp
    · have : Nat.beq (n % 256) (n' % 256) = false := by
        cases e : Nat.beq (n % 256) (n' % 256)
        · rfl
        · exact absurd (Nat.eq_of_beq_eq_true e) hb
      rw [this]; simp
      cases h : Nat.blt (n % 256) (n' % 256) with
      | true => simpa using h
      | false =>
        have : ¬ (n % 256 < n' % 256) := fun hh => by rw [show Nat.blt (n % 256) (n' % 256) = true from by simpa using hh] at h; cases h
        simp only [this, decide_false]
-- lists
theorem nthR_eq : ∀ (l : List V) (n : Nat), nthR l n = l[n]?
  | [], _ => by simp [nthR]
  | x :: l, 0 => rfl
  | x :: l, n + 1 => by rw [List.getElem?_cons_succ, ← nthR_eq l n]; rfl
theorem dropR_eq : ∀ (l : List V) (n : Nat), dropR l n = l.drop n
  | [], _ => by simp [dropR]
  | x :: l, 0 => rfl
  | x :: l, n + 1 => by rw [List.drop_succ_cons, ← dropR_eq l n]; rfl
theorem takeR_eq : ∀ (l : List V) (n : Nat), takeR l n = if n ≤ l.length then some (l.take n) else none
  | [], 0 => rfl
  | [], n + 1 => by simp [takeR]
  | x :: l, 0 => by show some [] = _; simp
  | x :: l, n + 1 => by
    have e : takeR (x :: l) (n + 1) = Option.rec (motive := fun _ => Option (List V)) none (fun r => some (x :: r)) (takeR l n) := rfl
    rw [e, takeR_eq l n]
    by_cases h : n ≤ l.length
    · rw [if_pos h, if_pos (by simp; omega)]; simp
    · rw [if_neg h, if_neg (by simp; omega)]
theorem lenR_eq : ∀ l : List V, lenR l = l.length
  | [] => rfl
  | x :: l => by show Nat.succ (lenR l) = _; rw [lenR_eq l]; rfl
theorem appR_eq : ∀ l m : List V, appR l m = l ++ m
  | [], m => rfl
  | x :: l, m => by show x :: appR l m = _; rw [appR_eq l m]; rfl
theorem allR_eq (p : V → Bool) : ∀ l : List V, allR p l = l.all p
  | [] => rfl
  | x :: l => by
    show bc (p x) (allR p l) false = _
    rw [allR_eq p l, bc_eq]; cases h : p x <;> simp [h]
theorem repR_eq : ∀ (n : Nat) (z : List AV), V.avs (repR n (encs z)) = rep n z
  | 0, z => by simp [repR, rep, V.avs]
  | n + 1, z => by
    have e : repR (n + 1) (encs z) = appR (encs z) (repR n (encs z)) := rfl
    have := repR_eq n z
    rw [avs_eq] at this
    rw [e, appR_eq, rep, avs_eq, List.map_append, this, ← avs_eq, encs_avs]
theorem putR_eq : ∀ (l : List V) (o : Nat) (vs : List V), (putR l o vs).map V.avs = putL (V.avs l) o (V.avs vs)
  | [], o, [] => by simp [putR, putL, V.avs]
  | [], o, v :: vs => by simp [putR, putL, V.avs]
  | x :: l, o, [] => by
    show (some (x :: l)).map V.avs = _
    simp [V.avs, putL]
  | x :: l, 0, v :: vs => by
    have e : putR (x :: l) 0 (v :: vs) = Option.rec (motive := fun _ => Option (List V)) none (fun r => some (v :: r)) (putR l 0 vs) := rfl
    have ih := putR_eq l 0 vs
    simp only [V.avs, putL]
    rw [← ih, e]
    cases putR l 0 vs <;> simp [V.avs]
  | x :: l, o + 1, v :: vs => by
    have e : putR (x :: l) (o + 1) (v :: vs) = Option.rec (motive := fun _ => Option (List V)) none (fun r => some (x :: r)) (putR l o (v :: vs)) := rfl
    have ih := putR_eq l o (v :: vs)
    simp only [V.avs, putL] at ih ⊢
    rw [← ih, e]
    cases putR l o (v :: vs) <;> simp [V.avs]
theorem putR_spec {l vs l' : List V} {o : Nat} (h : putR l o vs = some l') : putL (V.avs l) o (V.avs vs) = some (V.avs l') := by
  rw [← putR_eq, h]; rfl
theorem memR_eq : ∀ (l : List Nat) (b : Nat), memR l b = true ↔ b ∈ l
  | [], b => by simp [memR]
  | x :: l, b => by
    have e : memR (x :: l) b = bc (Nat.beq x b) true (memR l b) := rfl
    rw [e, bc_eq]
    by_cases h : x = b
    · subst h; simp
    · have : Nat.beq x b = false := by
        cases e : Nat.beq x b
        · rfl
        · exact absurd (Nat.eq_of_beq_eq_true e) h
      rw [this, if_neg (by simp), memR_eq l b]
      simp [Ne.symm h]
theorem memN_iffF : ∀ (l : List Nat) (b : Nat), memN l b = true ↔ b ∈ l
  | [], b => by simp [memN]
  | x :: l, b => by
    simp only [memN]
    by_cases h : x = b
    · subst h; simp
    · have : Nat.beq x b = false := by
        cases e : Nat.beq x b
        · rfl
        · exact absurd (Nat.eq_of_beq_eq_true e) h
      rw [this, if_neg (by simp), memN_iffF l b]
      simp [Ne.symm h]
theorem oldR_eq (n : Nat) : ∀ l : List Nat, oldR n l = l.filter (Nat.blt · n)
  | [] => rfl
  | x :: l => by
    have e : oldR n (x :: l) = bc (Nat.blt x n) (x :: oldR n l) (oldR n l) := rfl
    rw [e, bc_eq, oldR_eq n l, List.filter_cons]
theorem appN_eq : ∀ l m : List Nat, appN l m = l ++ m
  | [], m => rfl
  | x :: l, m => by show x :: appN l m = _; rw [appN_eq l m]; rfl
-- blocks
theorem H.get_e (k : Nat) : H.get .e k = .dead := rfl
theorem H.get_n (v : B) (l r : H) (k : Nat) : H.get (.n v l r) k = if k = 0 then v else if k % 2 = 0 then r.get (k / 2) else l.get (k / 2) := by
  cases k with
  | zero => rfl
  | succ k =>
    have e : H.get (.n v l r) (k + 1) = Nat.rec (motive := fun _ => B) (r.get (Nat.shiftRight (k + 1) 1)) (fun _ _ => l.get (Nat.shiftRight (k + 1) 1)) (Nat.land (k + 1) 1) := rfl
    have e1 : Nat.shiftRight (k + 1) 1 = (k + 1) / 2 := by simp [Nat.shiftRight_succ, Nat.shiftRight]
    have e2 : Nat.land (k + 1) 1 = (k + 1) % 2 := Nat.and_one_is_mod (k + 1)
    rw [e, e1, e2, if_neg (by omega)]
    by_cases h : (k + 1) % 2 = 0
    · rw [if_pos h, h]
      rfl
    · rw [if_neg h, show (k + 1) % 2 = 0 + 1 by omega]
theorem H.one_get : ∀ (f k : Nat) (v : B), k < 2 ^ f → ∀ j, (H.one f k v).get j = if j = k then v else .dead
  | 0, k, v, h, j => by
    have : k = 0 := by simpa using h
    subst this
    have e : H.one 0 0 v = .n v .e .e := rfl
    rw [e, H.get_n]
    by_cases hj : j = 0
    · simp [hj]
    · rw [if_neg hj, if_neg hj]; split <;> rfl
  | f + 1, 0, v, h, j => by
    have e : H.one (f + 1) 0 v = .n v .e .e := rfl
    rw [e, H.get_n]
    by_cases hj : j = 0
    · simp [hj]
    · rw [if_neg hj, if_neg hj]; split <;> rfl
  | f + 1, k + 1, v, h, j => by
    have e1 : Nat.shiftRight (k + 1) 1 = (k + 1) / 2 := by simp [Nat.shiftRight_succ, Nat.shiftRight]
    have e2 : Nat.land (k + 1) 1 = (k + 1) % 2 := Nat.and_one_is_mod (k + 1)
    have e : H.one (f + 1) (k + 1) v = Nat.rec (motive := fun _ => H) (.n .dead .e (H.one f ((k + 1) / 2) v)) (fun _ _ => .n .dead (H.one f ((k + 1) / 2) v) .e) ((k + 1) % 2) := by rw [← e1, ← e2]; rfl
    have ih := H.one_get f ((k + 1) / 2) v (by rw [Nat.pow_succ] at h; omega)
    rw [e]
    by_cases hk : (k + 1) % 2 = 0
    · rw [hk]
      show H.get (.n .dead .e (H.one f ((k + 1) / 2) v)) j = _
      rw [H.get_n, ih]
      by_cases h0 : j = 0
      · rw [if_pos h0, if_neg (by omega)]
      · rw [if_neg h0]
        by_cases h2 : j % 2 = 0
        · rw [if_pos h2]; by_cases h3 : j = k + 1
          · rw [if_pos (by omega), if_pos h3]
          · rw [if_neg (by omega), if_neg h3]
        · rw [if_neg h2, if_neg (by omega)]; rfl
    · rw [show (k + 1) % 2 = 0 + 1 by omega]
      show H.get (.n .dead (H.one f ((k + 1) / 2) v) .e) j = _
      rw [H.get_n, ih]
      by_cases h0 : j = 0
      · rw [if_pos h0, if_neg (by omega)]
      · rw [if_neg h0]
        by_cases h2 : j % 2 = 0
        · rw [if_pos h2, if_neg (by omega)]; rfl
        · rw [if_neg h2]; by_cases h3 : j = k + 1
          · rw [if_pos (by omega), if_pos h3]
          · rw [if_neg (by omega), if_neg h3]
theorem H.get_set (t : H) : ∀ (k : Nat) (v : B) (j : Nat), (t.set k v).get j = if j = k then v else t.get j := by
  induction t with
  | e =>
    intro k v j
    have e : H.set .e k v = H.one k k v := rfl
    rw [e, H.one_get k k v Nat.lt_two_pow_self]; rfl
  | n u l r ihl ihr =>
    intro k v j
    cases k with
    | zero =>
      have e : H.set (.n u l r) 0 v = .n v l r := rfl
      rw [e, H.get_n, H.get_n]
      by_cases hj : j = 0
      · simp [hj]
      · rw [if_neg hj, if_neg hj, if_neg hj]
    | succ k =>
      have e1 : Nat.shiftRight (k + 1) 1 = (k + 1) / 2 := by simp [Nat.shiftRight_succ, Nat.shiftRight]
      have e2 : Nat.land (k + 1) 1 = (k + 1) % 2 := Nat.and_one_is_mod (k + 1)
      have e : H.set (.n u l r) (k + 1) v = Nat.rec (motive := fun _ => H) (.n u l (r.set ((k + 1) / 2) v)) (fun _ _ => .n u (l.set ((k + 1) / 2) v) r) ((k + 1) % 2) := by rw [← e1, ← e2]; rfl
      rw [e, H.get_n u l r]
      by_cases hk : (k + 1) % 2 = 0
      · rw [hk]
        show H.get (.n u l (r.set ((k + 1) / 2) v)) j = _
        rw [H.get_n, ihr]
        by_cases h0 : j = 0
        · rw [if_pos h0, if_neg (by omega), if_pos h0]
        · rw [if_neg h0, if_neg h0]
          by_cases h2 : j % 2 = 0
          · rw [if_pos h2]; by_cases h3 : j = k + 1
            · rw [if_pos (by omega), if_pos h3]
            · rw [if_neg (by omega), if_neg h3, if_pos h2]
          · rw [if_neg h2, if_neg (by omega), if_neg h2]
      · rw [show (k + 1) % 2 = 0 + 1 by omega]
        show H.get (.n u (l.set ((k + 1) / 2) v) r) j = _
        rw [H.get_n, ihl]
        by_cases h0 : j = 0
        · rw [if_pos h0, if_neg (by omega), if_pos h0]
        · rw [if_neg h0, if_neg h0]
          by_cases h2 : j % 2 = 0
          · rw [if_pos h2, if_neg (by omega), if_pos h2]
          · rw [if_neg h2, if_neg h2]; by_cases h3 : j = k + 1
            · rw [if_pos (by omega), if_pos h3]
            · rw [if_neg (by omega), if_neg h3]
end Go.Ev
