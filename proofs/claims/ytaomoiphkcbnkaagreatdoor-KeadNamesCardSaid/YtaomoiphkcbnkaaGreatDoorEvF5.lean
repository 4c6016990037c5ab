/- The law of this seat holds of every input: a part of the proof (an evaluator that is proved to answer as the model does, and its runs by the kernel). -/
import Derived.Test.YtaomoiphkcbnkaaGreatDoorEvF4
set_option linter.unusedVariables false
set_option linter.unusedSimpArgs false
namespace Go.Ev
variable {E : Env} {i : FI} {f f' : FS} {σ σ' : St}

theorem notT {b : Bool} (h : ¬ (b = true)) : b = false := by cases b <;> simp_all
theorem nrec0 {α : Type} (a : α) (f : Nat → α → α) : Nat.rec (motive := fun _ => α) a f 0 = a := rfl
theorem nrecS {α : Type} (a : α) (f : Nat → α → α) (n : Nat) : Nat.rec (motive := fun _ => α) a f (n + 1) = f n (Nat.rec (motive := fun _ => α) a f n) := rfl
theorem numO0 : numO none 0 = some 0 := rfl
-- builds
theorem cFill_spec {place : Nat → Option (Nat × Nat)} : ∀ (ps : List (Nat × Operand)) (r : F → List V → Option (List V)), cFill i place ps = some r →
    ∀ ff fr, FfR i ff fr → ∀ l l', r ff l = some l' → fillC place (V.avs l) (ps.map fun x => (x.1, fr.val x.2)) = some (V.avs l')
  | [], r, hr, ff, fr, hf, l, l', h => by
    simp [cFill] at hr; subst hr
    simp at h; subst h; rfl
  | (j, x) :: ps, r, hr, ff, fr, hf, l, l', h => by
    simp only [cFill] at hr
    split at hr
    · rename_i off size g r' hp hx hr'
      split at hr
      · cases hr
      rename_i hsz
      simp at hr; subst hr
      simp only [bc_eq] at h
      split at h
      · cases h
      rename_i hu
      split at h
      · rename_i hlen
        cases hput : putR l off (g ff).cells with
        | none => rw [hput] at h; cases h
        | some l1 =>
          rw [hput] at h
          have ih := cFill_spec ps r' hr' ff fr hf l1 l' h
          have hv := cO_spec hx hf
          simp only [List.map_cons, fillC, hp]
          rw [← hv, isUnk_av, cells_av, lenR_avs, hlen, putR_spec hput]
          have hu : isUnkF (g ff) = false := by simpa using hu
          have hsz : Nat.beq size 0 = false := notT hsz
          simp only [hu, hsz, Bool.or_self, Bool.false_eq_true, if_false, if_true]
          exact ih
      · cases h
    · cases hr
theorem putL_one : ∀ (l : List AV) (o : Nat) (v : AV), o < l.length → putL l o [v] = some (l.set o v)
  | x :: l, 0, v, _ => by cases l <;> simp [putL]
  | x :: l, o + 1, v, h => by
    have := putL_one l o v (by simpa using h)
    simp [putL, this]
  | [], _, _, h => by simp at h
theorem cFillB_spec {n : Nat} : ∀ (ps : List (Nat × Operand)) (r : F → Nat → Option Nat), cFillB i n ps = some r →
    ∀ ff fr, FfR i ff fr → ∀ m m', r ff m = some m' → fillC (fun j => some (j * 1, 1)) (bytesOf (nb n m)) (ps.map fun x => (x.1, fr.val x.2)) = some (bytesOf (nb n m'))
  | [], r, hr, ff, fr, hf, l, l', h => by
    simp [cFillB] at hr; subst hr
    simp at h; subst h; rfl
  | (j, x) :: ps, r, hr, ff, fr, hf, m, m', h => by
    simp only [cFillB] at hr
    split at hr
    · rename_i g r' hx hr'
      split at hr
      · rename_i hj
        simp at hr; subst hr
        simp only at h
        split at h
        · rename_i k c hg
          simp only [bc_eq] at h
          split at h
          · rename_i hk
            have hk : k = 4 := by simpa using hk
            subst hk
            split at h
            · rename_i hc
              have hc : c < 256 := by simpa using hc
              have ih := cFillB_spec ps r' hr' ff fr hf _ m' h
              have hv := cO_spec hx hf
              rw [hg] at hv
              have hb : [fr.val x] = bytesOf (nb 1 c) := by
                rw [← hv]; simp [V.av, kOf, bytesOf, nb]; omega
              simp only [List.map_cons, fillC, Nat.mul_one]
              have h1 : isUnk (fr.val x) = false := by rw [← hv]; rfl
              have h2 : (fr.val x).cells = bytesOf (nb 1 c) := by rw [← hb, ← hv]; rfl
              rw [h1, h2, bytesOf_length, nb_length]
              have e1 : putL (bytesOf (nb n m)) j (bytesOf (nb 1 c)) = some (bytesOf (nb n (splice m j 1 c))) := by
                rw [splice_nb _ _ _ _ _ (show j + 1 ≤ n by omega), nb_split n m (j + 1) (by omega), nb_split (j + 1) m j (by omega)]
                rw [bytesOf_append, bytesOf_append, bytesOf_append, bytesOf_append, List.append_assoc]
                have := putL_mid (bytesOf (nb j m)) (bytesOf (nb (j + 1 - j) (m / 256 ^ j))) (bytesOf (nb (n - (j + 1)) (m / 256 ^ (j + 1)))) (bytesOf (nb 1 c)) (by simp [bytesOf_length, nb_length])
                rwa [bytesOf_length, nb_length] at this
              rw [e1]
              have hz : Nat.beq 1 0 = false := rfl
              have ho : Nat.beq 1 1 = true := rfl
              simp only [hz, ho, Bool.or_self, Bool.false_eq_true, if_false, if_true]
              simpa using ih
            · cases h
          · cases h
        · cases h
      · cases hr
    · cases hr
theorem nb_zero : ∀ n, bytesOf (nb n 0) = rep n [.int .u8 0]
  | 0 => rfl
  | n + 1 => by
    have ih := nb_zero n
    simp [nb, bytesOf, rep] at ih ⊢
    exact ih
theorem allZ8_spec : ∀ l : List AV, allZ8 l = true → l = bytesOf (nb l.length 0)
  | [], _ => rfl
  | a :: l, h => by
    unfold allZ8 at h
    split at h
    · rename_i heq; cases heq
    · rename_i n l' heq
      simp at heq; obtain ⟨rfl, rfl⟩ := heq
      simp only [Bool.and_eq_true, decide_eq_true_eq] at h
      have ih := allZ8_spec l h.2
      obtain ⟨h1, _⟩ := h
      subst h1
      simp [nb, bytesOf] at ih ⊢
      exact ih
    · cases h
-- slices
theorem numF_spec {v w : V} {d : Nat} {k : Nat → Option V} (h : numF v k = some w) : ∃ n, numO (some v.av) d = some n ∧ k n = some w := by
  unfold numF at h
  split at h
  · rename_i k1 n
    refine ⟨n, ?_, h⟩
    simp [numO, V.av]
  · cases h
theorem cBound_spec {lo : Option Operand} {b : F → Nat → (Nat → Option V) → Option V} (hb : cBound i lo = some b) {ff : F} {fr : Fr} (hf : FfR i ff fr) {d : Nat} {k : Nat → Option V} {v : V} (h : b ff d k = some v) :
    ∃ n, numO (lo.map fr.val) d = some n ∧ k n = some v := by
  cases lo with
  | none => simp [cBound] at hb; subst hb; exact ⟨d, rfl, h⟩
  | some x =>
    simp only [cBound] at hb
    split at hb
    · rename_i g hx
      simp at hb; subst hb
      obtain ⟨n, h1, h2⟩ := numF_spec (d := d) h
      rw [cO_spec hx hf] at h1
      exact ⟨n, h1, h2⟩
    · cases hb
theorem cSlice_spec {t : Nat} {x : Operand} {g : F → V} {lo hi mx : Option Operand} {c : CO} (hg : Is i g x) (hc : cSlice E i t g lo hi mx = some c) : COk E i (.slice t x lo hi mx) c := by
  unfold cSlice at hc
  split at hc
  rotate_left
  · cases hc
  rename_i ti lo' hi' ht hlo hhi
  split at hc
  · -- a text
    rename_i hk
    split at hc
    · cases hc
    rename_i hm
    have hm : mx = none := by simpa using hm
    subst hm
    simp at hc; subst hc
    intro ff fr σ v hfr hv
    have hx := hg ff fr hfr
    simp only at hv
    split at hv
    · rename_i len num hxv
      rw [hxv] at hx
      obtain ⟨l, hl1, hv⟩ := cBound_spec hlo hfr hv
      obtain ⟨h, hh1, hv⟩ := cBound_spec hhi hfr hv
      simp only [bc_eq] at hv
      split at hv
      · rename_i a1
        split at hv
        · rename_i a2
          simp at hv; subst hv
          have b1 : l ≤ h := by simpa using a1
          have b2 : h ≤ len := by simpa using a2
          simp only [evOp, ← hx, V.av, evSlice, ht, hk, Option.map_none, hl1, nb_length, hh1, a1, a2, Bool.and_self, if_true, valS, n_sub, n_mod, n_div, n_pow]
          rw [nb_drop, nb_take _ _ _ (by omega), nb_mod _ _ _ (Nat.le_refl _)]
        · cases hv
      · cases hv
    · cases hv
  · -- a slice
    rename_i el hk
    split at hc
    · cases hc
    rename_i te he
    split at hc
    · cases hc
    rename_i hm
    have hm : mx = none := by simpa using hm
    subst hm
    simp at hc; subst hc
    intro ff fr σ v hfr hv
    have hx := hg ff fr hfr
    simp only at hv
    split at hv
    · rename_i hxv
      rw [hxv] at hx
      obtain ⟨l, hl1, hv⟩ := cBound_spec hlo hfr hv
      obtain ⟨h, hh1, hv⟩ := cBound_spec hhi hfr hv
      simp only [bc_eq] at hv
      split at hv
      · rename_i a1
        split at hv
        · rename_i a2
          simp at hv; subst hv
          have a1 : l = 0 := by simpa using a1
          have a2 : h = 0 := by simpa using a2
          subst a1; subst a2
          simp only [evOp, ← hx, V.av, evSlice, ht, hk, he, Option.map_none, hl1, hh1, numO0, Option.isSome_none, Bool.false_and, Bool.false_eq_true, if_false, valS]
        · cases hv
      · cases hv
    · rename_i hxv
      rw [hxv] at hx
      obtain ⟨l, hl1, hv⟩ := cBound_spec hlo hfr hv
      obtain ⟨h, hh1, hv⟩ := cBound_spec hhi hfr hv
      simp only [bc_eq] at hv
      split at hv
      · rename_i a1
        split at hv
        · rename_i a2
          simp at hv; subst hv
          have a1 : l = 0 := by simpa using a1
          have a2 : h = 0 := by simpa using a2
          subst a1; subst a2
          simp only [evOp, ← hx, V.av, evSlice, ht, hk, he, Option.map_none, hl1, hh1, valS]
        · cases hv
      · cases hv
    · rename_i b o n c e hxv
      rw [hxv] at hx
      rw [bc_eq] at hv
      split at hv
      · rename_i hsz
        obtain ⟨l, hl1, hv⟩ := cBound_spec hlo hfr hv
        obtain ⟨h, hh1, hv⟩ := cBound_spec hhi hfr hv
        cases c with
        | zero =>
          have hor : bc (Nat.blt l n) true (Nat.beq l 0) = (Nat.blt l n || Nat.beq l 0) := by cases Nat.blt l n <;> rfl
          simp only [hor] at hv
          simp only [bc_eq, nrec0] at hv
          split at hv
          · rename_i a1
            split at hv
            · rename_i a2
              split at hv
              · rename_i a3
                simp only [Option.some.injEq] at hv; subst hv
                simp only [evOp, ← hx, V.av, evSlice, ht, hk, he, hsz, Option.map_none, hl1, hh1, a1, a2, a3, Bool.and_self, if_true, valS, n_sub, n_mul, n_add, capO]
              · rename_i a3
                simp only [Option.some.injEq] at hv; subst hv
                have a3 := notT a3
                simp only [evOp, ← hx, V.av, evSlice, ht, hk, he, hsz, Option.map_none, hl1, hh1, a1, a2, a3, Bool.and_self, if_true, valS, n_sub, n_mul, n_add, capO, Bool.false_eq_true, if_false]
            · cases hv
          · cases hv
        | succ c =>
          simp only [bc_eq, nrecS] at hv
          split at hv
          · rename_i a1
            split at hv
            · rename_i a2
              simp at hv; subst hv
              simp only [evOp, ← hx, V.av, evSlice, ht, hk, he, hsz, Option.map_none, hl1, hh1, a1, a2, Bool.and_self, if_true, valS, n_sub, n_mul, n_add, capO]
              congr 3
              simp
            · cases hv
          · cases hv
      · cases hv
    · cases hv
  · -- an array
    rename_i n el hk
    split at hc
    · cases hc
    rename_i te he
    split at hc
    · cases hc
    rename_i hm
    have hm : mx = none := by simpa using hm
    subst hm
    simp at hc; subst hc
    intro ff fr fs σ hfr h0
    have hx := hg ff fr hfr
    refine ⟨fun v fs' hv => ?_, fun a b hv => ?_⟩
    · simp only at hv
      split at hv
      · rename_i b o hxv
        rw [hxv] at hx
        split at hv
        · rename_i v' hv'
          obtain ⟨l, hl1, hv'⟩ := cBound_spec hlo hfr hv'
          obtain ⟨h, hh1, hv'⟩ := cBound_spec hhi hfr hv'
          simp only [bc_eq] at hv'
          split at hv'
          · rename_i a1
            split at hv'
            · rename_i a2
              have hv2 := Option.some.inj hv'
              split at hv
              · rename_i cs el' ro hb
                simp only [bc_eq] at hv
                split at hv
                · rename_i a3
                  simp at hv; obtain ⟨rfl, rfl⟩ := hv
                  refine ⟨σ, ?_, h0⟩
                  rw [← lenR_avs] at a3
                  rw [← hv2]
                  simp only [evOp, ← hx, V.av, evSlice, ht, hk, he, Option.map_none, hl1, hh1, a1, a2, a3, h0.row hb, Bool.and_self, if_true, valS, n_sub, n_mul, n_add, capO, bc_eq]
                · cases hv
              · rename_i len m el' ro hb
                simp only [bc_eq] at hv
                split at hv
                · rename_i a3
                  simp at hv; obtain ⟨rfl, rfl⟩ := hv
                  refine ⟨σ, ?_, h0⟩
                  rw [← hv2]
                  simp only [evOp, ← hx, V.av, evSlice, ht, hk, he, Option.map_none, hl1, hh1, a1, a2, a3, h0.bs hb, bytesOf_length, nb_length, Bool.and_self, if_true, valS, n_sub, n_mul, n_add, capO, bc_eq]
                · cases hv
              · cases hv
            · cases hv'
          · cases hv'
        · cases hv
      · cases hv
    · simp only [bc_eq] at hv
      repeat' split at hv
      all_goals cases hv
  · cases hc
-- append
theorem appBF_spec {elem : Nat} {s v : V} {n m : Nat} (h : SR f σ) (hs : appBF elem s n m f = .val v f') : ∃ σ', evAppend s.av elem 1 1 n (bytesOf (nb n m)) σ = some (v.av, σ') ∧ SR f' σ' := by
  unfold appBF at hs
  split at hs
  · simp only [bc_eq] at hs
    split at hs
    · rename_i a1
      simp at hs; obtain ⟨rfl, rfl⟩ := hs
      exact ⟨σ, by simp only [V.av, evAppend, a1, if_true], h⟩
    · rename_i a1
      split at hs
      · rename_i a2
        simp at hs; obtain ⟨rfl, rfl⟩ := hs
        refine ⟨_, ?_, h.new _⟩
        have a1 : Nat.beq n 0 = false := notT a1
        simp only [n_mul] at a2
        simp only [V.av, evAppend, a1, a2, if_true, Bool.false_eq_true, if_false, h.next, capO, B.blk]
      · cases hs
  · rw [bc_eq] at hs
    split at hs
    · rename_i a1
      simp at hs; obtain ⟨rfl, rfl⟩ := hs
      exact ⟨σ, by simp only [V.av, evAppend, a1, if_true], h⟩
    · cases hs
  · rename_i b o len c e
    rw [bc_eq] at hs
    split at hs
    · rename_i ae
      have he : e = 1 := by simpa using ae
      subst he
      rw [bc_eq] at hs
      split at hs
      · rename_i a1
        simp at hs; obtain ⟨rfl, rfl⟩ := hs
        exact ⟨σ, by simp only [V.av, evAppend, a1, Nat.beq_refl, if_true], h⟩
      · rename_i a1
        have a1 : Nat.beq n 0 = false := notT a1
        rw [bc_eq] at hs
        split at hs
        · rename_i a2
          simp only [n_mul, n_add] at a2
          split at hs
          · rename_i blen num el ro hb
            cases c with
            | zero =>
              simp only [bc_eq, nrec0] at hs
              split at hs
              · cases hs
              rename_i hro
              have hro : ro = false := by simpa using hro
              subst hro
              split at hs
              · rename_i a3
                split at hs
                · rename_i a4
                  have a4' : o = 0 := by simpa using a4
                  subst a4'
                  split at hs
                  · rename_i a5
                    have a5 : len ≤ blen := by simpa using a5
                    simp at hs; obtain ⟨rfl, rfl⟩ := hs
                    have hup := h.upd B.dead (c := b) (FS.lt_of_get (by rw [hb]; exact nofun))
                    refine ⟨_, ?_, hup.new _⟩
                    have e1 : (bytesOf (nb blen num)).take len = bytesOf (nb len num) := by rw [bytesOf_take, nb_take _ _ _ a5]
                    simp only [V.av, evAppend, a1, a2, a3, a4, Nat.beq_refl, if_true, Bool.false_eq_true, if_false, h.bs hb, capO, Nat.mul_one, List.drop_zero, e1, bytesOf_length, nb_length, Bool.and_self, B.blk, n_add, n_mul, n_mod, n_pow, nb_add, bytesOf_append]
                    rw [show (σ.upd b Blk.dead).next = f.next from h.next]
                  · cases hs
                · cases hs
              · cases hs
            | succ c =>
              simp only [bc_eq, nrecS] at hs
              split at hs
              · rename_i a3
                split at hs
                · rename_i f1 hst
                  simp at hs; obtain ⟨rfl, rfl⟩ := hs
                  obtain ⟨σ1, h1, h2⟩ := stBF_spec h hst
                  refine ⟨σ1, ?_, h2⟩
                  simp only [n_add] at a3 h1
                  simp only [V.av, evAppend, a1, a2, a3, Nat.beq_refl, if_true, Bool.false_eq_true, if_false, capO, Nat.mul_one, h1, n_add]
                · cases hs
              · rename_i a3
                have a3 : Nat.ble (len + n) c = false := notT a3
                split at hs
                · rename_i a4
                  have a4 : o + len ≤ blen := by simpa [n_add] using a4
                  simp at hs; obtain ⟨rfl, rfl⟩ := hs
                  refine ⟨_, ?_, h.new _⟩
                  have e1 : ((bytesOf (nb blen num)).drop o).take len = bytesOf (nb len (num / 256 ^ o)) := by rw [bytesOf_drop, bytesOf_take, nb_drop, nb_take _ _ _ (by omega)]
                  simp only [V.av, evAppend, a1, a2, a3, Nat.beq_refl, if_true, Bool.false_eq_true, if_false, capO, Nat.mul_one, ldN, h.bs hb, e1, bytesOf_length, nb_length, n_add, n_mul, n_mod, n_div, n_pow, B.blk, nb_add, bytesOf_append, h.next]
                · cases hs
          · rename_i cs el ro hb
            simp only [bc_eq] at hs
            split at hs
            rotate_left
            · cases hs
            rename_i hc0
            have hc0 : c = 0 := by simpa using hc0
            subst hc0
            split at hs
            · cases hs
            rename_i hro
            have hro : ro = false := by simpa using hro
            subst hro
            split at hs
            rotate_left
            · cases hs
            rename_i a3
            split at hs
            rotate_left
            · cases hs
            rename_i a4
            have a4' : o = 0 := by simpa using a4
            subst a4'
            split at hs
            rotate_left
            · cases hs
            rename_i a5
            have a5' : len = 0 := by simpa using a5
            subst a5'
            simp at hs; obtain ⟨rfl, rfl⟩ := hs
            have hup := h.upd B.dead (c := b) (FS.lt_of_get (by rw [hb]; exact nofun))
            refine ⟨_, ?_, hup.new _⟩
            rw [Nat.zero_add] at a2
            simp only [V.av, evAppend, a1, a2, a3, a4, Nat.beq_refl, if_true, Bool.false_eq_true, if_false, h.row hb, capO, Nat.mul_one, Nat.zero_mul, List.drop_zero, List.take_zero, List.length_nil, Bool.and_self, B.blk, List.nil_append, Nat.zero_add]
            rw [show (σ.upd b Blk.dead).next = f.next from h.next]
          · cases hs
        · cases hs
    · cases hs
  · cases hs
theorem appCF_spec {elem e by_ : Nat} {s v : V} {n : Nat} {new : List V} (h : SR f σ) (hs : appCF elem e by_ s n new f = .val v f') : ∃ σ', evAppend s.av elem e by_ n (V.avs new) σ = some (v.av, σ') ∧ SR f' σ' := by
  unfold appCF at hs
  split at hs
  · simp only [bc_eq] at hs
    split at hs
    · rename_i a1
      simp at hs; obtain ⟨rfl, rfl⟩ := hs
      exact ⟨σ, by simp only [V.av, evAppend, a1, if_true], h⟩
    · rename_i a1
      split at hs
      · rename_i a2
        simp at hs; obtain ⟨rfl, rfl⟩ := hs
        refine ⟨_, ?_, h.new _⟩
        have a1 : Nat.beq n 0 = false := notT a1
        have a2 : Nat.ble (n * (by_ + 1)) 1048576 = true := a2
        simp only [V.av, evAppend, a1, a2, if_true, Bool.false_eq_true, if_false, h.next, capO, B.blk]
      · cases hs
  · rw [bc_eq] at hs
    split at hs
    · rename_i a1
      simp at hs; obtain ⟨rfl, rfl⟩ := hs
      exact ⟨σ, by simp only [V.av, evAppend, a1, if_true], h⟩
    · cases hs
  · rename_i b o m c e'
    rw [bc_eq] at hs
    split at hs
    · rename_i ae
      have he : e' = e := by simpa using ae
      subst he
      rw [bc_eq] at hs
      split at hs
      · rename_i a1
        simp at hs; obtain ⟨rfl, rfl⟩ := hs
        exact ⟨σ, by simp only [V.av, evAppend, a1, Nat.beq_refl, if_true], h⟩
      · rename_i a1
        have a1 : Nat.beq n 0 = false := notT a1
        rw [bc_eq] at hs
        split at hs
        · rename_i a2
          have a2 : Nat.ble ((m + n) * (by_ + 1)) 1048576 = true := a2
          cases c with
          | zero =>
            simp only [bc_eq, nrec0] at hs
            split at hs
            · rename_i cs el ro hb
              split at hs
              · cases hs
              rename_i hro
              have hro : ro = false := by simpa using hro
              subst hro
              split at hs
              · rename_i a3
                split at hs
                · rename_i a4
                  have a4' : o = 0 := by simpa using a4
                  subst a4'
                  split at hs
                  · rename_i old hold
                    simp at hs; obtain ⟨rfl, rfl⟩ := hs
                    rw [takeR_eq] at hold
                    split at hold
                    · rename_i hle
                      simp at hold; subst hold
                      have hup := h.upd B.dead (c := b) (FS.lt_of_get (by rw [hb]; exact nofun))
                      refine ⟨_, ?_, hup.new _⟩
                      have e1 : (V.avs cs).take (m * e') = V.avs (cs.take (m * e')) := by simp [avs_eq, List.map_take]
                      have e2 : (V.avs (cs.take (m * e'))).length = m * e' := by
                        rw [avs_length, List.length_take]
                        simp only [n_mul] at hle; omega
                      simp only [V.av, evAppend, a1, a2, a3, a4, Nat.beq_refl, if_true, Bool.false_eq_true, if_false, h.row hb, capO, List.drop_zero, e1, e2, Bool.and_self, B.blk, n_add, n_mul, appR_eq]
                      simp only [avs_eq, List.map_append]
                      rw [show (σ.upd b Blk.dead).next = f.next from h.next]
                    · cases hold
                  · cases hs
                · cases hs
              · cases hs
            · cases hs
          | succ c =>
            simp only [bc_eq, nrecS] at hs
            split at hs
            · rename_i a3
              split at hs
              · rename_i f1 hst
                simp at hs; obtain ⟨rfl, rfl⟩ := hs
                obtain ⟨σ1, h1, h2⟩ := stNF_spec h hst
                refine ⟨σ1, ?_, h2⟩
                simp only [n_add, n_mul] at a3 h1
                simp only [V.av, evAppend, a1, a2, a3, Nat.beq_refl, if_true, Bool.false_eq_true, if_false, capO, h1, n_add]
              · cases hs
            · rename_i a3
              have a3 : Nat.ble (m + n) c = false := notT a3
              split at hs
              · rename_i old hld
                simp at hs; obtain ⟨rfl, rfl⟩ := hs
                refine ⟨_, ?_, h.new _⟩
                have h1 := ldNF_spec h hld
                simp only [n_mul] at h1
                simp only [V.av, evAppend, a1, a2, a3, Nat.beq_refl, if_true, Bool.false_eq_true, if_false, capO, h1, n_add, B.blk, h.next, appR_eq]
                simp only [avs_eq, List.map_append]
              · cases hs
        · cases hs
    · cases hs
  · cases hs
theorem slice_any {t : Nat} {x : AV} {lo hi : Option AV} {m : AV} (hx : (∃ b o n c e, x = .sl b o n c e) ∨ x = .nils) (σ0 σ : St) :
    evSlice E t x lo hi (some m) σ = (evSlice E t x lo hi (some m) σ0).map fun p => (p.1, σ) := by
  rcases hx with ⟨b, o, n, c, e, rfl⟩ | rfl
  · unfold evSlice
    cases E.ty t with
    | none => rfl
    | some ti =>
      simp only
      generalize ti.k = kk
      cases kk with
      | slice el =>
        simp only
        cases E.ty el with
        | none => rfl
        | some te =>
          simp only
          cases Nat.beq te.size e with
          | false => rfl
          | true =>
            simp only [if_true]
            cases numO lo 0 with
            | none => rfl
            | some l =>
              cases numO hi n with
              | none => rfl
              | some h =>
                simp only
                cases numO (some m) 0 with
                | none => rfl
                | some m' =>
                  simp only
                  split <;> rfl
      | _ => rfl
  · unfold evSlice
    cases E.ty t with
    | none => rfl
    | some ti =>
      simp only
      generalize ti.k = kk
      cases kk with
      | slice el =>
        simp only
        cases E.ty el with
        | none => rfl
        | some te =>
          simp only
          split
          · split <;> rfl
          · rfl
      | _ => rfl
theorem cOptA_spec {lo : Option Operand} {b : F → Option AV} (hb : cOptA i lo = some b) {ff : F} {fr : Fr} (hf : FfR i ff fr) : b ff = lo.map fr.val := by
  cases lo with
  | none => simp [cOptA] at hb; subst hb; rfl
  | some x =>
    simp only [cOptA] at hb
    split at hb
    · rename_i g hx
      simp at hb; subst hb
      simp only [cO_spec hx hf, Option.map_some]
    · cases hb
theorem cSlice3_spec {t : Nat} {x m : Operand} {g : F → V} {lo hi : Option Operand} {c : CO} (hg : Is i g x) (hc : cSlice3 E i t g lo hi m = some c) : COk E i (.slice t x lo hi (some m)) c := by
  unfold cSlice3 at hc
  split at hc
  · rename_i l h gm hl hh hm
    simp at hc; subst hc
    intro ff fr σ v hfr hv
    simp only [cOptA_spec hl hfr, cOptA_spec hh hfr, cO_spec hm hfr, hg ff fr hfr] at hv
    simp only [evOp, Option.map_some]
    unfold slice3 at hv
    split at hv
    · rename_i hx
      split at hv
      · rename_i v' s' he
        simp at hv; subst hv
        rw [hx, slice_any (.inr rfl) { h := .e, next := 0, log := [] } σ, he]
        simp [valS, enc_av]
      · cases hv
    · rename_i b o n c e hx
      split at hv
      · rename_i v' s' he
        simp at hv; subst hv
        rw [hx, slice_any (.inl ⟨b, o, n, c, e, rfl⟩) { h := .e, next := 0, log := [] } σ, he]
        simp [valS, enc_av]
      · cases hv
    · cases hv
  · cases hc
end Go.Ev
