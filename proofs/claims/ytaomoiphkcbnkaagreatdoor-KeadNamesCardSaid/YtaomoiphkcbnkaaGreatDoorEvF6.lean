/- The law of this seat holds of every input: a part of the proof (an evaluator that is proved to answer as the model does, and its runs by the kernel). -/
import Derived.Test.YtaomoiphkcbnkaaGreatDoorEvF5
set_option linter.unusedVariables false
set_option linter.unusedSimpArgs false
namespace Go.Ev
variable {E : Env} {i : FI} {f f' : FS} {σ σ' : St}

theorem appBF_nc {elem n m a : Nat} {s : V} {b : List V} : appBF elem s n m f = .call a b → False := by
  intro hv; unfold appBF at hv
  cases s with
  | sl b o len c e => cases c <;> (simp only [bc_eq, nrec0, nrecS] at hv; repeat' split at hv) <;> cases hv
  | nils => (simp only [bc_eq] at hv; (repeat' split at hv) <;> cases hv)
  | esl => (simp only [bc_eq] at hv; (repeat' split at hv) <;> cases hv)
  | _ => cases hv
theorem appCF_nc {elem e by_ n a : Nat} {s : V} {new b : List V} : appCF elem e by_ s n new f = .call a b → False := by
  intro hv; unfold appCF at hv
  cases s with
  | sl b o len c e => cases c <;> (simp only [bc_eq, nrec0, nrecS] at hv; repeat' split at hv) <;> cases hv
  | nils => (simp only [bc_eq] at hv; (repeat' split at hv) <;> cases hv)
  | esl => (simp only [bc_eq] at hv; (repeat' split at hv) <;> cases hv)
  | _ => cases hv
theorem isSS {k : TK} (h : isSSK k = true) : (∃ e, k = .slice e) ∨ k = .string := by
  unfold isSSK at h
  split at h
  · exact .inl ⟨_, rfl⟩
  · exact .inr rfl
  · cases h
theorem cBi_spec {bi : Builtin} {tys : List Nat} {xs : List Operand} {gs : List (F → V)} {c : CO} {o : Op}
    (ho : ∀ fr : Fr, ∀ σ, evOp E fr.val o σ = valS (evBuiltin E bi tys (xs.map fr.val) σ))
    (hg : ∀ ff fr, FfR i ff fr → gs.map (fun g => (g ff).av) = xs.map fr.val) (hc : cBi E bi tys gs = some c) : COk E i o c := by
  unfold cBi at hc
  split at hc
  · -- len
    rename_i t x
    split at hc
    · cases hc
    rename_i ti ht
    split at hc
    · rename_i n e hk
      simp at hc; subst hc
      intro ff fr σ hfr
      have := hg ff fr hfr
      simp only [List.map_cons, List.map_nil] at this
      rw [ho, ← this]
      simp only [evBuiltin, ht, hk, valS, V.av, kOf]
    · rename_i hk
      simp at hc; subst hc
      intro ff fr σ v hfr hv
      have := hg ff fr hfr
      simp only [List.map_cons, List.map_nil] at this
      rw [ho, ← this]
      simp only at hv
      split at hv
      · rename_i l n hx
        simp at hv; subst hv
        simp only [hx, evBuiltin, ht, hk, valS, V.av, kOf, nb_length]
      · cases hv
    · rename_i e hk
      simp at hc; subst hc
      intro ff fr σ v hfr hv
      have := hg ff fr hfr
      simp only [List.map_cons, List.map_nil] at this
      rw [ho, ← this]
      simp only at hv
      split at hv
      · rename_i hx
        simp at hv; subst hv
        simp only [hx, evBuiltin, ht, hk, valS, V.av, kOf]
      · rename_i hx
        simp at hv; subst hv
        simp only [hx, evBuiltin, ht, hk, valS, V.av, kOf]; rfl
      · rename_i hx
        simp at hv; subst hv
        simp only [hx, evBuiltin, ht, hk, valS, V.av, kOf]; rfl
      · cases hv
    · cases hc
  · -- cap
    rename_i t x
    split at hc
    · cases hc
    rename_i ti ht
    split at hc
    · rename_i e hk
      simp at hc; subst hc
      intro ff fr σ v hfr hv
      have := hg ff fr hfr
      simp only [List.map_cons, List.map_nil] at this
      rw [ho, ← this]
      simp only at hv
      split at hv
      · rename_i hx
        simp at hv; subst hv
        simp only [hx, evBuiltin, ht, hk, valS, V.av, kOf]; rfl
      · rename_i b o n c e hx
        cases c with
        | zero => cases hv
        | succ c =>
          simp only [nrecS] at hv
          simp at hv; subst hv
          simp only [hx, evBuiltin, ht, hk, valS, V.av, kOf, capO]
      · cases hv
    · cases hc
  · -- append
    rename_i t u s x
    split at hc
    rotate_left
    · cases hc
    rename_i ti tu ht hu
    split at hc
    rotate_left
    · cases hc
    rename_i elem hk
    split at hc
    rotate_left
    · cases hc
    rename_i te he
    split at hc
    rotate_left
    · cases hc
    rename_i hss
    have hss := isSS hss
    split at hc
    · rename_i hb
      simp only [Bool.and_eq_true] at hb
      obtain ⟨te', h1, h2, h3⟩ := isU8_spec hb.1
      rw [he] at h1
      simp at h1; subst h1
      have hby : te.bytes = 1 := by simpa using hb.2
      simp at hc; subst hc
      intro ff fr fs σ hfr h
      have hm := hg ff fr hfr
      simp only [List.map_cons, List.map_nil] at hm
      refine ⟨fun v fs' hv => ?_, fun a b hv => ?_⟩
      · simp only at hv
        split at hv
        · rename_i n m hsl
          obtain ⟨b1, b2, _⟩ := slB_spec h hsl
          obtain ⟨σ', c1, c2⟩ := appBF_spec h hv
          refine ⟨σ', ?_, c2⟩
          rw [ho, ← hm]
          rcases hss with ⟨e, hss⟩ | hss <;> simp only [evBuiltin, ht, hu, hk, he, hss, h3, b1, b2, bytes_one, if_true, hby, c1, valS]
        · cases hv
      · simp only at hv
        split at hv
        · rename_i n m hsl
          exfalso
          exact appBF_nc hv
        · cases hv
    · simp at hc; subst hc
      intro ff fr fs σ hfr h
      have hm := hg ff fr hfr
      simp only [List.map_cons, List.map_nil] at hm
      refine ⟨fun v fs' hv => ?_, fun a b hv => ?_⟩
      · simp only at hv
        split at hv
        · rename_i n l hsl
          rw [bc_eq] at hv
          split at hv
          · rename_i hall
            obtain ⟨b1, _, b2⟩ := slC_spec h hsl
            obtain ⟨σ', c1, c2⟩ := appCF_spec h hv
            refine ⟨σ', ?_, c2⟩
            rw [ho, ← hm]
            rcases hss with ⟨e, hss⟩ | hss <;> simp only [evBuiltin, ht, hu, hk, he, hss, b1, b2, oneF_all, hall, if_true, c1, valS]
          · cases hv
        · cases hv
      · simp only at hv
        split at hv
        · rename_i n m hsl
          exfalso
          rw [bc_eq] at hv
          split at hv
          rotate_left
          · cases hv
          exact appCF_nc hv
        · cases hv
  · -- copy
    rename_i t u d x
    split at hc
    rotate_left
    · cases hc
    rename_i ti tu ht hu
    split at hc
    rotate_left
    · cases hc
    rename_i elem hk
    split at hc
    rotate_left
    · cases hc
    rename_i te he
    split at hc
    rotate_left
    · cases hc
    rename_i hb
    simp only [Bool.and_eq_true] at hb
    have hss := isSS hb.1.1
    have hsz : te.size = 1 := by simpa using hb.2
    simp at hc; subst hc
    intro ff fr fs σ hfr h
    have hm := hg ff fr hfr
    simp only [List.map_cons, List.map_nil] at hm
    refine ⟨fun v fs' hv => ?_, fun a b hv => ?_⟩
    · simp only at hv
      split at hv
      · rename_i m num hsl
        split at hv
        · rename_i b o n c e hd
          have hmin : bc (Nat.ble m n) m n = min m n := by
            rw [bc_eq, bleD]
            by_cases hle : m ≤ n
            · rw [if_pos (by simpa using hle)]; omega
            · rw [if_neg (by simpa using hle)]; omega
          rw [hmin] at hv
          simp only [bc_eq] at hv
          obtain ⟨b1, b2, _⟩ := slB_spec h hsl
          split at hv
          · rename_i he1
            have he1' : e = 1 := by simpa using he1
            subst he1'
            split at hv
            · rename_i hz
              simp at hv; obtain ⟨rfl, rfl⟩ := hv
              refine ⟨σ, ?_, h⟩
              rw [ho, ← hm]
              rcases hss with ⟨e, hss⟩ | hss <;> simp only [evBuiltin, ht, hu, hk, he, hss, hsz, hd, V.av, slLen, b1, b2, bytes_one, if_true, hz, valS, kOf] <;> rfl
            · rename_i hz
              have hz := notT hz
              split at hv
              · rename_i f1 hst
                simp at hv; obtain ⟨rfl, rfl⟩ := hv
                obtain ⟨σ1, c1, c2⟩ := stBF_spec h hst
                refine ⟨σ1, ?_, c2⟩
                rw [ho, ← hm]
                have et : (bytesOf (nb m num)).take (min m n * 1) = bytesOf (nb (min m n) num) := by
                  rw [bytesOf_take, nb_take _ _ _ (by omega), Nat.mul_one]
                rcases hss with ⟨e, hss⟩ | hss <;> simp only [evBuiltin, ht, hu, hk, he, hss, hsz, hd, V.av, slLen, b1, b2, bytes_one, if_true, hz, Bool.false_eq_true, if_false, Nat.beq_refl, et, c1, valS, kOf]
              · cases hv
          · cases hv
        · cases hv
      · cases hv
    · simp only [bc_eq] at hv
      repeat' split at hv
      all_goals cases hv
  · -- min
    rename_i x y
    simp at hc; subst hc
    intro ff fr σ v hfr hv
    have := hg ff fr hfr
    simp only [List.map_cons, List.map_nil] at this
    rw [ho, ← this]
    simp only at hv
    split at hv
    · rename_i k a k' b hx hy
      simp at hv; subst hv
      simp only [hx, hy, evBuiltin, valS, V.av, bc_eq, bltD, decide_eq_true_eq]
      by_cases hlt : b < a
      · rw [if_pos hlt, if_pos (by omega)]
      · rw [if_neg hlt, if_neg (by omega)]
    · rename_i k a k' b hx hy
      simp at hv; subst hv
      simp only [hx, hy, evBuiltin, valS, V.av]
      rw [if_neg (by omega)]
    · rename_i k a k' b hx hy
      simp at hv; subst hv
      simp only [hx, hy, evBuiltin, valS, V.av]
      rw [if_pos (by omega)]
    · cases hv
  · -- max
    rename_i x y
    simp at hc; subst hc
    intro ff fr σ v hfr hv
    have := hg ff fr hfr
    simp only [List.map_cons, List.map_nil] at this
    rw [ho, ← this]
    simp only at hv
    split at hv
    · rename_i k a k' b hx hy
      simp at hv; subst hv
      simp only [hx, hy, evBuiltin, valS, V.av, bc_eq, bltD, decide_eq_true_eq]
      by_cases hlt : a < b
      · rw [if_pos hlt, if_pos (by omega)]
      · rw [if_neg hlt, if_neg (by omega)]
    · rename_i k a k' b hx hy
      simp at hv; subst hv
      simp only [hx, hy, evBuiltin, valS, V.av]
      rw [if_pos (by omega)]
    · rename_i k a k' b hx hy
      simp at hv; subst hv
      simp only [hx, hy, evBuiltin, valS, V.av]
      rw [if_neg (by omega)]
    · cases hv
  · -- where a slice's cells are
    rename_i x
    simp at hc; subst hc
    intro ff fr σ v hfr hv
    have := hg ff fr hfr
    simp only [List.map_cons, List.map_nil] at this
    rw [ho, ← this]
    simp only at hv
    split at hv
    · rename_i hx
      simp at hv; subst hv
      simp only [hx, evBuiltin, valS, V.av]
    · rename_i b o n c e hx
      rw [bc_eq] at hv
      split at hv
      · cases hv
      rename_i hn
      have hn := notT hn
      simp at hv; subst hv
      simp only [hx, evBuiltin, valS, V.av, hn, Bool.false_eq_true, if_false]
    · cases hv
  · -- a text of a pointer
    rename_i pt u x y
    split at hc
    · cases hc
    rename_i ti ht
    split at hc
    rotate_left
    · cases hc
    rename_i e hk
    split at hc
    rotate_left
    · cases hc
    rename_i tu hu
    split at hc
    rotate_left
    · cases hc
    rename_i hsz
    simp at hc; subst hc
    intro ff fr fs σ hfr h
    have hm := hg ff fr hfr
    simp only [List.map_cons, List.map_nil] at hm
    refine ⟨fun v fs' hv => ?_, fun a b hv => ?_⟩
    · simp only at hv
      split at hv
      · rename_i hx
        split at hv
        · rename_i k n hy
          simp only [bc_eq] at hv
          split at hv
          · rename_i h3
            have h3 : k = 3 := by simpa using h3
            subst h3
            split at hv
            · rename_i h0
              have h0 : n = 0 := by simpa using h0
              subst h0
              simp at hv; obtain ⟨rfl, rfl⟩ := hv
              refine ⟨σ, ?_, h⟩
              rw [ho, ← hm]
              simp only [hx, hy, V.av, kOf, evBuiltin, valS, nb, Int.cast_ofNat_Int]
            · cases hv
          · cases hv
        · cases hv
      · rename_i b o hx
        rw [bc_eq] at hv
        split at hv
        rotate_left
        · cases hv
        rename_i h0
        have h0 : o = 0 := by simpa using h0
        subst h0
        split at hv
        · rename_i k n hy
          simp only [bc_eq] at hv
          split at hv
          rotate_left
          · cases hv
          rename_i h3
          have h3 : k = 3 := by simpa using h3
          subst h3
          split at hv
          · cases hv
          rename_i hn0
          have hn0 : n ≠ 0 := by simpa using hn0
          split at hv
          rotate_left
          · cases hv
          rename_i hle
          have hle : n ≤ 9223372036854775807 := by simpa using hle
          split at hv
          · rename_i len num el ro hb
            split at hv
            · cases hv
            rename_i hro
            have hro : ro = false := by simpa using hro
            subst hro
            split at hv
            rotate_left
            · cases hv
            rename_i heq
            split at hv
            rotate_left
            · cases hv
            rename_i hnl
            have hnl : n ≤ len := by simpa using hnl
            simp at hv; obtain ⟨rfl, rfl⟩ := hv
            refine ⟨_, ?_, h.upd _ (FS.lt_of_get (by rw [hb]; exact nofun))⟩
            rw [ho, ← hm]
            have e1 : ((bytesOf (nb len num)).drop 0).take n = bytesOf (nb n num) := by rw [List.drop_zero, bytesOf_take, nb_take _ _ _ hnl]
            have e2 : ¬ ((n : Int) ≤ 0 ∨ (9223372036854775807 : Int) < (n : Int)) := by omega
            simp only [hx, hy, V.av, kOf, evBuiltin, if_neg e2, ht, hk, h.bs hb, hu, heq, hsz, Bool.and_self, if_true, ldN, Int.toNat_natCast, e1, bytesOf_length, nb_length, Nat.beq_refl, toBytes_bytesOf, valS, B.blk, n_mod, n_pow]
            rw [nb_mod _ _ _ (Nat.le_refl _)]
          · cases hv
        · cases hv
      · cases hv
    · simp only [bc_eq] at hv
      repeat' split at hv
      all_goals cases hv
  · cases hc
end Go.Ev
