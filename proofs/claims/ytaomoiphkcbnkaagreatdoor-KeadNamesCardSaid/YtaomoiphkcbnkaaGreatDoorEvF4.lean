/- The law of this seat holds of every input: a part of the proof (an evaluator that is proved to answer as the model does, and its runs by the kernel). -/
import Derived.Test.YtaomoiphkcbnkaaGreatDoorEvF3
set_option linter.unusedVariables false
set_option linter.unusedSimpArgs false
namespace Go.Ev
variable {E : Env} {i : FI}

/-- a closure does what the operation does -/
def COk (E : Env) (i : FI) (o : Op) : CO → Prop
  | .pure g => ∀ ff fr σ, FfR i ff fr → evOp E fr.val o σ = some (.val (g ff).av σ)
  | .part g => ∀ ff fr σ v, FfR i ff fr → g ff = some v → evOp E fr.val o σ = some (.val v.av σ)
  | .eff g => ∀ ff fr fs σ, FfR i ff fr → SR fs σ → (∀ v fs', g ff fs = .val v fs' → ∃ σ', evOp E fr.val o σ = some (.val v.av σ') ∧ SR fs' σ') ∧ (∀ h args, g ff fs = .call h args → evOp E fr.val o σ = some (.call h (V.avs args)))

def Is (i : FI) (g : F → V) (x : Operand) : Prop := ∀ ff fr, FfR i ff fr → (g ff).av = fr.val x
theorem Is.of {x : Operand} {g : F → V} (h : cO i x = some g) : Is i g x := fun _ _ hf => cO_spec h hf

theorem ptrEq2_spec {t e : Nat} {cst : Bool} {ti te : TyI} (ht : E.ty t = some ti) (hk : ti.k = .ptr e) (he : E.ty e = some te) {x y : V} {b : Bool} (h : ptrEq2 x y = some b) :
    binop .eql x.av y.av = none ∧ binop .neq x.av y.av = none ∧ eqT E t cst x.av y.av = some b := by
  unfold ptrEq2 at h
  split at h
  · split at h
    · split at h
      · rename_i hh
        simp at h; subst h
        refine ⟨rfl, rfl, ?_⟩
        simp only [eqT, ht, hk, V.av, he, hh, if_true]
      · cases h
    · simp at h; subst h; refine ⟨rfl, rfl, ?_⟩; simp only [eqT, ht, hk, V.av]
    · cases h
  · split at h
    · simp at h; subst h; refine ⟨rfl, rfl, ?_⟩; simp only [eqT, ht, hk, V.av]
    · simp at h; subst h; refine ⟨rfl, rfl, ?_⟩; simp only [eqT, ht, hk, V.av]
    · cases h
  · cases h
theorem eqF_spec {t : Nat} {cst : Bool} {x y : V} {b : Bool} (h : eqF E t cst x y = some b) : binop .eql x.av y.av = none ∧ eqT E t cst x.av y.av = some b := by
  unfold eqF at h
  split at h
  · cases h
  · rename_i hn; exact ⟨hn, h⟩
theorem neF_spec {t : Nat} {cst : Bool} {x y : V} {b : Bool} (h : neF E t cst x y = some b) : binop .neq x.av y.av = none ∧ ∃ c, eqT E t cst x.av y.av = some c ∧ b = !c := by
  unfold neF at h
  split at h
  · cases h
  · rename_i hn
    split at h
    · rename_i c hc; simp only [Option.some.injEq] at h; exact ⟨hn, c, hc, h.symm⟩
    · cases h
theorem cBin_spec {op : BinOp} {t yt : Nat} {x y : Operand} {g h : F → V} {c : CO} (hg : Is i g x) (hh : Is i h y) (hc : cBin E op t (isConstO x || isConstO y) g h = some c) : COk E i (.binOp op t x y yt) c := by
  unfold cBin at hc
  split at hc
  · cases hc
  rename_i ti ht
  split at hc
  · split at hc
    · rename_i k f hf
      simp at hc; subst hc
      intro ff fr σ v hfr hv
      have := intBin_spec hf hv
      rw [hg ff fr hfr, hh ff fr hfr] at this
      simp only [evOp, this]
    · cases hc
  · split at hc
    · rename_i f hf
      simp at hc; subst hc
      intro ff fr σ v hfr hv
      have := strBin_spec hf hv
      rw [hg ff fr hfr, hh ff fr hfr] at this
      simp only [evOp, this]
    · cases hc
  · rename_i e hk
    split at hc
    · rename_i te he
      split at hc
      · simp at hc; subst hc
        intro ff fr σ v hfr hv
        simp only at hv
        split at hv
        · rename_i b hb
          simp at hv; subst hv
          obtain ⟨h1, _, h3⟩ := ptrEq2_spec (cst := isConstO x || isConstO y) ht hk he hb
          rw [hg ff fr hfr, hh ff fr hfr] at h1 h3
          simp only [evOp, h1, h3, V.av]
        · cases hv
      · simp at hc; subst hc
        intro ff fr σ v hfr hv
        simp only at hv
        split at hv
        · rename_i b hb
          simp at hv; subst hv
          obtain ⟨_, h2, h3⟩ := ptrEq2_spec (cst := isConstO x || isConstO y) ht hk he hb
          rw [hg ff fr hfr, hh ff fr hfr] at h2 h3
          simp only [evOp, h2, h3, V.av]
        · cases hv
      · cases hc
    · cases hc
  · split at hc
    · simp at hc; subst hc
      intro ff fr σ v hfr hv
      simp only at hv
      split at hv
      · rename_i b hb
        simp at hv; subst hv
        obtain ⟨h1, h3⟩ := eqF_spec hb
        rw [hg ff fr hfr, hh ff fr hfr] at h1 h3
        simp only [evOp, h1, h3, V.av]
      · cases hv
    · simp at hc; subst hc
      intro ff fr σ v hfr hv
      simp only at hv
      split at hv
      · rename_i b hb
        simp at hv; subst hv
        obtain ⟨h1, c, h3, rfl⟩ := neF_spec hb
        rw [hg ff fr hfr, hh ff fr hfr] at h1 h3
        simp only [evOp, h1, h3, V.av]
      · cases hv
    · cases hc
theorem cUn_spec {op : UnOp} {t : Nat} {x : Operand} {g : F → V} {c : CO} (hg : Is i g x) (hc : cUn op g = some c) : COk E i (.unOp op t x) c := by
  unfold cUn at hc
  split at hc
  · simp at hc; subst hc
    intro ff fr σ v hfr hv
    have hx := hg ff fr hfr
    simp only at hv
    split at hv
    · rename_i b hb
      simp at hv; subst hv
      rw [hb] at hx
      simp only [evOp, ← hx, V.av, unop, valO]
    · cases hv
  · simp at hc; subst hc
    intro ff fr σ v hfr hv
    have hx := hg ff fr hfr
    simp only at hv
    split at hv
    · rename_i r hr
      simp at hv; subst hv
      rw [hx] at hr
      simp only [evOp, hr, valO, enc_av]
    · cases hv

theorem toBytes_bytesOf : ∀ s : List UInt8, toBytes (bytesOf s) = some s
  | [] => rfl
  | c :: l => by
    have ih := toBytes_bytesOf l
    have hc : c.toNat < 256 := c.toNat_lt
    simp only [bytesOf, List.map_cons, toBytes] at ih ⊢
    rw [if_pos (by omega), ih]
    simp
variable {f f' : FS} {σ σ' : St}
theorem slB_spec (h : SR f σ) {x : V} {l n : Nat} (hs : slB f x = some (l, n)) : lenOf x.av = some l ∧ slCells σ 1 x.av = some (bytesOf (nb l n)) ∧ ((∀ a b, x ≠ .st a b) → slLen x.av = some l) := by
  unfold slB at hs
  split at hs
  · simp at hs; obtain ⟨rfl, rfl⟩ := hs; exact ⟨rfl, rfl, fun _ => rfl⟩
  · simp at hs; obtain ⟨rfl, rfl⟩ := hs; exact ⟨rfl, rfl, fun _ => rfl⟩
  · simp at hs; obtain ⟨rfl, rfl⟩ := hs
    exact ⟨by simp [V.av, lenOf, nb_length], by simp [V.av, slCells], fun hh => absurd rfl (hh _ _)⟩
  · rw [bc_eq] at hs
    split at hs
    · rename_i b o n' c e he
      have he : e = 1 := by simpa using he
      subst he
      split at hs
      · rename_i len num el ro hb
        rw [bc_eq] at hs
        split at hs
        · rename_i hle
          have hle : o + n' ≤ len := by simpa using hle
          simp at hs; obtain ⟨rfl, rfl⟩ := hs
          refine ⟨rfl, ?_, fun _ => rfl⟩
          have e1 : ((bytesOf (nb len num)).drop o).take n' = bytesOf (nb n' (num / 256 ^ o)) := by
            rw [bytesOf_drop, bytesOf_take, nb_drop, nb_take _ _ _ (by omega)]
          simp only [V.av, slCells, Nat.beq_refl, if_true, ldN, h.bs hb, Nat.mul_one, e1, bytesOf_length, nb_length, n_div, n_pow, n_mod]
          rw [nb_mod _ _ _ (Nat.le_refl _)]
        · cases hs
      · cases hs
    · cases hs
  · cases hs
theorem slC_spec (h : SR f σ) {x : V} {size n : Nat} {l : List V} (hs : slC f size x = some (n, l)) : lenOf x.av = some n ∧ slLen x.av = some n ∧ slCells σ size x.av = some (V.avs l) := by
  unfold slC at hs
  split at hs
  · simp at hs; obtain ⟨rfl, rfl⟩ := hs; exact ⟨rfl, rfl, rfl⟩
  · simp at hs; obtain ⟨rfl, rfl⟩ := hs; exact ⟨rfl, rfl, rfl⟩
  · rw [bc_eq] at hs
    split at hs
    · rename_i b o n' c e he
      split at hs
      · rename_i l' hl
        simp at hs; obtain ⟨rfl, rfl⟩ := hs
        refine ⟨rfl, rfl, ?_⟩
        simp only [V.av, slCells, he, if_true]
        exact ldNF_spec h hl
      · cases hs
    · cases hs
  · cases hs
theorem encode_ascii (n : Nat) (h : n < 128) : (Utf8.encode (n : Int)).data.toList = nb 1 n := by
  have hv : Utf8.valid (n : Int) = true := by simp [Utf8.valid]; omega
  simp only [Utf8.encode, hv, if_true, Int.toNat_natCast]
  rw [if_pos (by omega)]
  simp [nb, Nat.mod_eq_of_lt (show n < 256 by omega)]
theorem runesF_spec {l : List V} {m n : Nat} (h : runesF l = some (m, n)) : runesToS (V.avs l) = some (nb m n) := by
  unfold runesF at h
  split at h
  · simp at h; obtain ⟨rfl, rfl⟩ := h; rfl
  · rename_i k c
    rw [bc_eq, bc_eq] at h
    split at h
    · rename_i hk
      have hk : k = 2 := by simpa using hk
      subst hk
      split at h
      · rename_i hc
        have hc : c < 128 := by simpa using hc
        simp at h; obtain ⟨rfl, rfl⟩ := h
        simp [V.avs, V.av, kOf, runesToS, encode_ascii c hc]
      · cases h
    · cases h
  · split at h
    · rename_i s hs
      simp at h; obtain ⟨rfl, rfl⟩ := h
      rw [hs, nb_numOf]
    · cases h
theorem isU8_spec {e : Nat} (h : isU8 E e = true) : ∃ te, E.ty e = some te ∧ te.k = .int .u8 ∧ te.size = 1 := by
  unfold isU8 at h
  split at h
  · rename_i te ht
    split at h
    · rename_i hk; exact ⟨te, ht, hk, by simpa using h⟩
    · cases h
  · cases h
theorem kInt_u8 {e : Nat} (h : isU8 E e = true) : kInt E e = some .u8 := by
  obtain ⟨te, ht, hk, _⟩ := isU8_spec h
  simp [kInt, ht, hk]
theorem cConv_spec {s d : Nat} {x : Operand} {g : F → V} {c : CO} (hg : Is i g x) (hc : cConv E s d g = some c) : COk E i (.convert s d x) c := by
  unfold cConv at hc
  split at hc
  rotate_left
  · cases hc
  rename_i ts td hs hd
  split at hc
  · -- to a whole number
    rename_i k hk
    simp at hc; subst hc
    intro ff fr σ v hfr hv
    have hx := hg ff fr hfr
    simp only at hv
    split at hv
    · rename_i k1 n hxv
      rw [hxv] at hx
      have := finW_spec hv
      simp only [evOp, ← hx, V.av, convert, hs, hd, hk, valS, this]
    · rename_i k1 n hxv
      rw [hxv] at hx
      split at hv
      · rename_i hsg
        rw [bc_eq] at hv
        split at hv
        · rename_i hn
          have : finN k n = some v := by unfold finN; rw [hsg, ← hv]; simp [bc_eq, hn]
          have := finN_spec this
          simp only [evOp, ← hx, V.av, convert, hs, hd, hk, valS, this]
        · cases hv
      · simp at hv; subst hv
        simp only [evOp, ← hx, V.av, convert, hs, hd, hk, valS, enc_av]
    · cases hv
  · -- text to text
    rename_i hk1 hk2
    simp at hc; subst hc
    intro ff fr σ v hfr hv
    have hx := hg ff fr hfr
    simp only at hv
    split at hv
    · rename_i l n hxv
      rw [hxv] at hx
      simp at hv; subst hv
      simp only [evOp, ← hx, V.av, convert, hs, hd, hk1, hk2, valS]
    · cases hv
  · -- text to bytes
    rename_i e hk1 hk2
    split at hc
    · rename_i hu
      simp at hc; subst hc
      intro ff fr fs σ hfr h
      have hx := hg ff fr hfr
      refine ⟨fun v fs' hv => ?_, fun a b hv => ?_⟩
      · simp only at hv
        split at hv
        · rename_i l n hxv
          rw [hxv] at hx
          simp at hv; obtain ⟨rfl, rfl⟩ := hv
          refine ⟨σ.new (B.bs l n e false).blk, ?_, h.new _⟩
          simp only [evOp, ← hx, V.av, convert, hs, hd, hk1, hk2, valS, kInt_u8 hu, nb_length, h.next, capO, B.blk]
        · cases hv
      · simp only at hv
        split at hv <;> cases hv
    · cases hc
  · -- bytes to bytes
    rename_i e0 e hk1 hk2
    split at hc
    · rename_i hu
      simp only [Bool.and_eq_true] at hu
      simp at hc; subst hc
      intro ff fr fs σ hfr h
      have hx := hg ff fr hfr
      refine ⟨fun v fs' hv => ?_, fun a b hv => ?_⟩
      · simp only at hv
        split at hv
        · rename_i b o n c w hxv
          rw [hxv] at hx
          split at hv
          · rename_i cs el ro hb
            rw [bc_eq] at hv
            split at hv
            · cases hv
            rename_i hro
            have hro : ro = false := by simpa using hro
            subst hro
            simp at hv; obtain ⟨rfl, rfl⟩ := hv
            refine ⟨σ.upd b (B.row cs el true).blk, ?_, h.upd _ (FS.lt_of_get (by rw [hb]; exact nofun))⟩
            simp only [evOp, ← hx, V.av, convert, hs, hd, hk1, hk2, valS, kInt_u8 hu.1, hu.2, if_true, h.row hb, B.blk]
          · rename_i l m el ro hb
            rw [bc_eq] at hv
            split at hv
            · cases hv
            rename_i hro
            have hro : ro = false := by simpa using hro
            subst hro
            simp at hv; obtain ⟨rfl, rfl⟩ := hv
            refine ⟨σ.upd b (B.bs l m el true).blk, ?_, h.upd _ (FS.lt_of_get (by rw [hb]; exact nofun))⟩
            simp only [evOp, ← hx, V.av, convert, hs, hd, hk1, hk2, valS, kInt_u8 hu.1, hu.2, if_true, h.bs hb, B.blk]
          · cases hv
        · cases hv
      · simp only at hv
        split at hv
        · split at hv
          · rw [bc_eq] at hv; split at hv <;> cases hv
          · rw [bc_eq] at hv; split at hv <;> cases hv
          · cases hv
        · cases hv
    · cases hc
  · -- bytes or runes to text
    rename_i e hk1 hk2
    split at hc
    · rename_i hu
      simp at hc; subst hc
      intro ff fr fs σ hfr h
      have hx := hg ff fr hfr
      refine ⟨fun v fs' hv => ?_, fun a b hv => ?_⟩
      · simp only at hv
        split at hv
        · cases hv
        · rename_i hns
          split at hv
          · rename_i l n hsl
            simp at hv; obtain ⟨rfl, rfl⟩ := hv
            obtain ⟨h1, h2, h3⟩ := slB_spec h hsl
            have h3 := h3 (fun a b hh => hns a b hh)
            refine ⟨σ, ?_, h⟩
            simp only [evOp, ← hx]
            cases hgv : g ff <;> rw [hgv] at h2 h3 <;> simp only [V.av] at h2 h3 ⊢
            all_goals first
              | (cases h3; done)
              | (simp only [convert, hs, hd, hk1, hk2, h2, h3, hu, toBytes_bytesOf, valS]; done)
          · cases hv
      · simp only at hv
        split at hv
        · cases hv
        · split at hv <;> cases hv
    · rename_i hu
      simp at hc; subst hc
      intro ff fr fs σ hfr h
      have hx := hg ff fr hfr
      refine ⟨fun v fs' hv => ?_, fun a b hv => ?_⟩
      · simp only at hv
        split at hv
        · rename_i n0 l hsl
          split at hv
          · rename_i l' n hr
            simp at hv; obtain ⟨rfl, rfl⟩ := hv
            obtain ⟨h1, h3, h2⟩ := slC_spec h hsl
            refine ⟨σ, ?_, h⟩
            have hr := runesF_spec hr
            simp only [evOp, ← hx]
            cases hgv : g ff <;> rw [hgv] at h2 h3 <;> simp only [V.av] at h2 h3 ⊢
            all_goals first
              | (cases h3; done)
              | (simp only [convert, hs, hd, hk1, hk2, h2, h3, hu, hr, valS]; done)
          · cases hv
        · cases hv
      · simp only at hv
        split at hv
        · split at hv <;> cases hv
        · cases hv
    · cases hc
  · -- a pointer to a bare one
    rename_i t hk1 hk2
    split at hc
    · rename_i tt htt
      split at hc
      · cases hc
      rename_i hsz
      simp at hc; subst hc
      intro ff fr fs σ hfr h
      have hx := hg ff fr hfr
      refine ⟨fun v fs' hv => ?_, fun a b hv => ?_⟩
      · simp only at hv
        split at hv
        · rename_i b o hxv
          rw [hxv] at hx
          split at hv
          · rename_i cs el ro hb
            rw [bc_eq, bc_eq] at hv
            split at hv
            · cases hv
            rename_i hro
            have hro : ro = false := by simpa using hro
            subst hro
            split at hv
            · rename_i hlt
              simp at hv; obtain ⟨rfl, rfl⟩ := hv
              refine ⟨σ, ?_, h⟩
              rw [← lenR_avs] at hlt
              simp only [evOp, ← hx, V.av, convert, hs, hd, hk1, hk2, valS, h.row hb, htt, hsz, hlt, if_true, Bool.false_eq_true, if_false]
            · cases hv
          · rename_i l m el ro hb
            rw [bc_eq, bc_eq] at hv
            split at hv
            · cases hv
            rename_i hro
            have hro : ro = false := by simpa using hro
            subst hro
            split at hv
            · rename_i hlt
              simp at hv; obtain ⟨rfl, rfl⟩ := hv
              refine ⟨σ, ?_, h⟩
              simp only [evOp, ← hx, V.av, convert, hs, hd, hk1, hk2, valS, h.bs hb, htt, hsz, bytesOf_length, nb_length, hlt, if_true, Bool.false_eq_true, if_false]
            · cases hv
          · cases hv
        · cases hv
      · simp only [bc_eq] at hv
        repeat' split at hv
        all_goals cases hv
    · cases hc
  · -- and back
    rename_i u hk1 hk2
    split at hc
    · rename_i tu htu
      split at hc
      · cases hc
      rename_i hsz
      simp at hc; subst hc
      intro ff fr fs σ hfr h
      have hx := hg ff fr hfr
      refine ⟨fun v fs' hv => ?_, fun a b hv => ?_⟩
      · simp only at hv
        split at hv
        · rename_i b o hxv
          rw [hxv] at hx
          rw [bc_eq] at hv
          split at hv
          · rename_i ho
            have ho : o = 0 := by simpa using ho
            subst ho
            split at hv
            · rename_i cs el ro hb
              rw [bc_eq, bc_eq, bc_eq] at hv
              split at hv
              · cases hv
              rename_i hro
              have hro : ro = false := by simpa using hro
              subst hro
              split at hv
              · rename_i heq
                split at hv
                · rename_i hlt
                  simp at hv; obtain ⟨rfl, rfl⟩ := hv
                  refine ⟨σ, ?_, h⟩
                  rw [← lenR_avs] at hlt
                  simp only [evOp, ← hx, V.av, convert, hs, hd, hk1, hk2, valS, h.row hb, htu, hsz, heq, hlt, if_true, Bool.false_eq_true, if_false, Bool.and_self]
                · cases hv
              · cases hv
            · rename_i l m el ro hb
              rw [bc_eq, bc_eq, bc_eq] at hv
              split at hv
              · cases hv
              rename_i hro
              have hro : ro = false := by simpa using hro
              subst hro
              split at hv
              · rename_i heq
                split at hv
                · rename_i hlt
                  simp at hv; obtain ⟨rfl, rfl⟩ := hv
                  refine ⟨σ, ?_, h⟩
                  simp only [evOp, ← hx, V.av, convert, hs, hd, hk1, hk2, valS, h.bs hb, htu, hsz, heq, bytesOf_length, nb_length, hlt, if_true, Bool.false_eq_true, if_false, Bool.and_self]
                · cases hv
              · cases hv
            · cases hv
          · cases hv
        · cases hv
      · simp only [bc_eq] at hv
        repeat' split at hv
        all_goals cases hv
    · cases hc
  · cases hc
end Go.Ev
