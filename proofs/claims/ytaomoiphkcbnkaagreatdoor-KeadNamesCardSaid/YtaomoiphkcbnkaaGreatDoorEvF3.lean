/- The law of this seat holds of every input: a part of the proof (an evaluator that is proved to answer as the model does, and its runs by the kernel). -/
import Derived.Test.YtaomoiphkcbnkaaGreatDoorEvF2
set_option linter.unusedVariables false
set_option linter.unusedSimpArgs false
namespace Go.Ev
variable {f f' : FS} {σ σ' : St}

-- frames
noncomputable def glI : I8 → F → V
  | .i0 => gl0 | .i1 => gl1 | .i2 => gl2 | .i3 => gl3 | .i4 => gl4 | .i5 => gl5 | .i6 => gl6 | .i7 => gl7
noncomputable def chI : I8 → F → F
  | .i0 => ch0 | .i1 => ch1 | .i2 => ch2 | .i3 => ch3 | .i4 => ch4 | .i5 => ch5 | .i6 => ch6 | .i7 => ch7
noncomputable def slI : I8 → V → F → F
  | .i0 => sl0 | .i1 => sl1 | .i2 => sl2 | .i3 => sl3 | .i4 => sl4 | .i5 => sl5 | .i6 => sl6 | .i7 => sl7
noncomputable def stI : I8 → F → F → F
  | .i0 => st0 | .i1 => st1 | .i2 => st2 | .i3 => st3 | .i4 => st4 | .i5 => st5 | .i6 => st6 | .i7 => st7
theorem selGl_eq {α : Type} (i : I8) (k : (F → V) → Option α) : selGl i k = k (glI i) := by cases i <;> rfl
theorem selCh_eq {α : Type} (i : I8) (k : (F → F) → Option α) : selCh i k = k (chI i) := by cases i <;> rfl
theorem selSl_eq {α : Type} (i : I8) (k : (V → F → F) → Option α) : selSl i k = k (slI i) := by cases i <;> rfl
theorem selSt_eq {α : Type} (i : I8) (k : (F → F) → (F → F → F) → Option α) : selSt i k = k (chI i) (stI i) := by cases i <;> rfl
theorem gl_sl_same (i : I8) (v : V) (f : F) : glI i (slI i v f) = v := by cases i <;> cases f <;> rfl
theorem gl_sl_other (i j : I8) (v : V) (f : F) (h : i ≠ j) : glI i (slI j v f) = glI i f := by
  cases i <;> cases j <;> first | exact absurd rfl h | (cases f <;> rfl)
theorem ch_st_same (i : I8) (x f : F) : chI i (stI i x f) = x := by cases i <;> cases f <;> rfl
theorem ch_st_other (i j : I8) (x f : F) (h : i ≠ j) : chI i (stI j x f) = chI i f := by
  cases i <;> cases j <;> first | exact absurd rfl h | (cases f <;> rfl)
noncomputable def getF : List I8 → F → V
  | [], _ => U
  | [i], f => glI i f
  | i :: j :: p, f => getF (j :: p) (chI i f)
noncomputable def setF : List I8 → V → F → F
  | [], _, f => f
  | [i], v, f => slI i v f
  | i :: j :: p, v, f => stI i (setF (j :: p) v (chI i f)) f
theorem getC_eq : ∀ p g, getC p = some g → g = getF p
  | [], g, h => by simp [getC] at h
  | [i], g, h => by
    simp only [getC, selGl_eq] at h
    simp at h; subst h; rfl
  | i :: j :: p, g, h => by
    simp only [getC] at h
    split at h
    · rename_i g' h'
      rw [selCh_eq] at h
      simp at h; subst h
      have := getC_eq (j :: p) g' h'
      subst this; rfl
    · cases h
theorem setC_eq : ∀ p s, setC p = some s → s = setF p
  | [], s, h => by simp [setC] at h
  | [i], s, h => by
    simp only [setC, selSl_eq] at h
    simp at h; subst h; rfl
  | i :: j :: p, s, h => by
    simp only [setC] at h
    split at h
    · rename_i g' h'
      rw [selSt_eq] at h
      simp at h; subst h
      have := setC_eq (j :: p) g' h'
      subst this; rfl
    · cases h
theorem setC_some : ∀ p, p ≠ [] → ∃ s, setC p = some s
  | [], h => absurd rfl h
  | [i], _ => ⟨_, by simp only [setC, selSl_eq]; rfl⟩
  | i :: j :: p, _ => by
    obtain ⟨s, hs⟩ := setC_some (j :: p) (by simp)
    exact ⟨_, by simp only [setC, hs, selSt_eq]; rfl⟩
theorem get_setF_same : ∀ (p : List I8) (v : V) (f : F), p ≠ [] → getF p (setF p v f) = v
  | [], _, _, h => absurd rfl h
  | [i], v, f, _ => gl_sl_same i v f
  | i :: j :: p, v, f, _ => by
    simp only [getF, setF, ch_st_same]
    exact get_setF_same (j :: p) v _ (by simp)
theorem get_setF_other : ∀ (p q : List I8) (v : V) (f : F), p.length = q.length → p ≠ q → getF p (setF q v f) = getF p f
  | [], [], _, _, _, h => absurd rfl h
  | [i], [j], v, f, _, h => gl_sl_other i j v f (by simpa using h)
  | i :: j :: p, i' :: j' :: q, v, f, hl, h => by
    simp only [getF, setF]
    by_cases hi : i = i'
    · subst hi
      rw [ch_st_same]
      exact get_setF_other (j :: p) (j' :: q) v _ (by simpa using hl) (fun e => h (by rw [e]))
    · rw [ch_st_other i i' _ f hi]
  | [], _ :: _, _, _, hl, _ => by simp at hl
  | [_], _ :: _ :: _, _, _, hl, _ => by simp at hl
  | _ :: _ :: _, [_], _, _, hl, _ => by simp at hl
  | _ :: _, [], _, _, hl, _ => by simp at hl
def I8.no : I8 → Nat
  | .i0 => 0 | .i1 => 1 | .i2 => 2 | .i3 => 3 | .i4 => 4 | .i5 => 5 | .i6 => 6 | .i7 => 7
theorem i8_no : ∀ a, a < 8 → (i8 a).no = a := by decide
theorem i8_inj (a b : Nat) (ha : a < 8) (hb : b < 8) (h : i8 a = i8 b) : a = b := by rw [← i8_no a ha, h, i8_no b hb]
theorem path_length : ∀ d t, (path d t).length = d
  | 0, _ => rfl
  | d + 1, t => by simp [path, path_length d]
theorem path_inj : ∀ d t t', t < 8 ^ d → t' < 8 ^ d → path d t = path d t' → t = t'
  | 0, t, t', h, h', _ => by simp at h h'; omega
  | d + 1, t, t', h, h', e => by
    simp only [path, List.cons.injEq] at e
    have e1 := i8_inj _ _ (by omega) (by omega) e.1
    rw [Nat.pow_succ] at h h'
    have e2 := path_inj d (t / 8) (t' / 8) (by omega) (by omega) e.2
    omega

structure FIOK (i : FI) : Prop where
  pos : 0 < i.d
  le : i.n ≤ 8 ^ i.d
structure FfR (i : FI) (ff : F) (fr : Fr) : Prop where
  n : fr.n = i.n
  g : fr.g = i.g
  get : ∀ t, t < i.n → (getF (path i.d t) ff).av = fr.get t
theorem Fr_get_set (fr : Fr) (d : Nat) (v : AV) (t : Nat) : Fr.get { t := fr.t.set d v, n := fr.n, g := fr.g } t = if t = d then v else fr.get t := by
  unfold Fr.get
  rw [T.get_set]
  by_cases h : t = d <;> simp [h]
theorem FfR.set {i : FI} {ff : F} {fr : Fr} (hi : FIOK i) (h : FfR i ff fr) {d : Nat} (hd : d < i.n) {s : V → F → F} (hs : setC (path i.d d) = some s) (v : V) : FfR i (s v ff) { t := fr.t.set d v.av, n := fr.n, g := fr.g } := by
  have := setC_eq _ _ hs
  subst this
  have hne : path i.d d ≠ [] := fun e => by have := congrArg List.length e; rw [path_length] at this; have := hi.pos; simp at *; omega
  refine ⟨h.n, h.g, fun t ht => ?_⟩
  rw [Fr_get_set]
  by_cases e : t = d
  · subst e
    rw [if_pos rfl, get_setF_same _ _ _ hne]
  · rw [if_neg e, get_setF_other _ _ _ _ (by rw [path_length, path_length]) (fun hh => e (path_inj _ _ _ (Nat.lt_of_lt_of_le ht hi.le) (Nat.lt_of_lt_of_le hd hi.le) hh)), h.get t ht]
theorem FfR.put {i : FI} {ff : F} {fr : Fr} (hi : FIOK i) (h : FfR i ff fr) {dst : Option Nat} {s : V → F → F} (hs : cDst i dst = some s) (v : V) : ∃ fr', fr.put dst v.av = some fr' ∧ FfR i (s v ff) fr' := by
  cases dst with
  | none => simp [cDst] at hs; subst hs; exact ⟨fr, rfl, h⟩
  | some d =>
    simp only [cDst] at hs
    split at hs
    · rename_i hd
      refine ⟨_, ?_, h.set hi hd hs v⟩
      show (if Nat.blt d fr.n = true then _ else _) = _
      rw [if_pos (by simpa [h.n] using hd)]
    · cases hs
theorem cO_spec {i : FI} {ff : F} {fr : Fr} {x : Operand} {g : F → V} (hx : cO i x = some g) (h : FfR i ff fr) : (g ff).av = fr.val x := by
  cases x with
  | tmp t =>
    simp only [cO] at hx
    split at hx
    · rename_i ht
      rw [getC_eq _ _ hx]; exact h.get t ht
    · cases hx
  | const v => simp only [cO] at hx; simp at hx; subst hx; simp [Fr.val, enc_av]
  | global g =>
    simp only [cO, Fr.val] at hx ⊢
    rw [h.g]
    split at hx
    · rename_i hg; simp at hx; subst hx; rw [if_pos (by simpa using hg)]; rfl
    · rename_i hg; simp at hx; subst hx; rw [if_neg (by simpa using hg)]; rfl
  | func f => simp only [cO] at hx; simp at hx; subst hx; simp [Fr.val, V.av, V.avs]
theorem cOs_spec {i : FI} {ff : F} {fr : Fr} (h : FfR i ff fr) : ∀ (l : List Operand) (gs : List (F → V)), cOs i l = some gs → V.avs (mapV gs ff) = l.map fr.val ∧ gs.map (fun g => (g ff).av) = l.map fr.val
  | [], gs, hg => by simp [cOs] at hg; subst hg; exact ⟨rfl, rfl⟩
  | x :: l, gs, hg => by
    simp only [cOs] at hg
    split at hg
    · rename_i g gs' h1 h2
      simp at hg; subst hg
      obtain ⟨a, b⟩ := cOs_spec h l gs' h2
      refine ⟨?_, by rw [List.map_cons, List.map_cons, cO_spec h1 h, b]⟩
      show V.avs (g ff :: mapV gs' ff) = _
      rw [V.avs, a, cO_spec h1 h]; rfl
    · cases hg

-- whole numbers
theorem wrapS {k : IntKind} {n : Int} (h : k.signed = true) (h1 : -(2 ^ (k.bits - 1) : Int) ≤ n) (h2 : n < (2 ^ (k.bits - 1) : Int)) : k.wrap n = n := by
  cases k <;> simp_all [IntKind.wrap, IntKind.bits, IntKind.signed] <;> split <;> omega
theorem wrapU {k : IntKind} (n : Nat) (h : k.signed = false) : k.wrap (n : Int) = ((n % kM k : Nat) : Int) := by
  cases k <;> simp_all [IntKind.wrap, IntKind.bits, IntKind.signed, kM]
theorem pow_cast (n : Nat) : ((2 ^ n : Nat) : Int) = (2 : Int) ^ n := by push_cast; rfl
theorem finW_spec {k : IntKind} {r : Nat} {v : V} (h : finW k r = some v) : v.av = .int k (k.wrap (r : Int)) := by
  unfold finW at h
  cases hs : k.signed with
  | true =>
    rw [hs] at h
    simp only [bc_eq] at h
    split at h
    · rename_i hr
      simp at h; subst h
      have hr : r < 2 ^ (k.bits - 1) := by simpa [kH] using hr
      have hr' : (r : Int) < 2 ^ (k.bits - 1) := by rw [← pow_cast]; exact_mod_cast hr
      have hp : (0 : Int) < 2 ^ (k.bits - 1) := Int.pow_pos (by decide)
      rw [wrapS hs (by omega) hr']
      simp [V.av, kOf_kNo]
    · cases h
  | false =>
    rw [hs] at h
    simp at h; subst h
    rw [wrapU r hs]
    simp [V.av, kOf_kNo, n_mod]
theorem finN_spec {k : IntKind} {r : Nat} {v : V} (h : finN k r = some v) : v.av = .int k (k.wrap (Int.negSucc r)) := by
  unfold finN at h
  cases hs : k.signed with
  | true =>
    rw [hs] at h
    simp only [bc_eq] at h
    split at h
    · rename_i hr
      simp at h; subst h
      have hr : r < 2 ^ (k.bits - 1) := by simpa [kH] using hr
      have hr' : (r : Int) < 2 ^ (k.bits - 1) := by rw [← pow_cast]; exact_mod_cast hr
      rw [wrapS hs (by omega) (by omega)]
      simp [V.av, kOf_kNo]
    · cases h
  | false => rw [hs] at h; cases h
theorem onWW_spec {k : IntKind} {x y v : V} {f : Nat → Nat → Option V} {g : Option V} (h : onWW k x y f g = some v) :
    (∃ a b : Nat, x.av = .int k a ∧ y.av = .int k b ∧ f a b = some v) ∨ g = some v := by
  unfold onWW at h
  cases x with
  | w k1 a =>
    cases y with
    | w k2 b =>
      simp only [bc_eq] at h
      split at h
      · rename_i h1
        split at h
        · rename_i h2
          exact .inl ⟨a, b, by simp [V.av, kOf_eq h1], by simp [V.av, kOf_eq h2], h⟩
        · cases h
      · cases h
    | _ => exact .inr h
  | _ => exact .inr h
theorem slowBin_spec {op : BinOp} {x y v : V} (h : slowBin op x y = some v) : binop op x.av y.av = some v.av := by
  unfold slowBin at h
  split at h
  · rename_i r hr
    simp at h; subst h
    rw [hr, enc_av]
  · cases h
theorem modc (a : Nat) (k : IntKind) : (((a : Int) % (2 ^ k.bits : Int)).toNat) = a % kM k := by
  rw [← pow_cast, ← Int.natCast_emod]; rfl
theorem intBin_spec {k : IntKind} {op : BinOp} {h : V → V → Option V} (hh : intBin k op = some h) {x y v : V} (hv : h x y = some v) : binop op x.av y.av = some v.av := by
  cases op <;> simp only [intBin] at hh <;> (first | (cases hh; done) | skip)
  all_goals first | (simp only [Option.some.injEq] at hh; subst hh) | cases hh
  -- those of two numbers of one kind
  case add =>
    rcases onWW_spec hv with ⟨a, b, hx, hy, hf⟩ | hf
    · rw [hx, hy, finW_spec hf]; simp [binop, n_add]
    · exact slowBin_spec hf
  case sub =>
    rcases onWW_spec hv with ⟨a, b, hx, hy, hf⟩ | hf
    · rw [hx, hy]
      simp only [bc_eq] at hf
      split at hf
      · rename_i hle
        have hle : b ≤ a := by simpa using hle
        rw [finW_spec hf]; simp only [binop, if_true, n_sub]
        congr 3; omega
      · rename_i hle
        have hle : a < b := by simpa using hle
        split at hf
        · rw [finN_spec hf]; simp only [binop, if_true, n_sub]
          congr 3
          have : Nat.pred (b - a) = b - a - 1 := rfl
          rw [this]; omega
        · rename_i hs
          have hs : k.signed = false := by simpa using hs
          split at hf
          · rename_i hb
            have hb : b ≤ kM k := by simpa using hb
            rw [finW_spec hf]; simp only [binop, if_true, n_sub, n_add]
            congr 2
            unfold IntKind.wrap
            simp only [hs, Bool.false_and]
            have e : (((a + kM k - b : Nat) : Int)) = (a : Int) - b + (2 ^ k.bits : Int) := by
              rw [← pow_cast]; show _ = (a : Int) - b + ((kM k : Nat) : Int); omega
            rw [e, Int.add_emod_right]
          · cases hf
    · exact slowBin_spec hf
  case mul =>
    rcases onWW_spec hv with ⟨a, b, hx, hy, hf⟩ | hf
    · rw [hx, hy, finW_spec hf]; simp [binop, n_mul]
    · exact slowBin_spec hf
  case quo =>
    rcases onWW_spec hv with ⟨a, b, hx, hy, hf⟩ | hf
    · rw [hx, hy]
      simp only [bc_eq] at hf
      split at hf
      · cases hf
      · rename_i hb
        have hb : b ≠ 0 := by simpa using hb
        rw [finW_spec hf]
        have hb' : (b : Int) ≠ 0 := by omega
        simp only [binop, if_true, if_neg hb', n_div]
        congr 3
    · exact slowBin_spec hf
  case rem =>
    rcases onWW_spec hv with ⟨a, b, hx, hy, hf⟩ | hf
    · rw [hx, hy]
      simp only [bc_eq] at hf
      split at hf
      · cases hf
      · rename_i hb
        have hb : b ≠ 0 := by simpa using hb
        simp at hf; subst hf
        have hb' : (b : Int) ≠ 0 := by omega
        simp only [binop, if_true, if_neg hb', n_mod, V.av, kOf_kNo]
        congr 2
    · exact slowBin_spec hf
  case and =>
    rcases onWW_spec hv with ⟨a, b, hx, hy, hf⟩ | hf
    · rw [hx, hy, finW_spec hf]; simp [binop, b1, modc, n_mod]
    · exact slowBin_spec hf
  case or =>
    rcases onWW_spec hv with ⟨a, b, hx, hy, hf⟩ | hf
    · rw [hx, hy, finW_spec hf]; simp [binop, b1, modc, n_mod]
    · exact slowBin_spec hf
  case xor =>
    rcases onWW_spec hv with ⟨a, b, hx, hy, hf⟩ | hf
    · rw [hx, hy, finW_spec hf]; simp [binop, b1, modc, n_mod]
    · exact slowBin_spec hf
  case lss =>
    rcases onWW_spec hv with ⟨a, b, hx, hy, hf⟩ | hf
    · simp only [boS, Option.some.injEq] at hf; subst hf
      rw [hx, hy]; simp only [binop, if_true, V.av]; congr 2; by_cases h : a < b <;> simp [bltD, bleD, h]
    · exact slowBin_spec hf
  case leq =>
    rcases onWW_spec hv with ⟨a, b, hx, hy, hf⟩ | hf
    · simp only [boS, Option.some.injEq] at hf; subst hf
      rw [hx, hy]; simp only [binop, if_true, V.av]; congr 2; by_cases h : a ≤ b <;> simp [bltD, bleD, h]
    · exact slowBin_spec hf
  case gtr =>
    rcases onWW_spec hv with ⟨a, b, hx, hy, hf⟩ | hf
    · simp only [boS, Option.some.injEq] at hf; subst hf
      rw [hx, hy]; simp only [binop, if_true, V.av]; congr 2; by_cases h : b < a <;> simp [bltD, bleD, h]
    · exact slowBin_spec hf
  case geq =>
    rcases onWW_spec hv with ⟨a, b, hx, hy, hf⟩ | hf
    · simp only [boS, Option.some.injEq] at hf; subst hf
      rw [hx, hy]; simp only [binop, if_true, V.av]; congr 2; by_cases h : b ≤ a <;> simp [bltD, bleD, h]
    · exact slowBin_spec hf
  case eql =>
    rcases onWW_spec hv with ⟨a, b, hx, hy, hf⟩ | hf
    · simp only [boS, Option.some.injEq] at hf; subst hf
      rw [hx, hy]; simp only [binop, if_true, V.av]; congr 2
      by_cases h : a = b
      · subst h; simp
      · have h' : ¬ ((a : Int) = b) := by omega
        simp [beqD, h, h']
    · exact slowBin_spec hf
  case neq =>
    rcases onWW_spec hv with ⟨a, b, hx, hy, hf⟩ | hf
    · simp only [boS, Option.some.injEq] at hf; subst hf
      rw [hx, hy]; simp only [binop, if_true, V.av]; congr 2
      by_cases h : a = b
      · subst h; simp
      · have h' : ¬ ((a : Int) = b) := by omega
        simp [beqD, h, h']
    · exact slowBin_spec hf
  case shl =>
    simp only at hv
    split at hv
    · split at hv
      · rename_i k1 a k2 b
        rw [bc_eq] at hv
        split at hv
        · rename_i h1
          rw [finW_spec hv]
          have hk := kOf_eq h1
          simp only [V.av, hk, binop, n_mul, n_pow]
          rw [if_neg (by omega)]
          have e : bc (Nat.ble b k.bits) b k.bits = min ((b : Int)).toNat k.bits := by
            rw [bc_eq]
            by_cases h : b ≤ k.bits
            · rw [if_pos (by simpa using h)]; simp; omega
            · rw [if_neg (by simpa using h)]; simp; omega
          rw [e]
          push_cast; rfl
        · cases hv
      · cases hv
    · cases hv
  case shr =>
    simp only at hv
    split at hv
    · split at hv
      · rename_i k1 a k2 b
        rw [bc_eq] at hv
        split at hv
        · rename_i h1
          simp at hv; subst hv
          have hk := kOf_eq h1
          simp only [V.av, hk, kOf_kNo, binop, n_div, n_pow]
          rw [if_neg (by omega)]
          have e : bc (Nat.ble b k.bits) b k.bits = min ((b : Int)).toNat k.bits := by
            rw [bc_eq]
            by_cases h : b ≤ k.bits
            · rw [if_pos (by simpa using h)]; simp; omega
            · rw [if_neg (by simpa using h)]; simp; omega
          rw [e, Int.fdiv_eq_ediv_of_nonneg _ (Int.le_of_lt (Int.pow_pos (by decide)))]
          push_cast; rfl
        · cases hv
      · cases hv
    · exact slowBin_spec hv
theorem onSS_spec {x y v : V} {f : Nat → Nat → Nat → Nat → Option V} (h : onSS x y f = some v) : ∃ l n l' n', x = .st l n ∧ y = .st l' n' ∧ f l n l' n' = some v := by
  unfold onSS at h
  split at h
  · split at h
    · exact ⟨_, _, _, _, rfl, rfl, h⟩
    · cases h
  · cases h
theorem lessS_gt : ∀ a b : List UInt8, (!(lessS a b || eqS a b)) = lessS b a
  | [], [] => rfl
  | [], _ :: _ => rfl
  | _ :: _, [] => rfl
  | a :: x, b :: y => by
    have ih := lessS_gt x y
    simp only [lessS, eqS]
    rcases Nat.lt_trichotomy a.toNat b.toNat with h | h | h
    · have h1 : Nat.blt a.toNat b.toNat = true := by simpa using h
      have h2 : Nat.blt b.toNat a.toNat = false := by cases e : Nat.blt b.toNat a.toNat <;> simp_all; omega
      have h3 : Nat.beq b.toNat a.toNat = false := by
        cases e : Nat.beq b.toNat a.toNat
        · rfl
        · have := Nat.eq_of_beq_eq_true e; omega
      simp [h1, h2, h3]
    · rw [h]
      have h1 : Nat.blt b.toNat b.toNat = false := by cases e : Nat.blt b.toNat b.toNat <;> simp_all
      have h2 : Nat.beq b.toNat b.toNat = true := Nat.beq_refl _
      simp [h1, h2]
      simpa using ih
    · have h1 : Nat.blt b.toNat a.toNat = true := by simpa using h
      have h2 : Nat.blt a.toNat b.toNat = false := by cases e : Nat.blt a.toNat b.toNat <;> simp_all; omega
      have h3 : Nat.beq a.toNat b.toNat = false := by
        cases e : Nat.beq a.toNat b.toNat
        · rfl
        · have := Nat.eq_of_beq_eq_true e; omega
      simp [h1, h2, h3]
theorem strBin_spec {op : BinOp} {h : V → V → Option V} (hh : strBin op = some h) {x y v : V} (hv : h x y = some v) : binop op x.av y.av = some v.av := by
  cases op <;> simp only [strBin] at hh <;> (first | (cases hh; done) | skip)
  all_goals first | (simp only [Option.some.injEq] at hh; subst hh) | cases hh
  all_goals obtain ⟨l, n, l', n', rfl, rfl, hf⟩ := onSS_spec hv
  case add =>
    simp only [bc_eq] at hf
    split at hf
    · rename_i hl
      simp only [Option.some.injEq] at hf; subst hf
      simp only [n_add] at hl
      simp only [V.av, binop, nb_length, n_add, n_mod, n_mul, n_pow]
      rw [if_pos hl, nb_add]
    · cases hf
  case eql => simp only [boS, Option.some.injEq] at hf; subst hf; simp only [V.av, binop, eqSF_spec]
  case neq => simp only [boS, Option.some.injEq] at hf; subst hf; simp only [V.av, binop, eqSF_spec]
  case lss => simp only [boS, Option.some.injEq] at hf; subst hf; simp only [V.av, binop, lessR_spec _ _ _ _ _ (Nat.le_refl _)]
  case geq => simp only [boS, Option.some.injEq] at hf; subst hf; simp only [V.av, binop, lessR_spec _ _ _ _ _ (Nat.le_refl _)]
  case gtr => simp only [boS, Option.some.injEq] at hf; subst hf; simp only [V.av, binop, lessR_spec _ _ _ _ _ (Nat.le_refl _), lessS_gt]
  case leq =>
    simp only [boS, Option.some.injEq] at hf; subst hf
    simp only [V.av, binop, lessR_spec _ _ _ _ _ (Nat.le_refl _)]
    have := lessS_gt (nb l n) (nb l' n')
    rw [← this]; simp
end Go.Ev
