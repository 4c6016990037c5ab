/- The law of this seat holds of every input: a part of the proof (an evaluator that is proved to answer as the model does, and its runs by the kernel). -/
import Derived.Test.YtaomoiphkcbnkaaGreatDoorEvDr13
import Derived.Laws.StructEq
set_option linter.unusedVariables false
set_option linter.unusedSimpArgs false
namespace Go.Ev
variable {P : Program}

/-- every entry of a tree -/
def T.allI {α : Type} (p : Nat → α → Bool) : T α → Nat → Nat → Bool
  | .e, _, _ => true
  | .n v l r, m, a => (match v with | some x => p a x | none => true) && (T.allI p l (2 * m) (m + a) && T.allI p r (2 * m) (2 * m + a))
theorem T.allI_spec {α : Type} {p : Nat → α → Bool} : ∀ {t : T α} {m a : Nat}, t.allI p m a = true → ∀ (k : Nat) (x : α), t.get k = some x → p (m * k + a) x = true := by
  intro t
  induction t with
  | e => intro m a _ k x h; cases k <;> simp [T.get] at h
  | n v l r ihl ihr =>
    intro m a h k x hk
    simp only [T.allI, Bool.and_eq_true] at h
    cases k with
    | zero =>
      simp only [T.get] at hk
      subst hk
      simpa using h.1
    | succ k =>
      have hm : k % 2 = 0 ∨ k % 2 = 1 := by omega
      rcases hm with hm | hm
      · simp only [T.get, hm] at hk
        have := ihl h.2.1 (k / 2) x hk
        have e : 2 * m * (k / 2) + (m + a) = m * (k + 1) + a := by
          obtain ⟨q, rfl⟩ : ∃ q, k = 2 * q := ⟨k / 2, by omega⟩
          rw [show 2 * q / 2 = q by omega]
          simp only [Nat.mul_add, Nat.mul_one, Nat.mul_comm 2 m, Nat.mul_assoc]
          omega
        rwa [e] at this
      · simp only [T.get, hm] at hk
        have := ihr h.2.2 (k / 2) x hk
        have e : 2 * m * (k / 2) + (2 * m + a) = m * (k + 1) + a := by
          obtain ⟨q, rfl⟩ : ∃ q, k = 2 * q + 1 := ⟨k / 2, by omega⟩
          rw [show (2 * q + 1) / 2 = q by omega]
          have : m * (2 * q + 1 + 1) = 2 * m * q + 2 * m := by
            rw [show 2 * q + 1 + 1 = 2 * (q + 1) by omega, ← Nat.mul_assoc, Nat.mul_comm m 2, Nat.mul_add, Nat.mul_one]
          omega
        rwa [e] at this
theorem T.all_spec {α : Type} {p : Nat → α → Bool} {t : T α} (h : t.allI p 1 0 = true) {k : Nat} {x : α} (hk : t.get k = some x) : p k x = true := by
  have := T.allI_spec h k x hk
  simpa using this

-- types
def z1 : AV → Value → Bool
  | .unk, _ => true
  | .int k n, .int k' n' => decide (k = k') && decide (n = n')
  | .bool a, .bool b => a == b
  | .str s, .string t => decide (s = t.data.toList)
  | .nilp, .pointer none => true
  | .nils, .slice none 0 0 => true
  | .nilf, .nilFunc => true
  | .nili, .nilIface => true
  | _, _ => false
def zL : List AV → List Value → Bool
  | [], [] => true
  | a :: l, v :: m => z1 a v && zL l m
  | _, _ => false
theorem z1_spec {a : AV} {v : Value} (h : z1 a v = true) (ρ : Rho) : VR ρ a v := by
  unfold z1 at h
  split at h
  · exact .unk _
  · simp only [Bool.and_eq_true, decide_eq_true_eq] at h
    obtain ⟨rfl, rfl⟩ := h; exact .int _ _
  · simp at h; subst h; exact .bool _
  · simp only [decide_eq_true_eq] at h
    subst h; exact .str _
  · exact .nilp
  · exact .nils
  · exact .nilf
  · exact .nili
  · cases h
theorem zL_spec : ∀ {l : List AV} {m : List Value}, zL l m = true → ∀ ρ, VRL ρ l m
  | [], [], _, _ => .nil
  | a :: l, v :: m, h, ρ => by
    simp only [zL, Bool.and_eq_true] at h
    exact .cons (z1_spec h.1 ρ) (zL_spec h.2 ρ)
  | [], _ :: _, h, _ => by simp [zL] at h
  | _ :: _, [], h, _ => by simp [zL] at h
def kB : TK → TypeDesc → Bool
  | .bool, .bool => true
  | .int k, .int k' => decide (k = k')
  | .string, .string => true
  | .ptr e, .pointer e' => decide (e = e')
  | .slice e, .slice e' => decide (e = e')
  | .struct fs, .struct fields => decide (fs = fields.toList.map (fun f => (f.offset, f.type)))
  | .arr n e, .array n' e' => decide (n = n') && decide (e = e')
  | .iface, .interface _ => true
  | .func, .func .. => true
  | .uptr, .unsafePointer => true
  | .other, .struct _ => false
  | .other, .array .. => false
  | .other, .interface _ => false
  | .other, _ => true
  | _, _ => false
theorem kB_spec {k : TK} {d : TypeDesc} (h : kB k d = true) : KOK k d := by
  cases k <;> cases d <;> simp_all [kB, KOK]
def tyB (P : Program) (t : Nat) (ti : TyI) : Bool :=
  (match P.info? t with
    | some i => decide (i.size = ti.size) && (decide (i.bytes = ti.bytes) && (match i.zero with | some z => zL ti.zero z.cells.toList | none => false))
    | none => false) &&
  ((match P.underlying t with
    | some d => kB ti.k d && (match d with | .struct fields => fields.toList.all fun f => (P.info? f.type).isSome | _ => true)
    | none => false) && decide (ti.zero.length = ti.size))
theorem mapM_all {α β : Type} {g : α → Option β} : ∀ l : List α, (l.all fun a => (g a).isSome) = true → ∃ r, l.mapM g = some r
  | [], _ => ⟨[], by simp⟩
  | a :: l, h => by
    simp only [List.all_cons, Bool.and_eq_true] at h
    obtain ⟨r, hr⟩ := mapM_all l h.2
    obtain ⟨b, hb⟩ := Option.isSome_iff_exists.1 h.1
    exact ⟨b :: r, by simp [List.mapM_cons, hb, hr]⟩
theorem tyB_spec {t : Nat} {ti : TyI} (h : tyB P t ti = true) : TyOK P t ti := by
  simp only [tyB, Bool.and_eq_true] at h
  obtain ⟨h1, h2, h3⟩ := h
  split at h1
  rotate_left
  · cases h1
  rename_i i hi
  simp only [Bool.and_eq_true, decide_eq_true_eq] at h1
  obtain ⟨a1, a2, a3⟩ := h1
  split at a3
  rotate_left
  · cases a3
  rename_i z hz
  split at h2
  rotate_left
  · cases h2
  rename_i d hd
  simp only [Bool.and_eq_true] at h2
  refine ⟨⟨i, hi, a1, a2, z, hz, fun ρ => zL_spec a3 ρ⟩, ⟨d, hd, kB_spec h2.1⟩, by simpa using h3, fun fields hf => ?_⟩
  rw [hd] at hf
  simp at hf; subst hf
  have := h2.2
  simp only at this
  exact mapM_all _ (by simpa using this)

-- flat structs, held against each other
def flatFs (ty : Nat → Option TyI) (chk : Nat → List AV → Bool) : List Field → Nat → List AV → Bool
  | [], _, zs => zs.isEmpty
  | f :: fs, o, zs => f.name != "_" && (Nat.beq f.offset o && (match ty f.type with
    | some tf => Nat.ble tf.size zs.length && (chk f.type (zs.take tf.size) && flatFs ty chk fs (o + tf.size) (zs.drop tf.size))
    | none => false))
def flatT (P : Program) (ty : Nat → Option TyI) : Nat → Nat → List AV → Bool
  | 0, _, _ => false
  | d + 1, t, zs => match ty t, P.underlying t with
    | some ti, some .bool => !isAggK ti.k && (match zs with | [.bool _] => true | _ => false)
    | some ti, some (.int k) => !isAggK ti.k && (match zs with | [.int k' _] => decide (k = k') | _ => false)
    | some ti, some .string => !isAggK ti.k && (match zs with | [.str _] => true | _ => false)
    | some ti, some (.struct fs) => isAggK ti.k && (!P.stoodInHeld t && (Nat.beq zs.length ti.size && flatFs ty (flatT P ty d) fs.toList 0 zs))
    | _, _ => false
def packV (k : TK) (xs : List Value) : Value := if isAggK k then .agg xs.toArray else xs.getD 0 undef
theorem eqL_split : ∀ {a1 b1 a2 b2 : List AV} {b : Bool}, a1.length = b1.length → eqL (a1 ++ a2) (b1 ++ b2) = some b → ∃ x y, eqL a1 b1 = some x ∧ eqL a2 b2 = some y ∧ b = (x && y)
  | [], [], a2, b2, b, _, h => ⟨true, b, rfl, by simpa using h, by simp⟩
  | u :: a1, v :: b1, a2, b2, b, hl, h => by
    simp only [List.cons_append, eqL] at h
    split at h
    · rename_i hu
      obtain ⟨x, y, h1, h2, h3⟩ := eqL_split (by simpa using hl) h
      exact ⟨x, y, by simp only [eqL, hu, h1], h2, h3⟩
    · rename_i hu
      split at h
      · rename_i b' hb'
        simp at h; subst h
        obtain ⟨x, y, h1, h2, h3⟩ := eqL_split (by simpa using hl) hb'
        exact ⟨false, y, by simp only [eqL, hu, h1], h2, by simp⟩
      · cases h
    · cases h
  | [], _ :: _, _, _, _, hl, _ => by simp at hl
  | _ :: _, [], _, _, _, hl, _ => by simp at hl
theorem allK_length : ∀ {z a : List AV}, allK z a = true → z.length = a.length
  | [], [], _ => rfl
  | _ :: z, _ :: a, h => by simp only [allK, Bool.and_eq_true] at h; simp [allK_length h.2]
  | [], _ :: _, h => by simp [allK] at h
  | _ :: _, [], h => by simp [allK] at h
theorem allK_take : ∀ {z a : List AV} (n : Nat), allK z a = true → allK (z.take n) (a.take n) = true
  | z, a, 0, _ => by simp [allK]
  | [], [], n + 1, _ => by simp [allK]
  | _ :: z, _ :: a, n + 1, h => by simp only [allK, Bool.and_eq_true] at h; simp [allK, h.1, allK_take n h.2]
  | [], _ :: _, n + 1, h => by simp [allK] at h
  | _ :: _, [], n + 1, h => by simp [allK] at h
theorem allK_drop : ∀ {z a : List AV} (n : Nat), allK z a = true → allK (z.drop n) (a.drop n) = true
  | z, a, 0, h => by simpa using h
  | [], [], n + 1, _ => by simp [allK]
  | _ :: z, _ :: a, n + 1, h => by simp only [allK, Bool.and_eq_true] at h; simpa using allK_drop n h.2
  | [], _ :: _, n + 1, h => by simp [allK] at h
  | _ :: _, [], n + 1, h => by simp [allK] at h
theorem flat_eq {ty : Nat → Option TyI} (hT : ∀ t ti, ty t = some ti → TyOK P t ti) : ∀ (d t : Nat) (zs : List AV), flatT P ty d t zs = true → ∀ ti, ty t = some ti →
    ∀ (ρ : Rho) (as bs : List AV) (xs ys : List Value) (w : World) (b : Bool) (m : Nat), VRL ρ as xs → VRL ρ bs ys → allK zs as = true → allK zs bs = true → eqL as bs = some b →
      (Op.equalIn (m + d) t (packV ti.k xs) (packV ti.k ys)).run P w = .ok b w
  | 0, t, zs, h, _, _ => by simp [flatT] at h
  | d + 1, t, zs, h, ti, hti => by
    intro ρ as bs xs ys w b m hxs hys ka kb he
    simp only [flatT, hti] at h
    split at h
    · rename_i e1 e2 hu
      simp at e2; subst e2
      simp only [Bool.and_eq_true, Bool.not_eq_true'] at h
      obtain ⟨hk, h⟩ := h
      split at h
      · rename_i z
        match as, bs, ka, kb with
        | [a], [c], ka, kb =>
          cases hxs
          rename_i h1 hl
          cases hl
          cases hys
          rename_i h2 hl2
          cases hl2
          cases a <;> simp [allK, sameK] at ka
          cases c <;> simp [allK, sameK] at kb
          rename_i p q
          rw [h1.inv_bool, h2.inv_bool]
          simp [eqL, eq1] at he
          simp only [packV, hk, Bool.false_eq_true, if_false, List.getD_cons_zero]
          rw [show m + (d + 1) = (m + d) + 1 from rfl, run_equalIn_bool w (m + d) t p q hu]
          cases p <;> cases q <;> simp_all
        | [], _, ka, _ => simp [allK] at ka
        | _ :: _ :: _, _, ka, _ => simp [allK] at ka
        | [_], [], _, kb => simp [allK] at kb
        | [_], _ :: _ :: _, _, kb => simp [allK] at kb
      · cases h
    · rename_i e1 k e2 hu
      simp at e2; subst e2
      simp only [Bool.and_eq_true, Bool.not_eq_true'] at h
      obtain ⟨hk, h⟩ := h
      split at h
      · rename_i k' z
        simp only [decide_eq_true_eq] at h
        subst h
        match as, bs, ka, kb with
        | [a], [c], ka, kb =>
          cases hxs
          rename_i h1 hl
          cases hl
          cases hys
          rename_i h2 hl2
          cases hl2
          cases a <;> simp [allK, sameK] at ka
          cases c <;> simp [allK, sameK] at kb
          subst ka; subst kb
          rename_i p q
          rw [h1.inv_int, h2.inv_int]
          simp [eqL, eq1] at he
          simp only [packV, hk, Bool.false_eq_true, if_false, List.getD_cons_zero]
          rw [show m + (d + 1) = (m + d) + 1 from rfl, run_equalIn_int w (m + d) t k k p q hu]
          by_cases hpq : p = q <;> simp_all
        | [], _, ka, _ => simp [allK] at ka
        | _ :: _ :: _, _, ka, _ => simp [allK] at ka
        | [_], [], _, kb => simp [allK] at kb
        | [_], _ :: _ :: _, _, kb => simp [allK] at kb
      · cases h
    · rename_i e1 e2 hu
      simp at e2; subst e2
      simp only [Bool.and_eq_true, Bool.not_eq_true'] at h
      obtain ⟨hk, h⟩ := h
      split at h
      · rename_i z
        match as, bs, ka, kb with
        | [a], [c], ka, kb =>
          cases hxs
          rename_i h1 hl
          cases hl
          cases hys
          rename_i h2 hl2
          cases hl2
          cases a <;> simp [allK, sameK] at ka
          cases c <;> simp [allK, sameK] at kb
          rename_i p q
          obtain ⟨sp, rfl, hp⟩ := h1.inv_str
          obtain ⟨sq, rfl, hq⟩ := h2.inv_str
          simp only [packV, hk, Bool.false_eq_true, if_false, List.getD_cons_zero]
          rw [show m + (d + 1) = (m + d) + 1 from rfl, run_equalIn_string w (m + d) t sp sq hu]
          simp [eqL, eq1] at he
          have hs : ∀ a b : List UInt8, eqS a b = (a == b) := by
            intro a
            induction a with
            | nil => intro b; cases b <;> simp [eqS]
            | cons x a ih =>
              intro b
              cases b with
              | nil => simp [eqS]
              | cons y b =>
                simp only [eqS, ih b]
                have : Nat.beq x.toNat y.toNat = (x == y) := by
                  by_cases hxy : x = y
                  · subst hxy; simp
                  · have : ¬ x.toNat = y.toNat := fun e => hxy (UInt8.toNat_inj.1 e)
                    have h1 : (x == y) = false := by simpa using hxy
                    rw [h1]
                    cases hb : Nat.beq x.toNat y.toNat
                    · rfl
                    · exact absurd (Nat.eq_of_beq_eq_true hb) this
                rw [this]; rfl
          rw [bytes_toList, bytes_toList, hp, hq, ← hs]
          cases hpq : eqS p q <;> rw [hpq] at he <;> simp at he <;> subst he <;> rfl
        | [], _, ka, _ => simp [allK] at ka
        | _ :: _ :: _, _, ka, _ => simp [allK] at ka
        | [_], [], _, kb => simp [allK] at kb
        | [_], _ :: _ :: _, _, kb => simp [allK] at kb
      · cases h
    · rename_i e1 fs e2 hu
      simp at e2; subst e2
      simp only [Bool.and_eq_true, Bool.not_eq_true'] at h
      obtain ⟨hk, hst, hlen, hfs⟩ := h
      have hf : P.fieldsOf t = fs := by simp [Program.fieldsOf, hu]
      simp only [packV, hk, if_true]
      rw [show m + (d + 1) = (m + d) + 1 from rfl, run_equalIn_struct w (m + d) t xs.toArray ys.toArray (by rw [hf]; exact hu) hst, hf]
      -- field by field
      have walk : ∀ (l : List Field) (o : Nat) (zs as bs : List AV) (b : Bool), flatFs ty (flatT P ty d) l o zs = true → VRL ρ as (xs.drop o) → VRL ρ bs (ys.drop o) → allK zs as = true → allK zs bs = true → eqL as bs = some b →
          (Op.eqFields (m + d) xs.toArray ys.toArray l).run P w = .ok b w := by
        intro l
        induction l with
        | nil =>
          intro o zs as bs b hl _ _ ka kb he
          simp only [flatFs, List.isEmpty_iff] at hl
          subst hl
          have e1 : as = [] := List.length_eq_zero_iff.1 (by rw [← allK_length ka]; rfl)
          have e2 : bs = [] := List.length_eq_zero_iff.1 (by rw [← allK_length kb]; rfl)
          subst e1; subst e2
          simp [eqL] at he; subst he
          simp [Op.eqFields]
        | cons f l ih =>
          intro o zs as bs b hl hxs hys ka kb he
          simp only [flatFs, Bool.and_eq_true] at hl
          obtain ⟨hn, ho, hl⟩ := hl
          have ho := Nat.eq_of_beq_eq_true ho
          split at hl
          rotate_left
          · cases hl
          rename_i tf htf
          simp only [Bool.and_eq_true] at hl
          obtain ⟨hsz, hchk, hrest⟩ := hl
          have hsz : tf.size ≤ zs.length := Nat.le_of_ble_eq_true hsz
          have la := allK_length ka
          have lb := allK_length kb
          have ea : as = as.take tf.size ++ as.drop tf.size := (List.take_append_drop ..).symm
          have eb : bs = bs.take tf.size ++ bs.drop tf.size := (List.take_append_drop ..).symm
          rw [ea, eb] at he
          obtain ⟨p, q, he1, he2, rfl⟩ := eqL_split (by simp; omega) he
          have ih2 := ih (o + tf.size) (zs.drop tf.size) (as.drop tf.size) (bs.drop tf.size) q hrest (by rw [← List.drop_drop]; exact hxs.drop _) (by rw [← List.drop_drop]; exact hys.drop _) (allK_drop _ ka) (allK_drop _ kb) he2
          have hne : f.name ≠ "_" := by simpa using hn
          have htok := hT _ _ htf
          have heq := flat_eq hT d f.type (zs.take tf.size) hchk tf htf ρ (as.take tf.size) (bs.take tf.size) ((xs.drop o).take tf.size) ((ys.drop o).take tf.size) w p m (hxs.take _) (hys.take _) (allK_take _ ka) (allK_take _ kb) he1
          have hpart : ∀ (vs : List Value) (us : List AV), VRL ρ us (vs.drop o) → zs.length = us.length → (part f.type vs.toArray f.offset).run P w = .ok (packV tf.k ((vs.drop o).take tf.size)) w := by
            intro vs us hv hlu
            rw [ho]
            unfold packV
            cases hagg : isAggK tf.k with
            | true => rw [if_pos rfl]; exact part_agg htok hagg vs o
            | false =>
              rw [if_neg (by simp)]
              -- one cell at least: its type is a plain one
              have hpos : 0 < tf.size := by
                refine Nat.pos_of_ne_zero fun h0 => ?_
                rw [h0] at hchk
                cases d with
                | zero => simp [flatT] at hchk
                | succ d =>
                  simp only [flatT, htf, List.take_zero] at hchk
                  split at hchk
                  · simp at hchk
                  · simp at hchk
                  · simp at hchk
                  · rename_i e1 fs e2 hu2; simp at e2; subst e2; simp [hagg] at hchk
                  · cases hchk
              have hlv := hv.length
              have hlt : o < vs.length := by
                have : 0 < (vs.drop o).length := by omega
                simp at this; omega
              have hx : vs[o]? = some vs[o] := List.getElem?_eq_getElem hlt
              rw [part_one htok hagg hx]
              congr 1
              rw [List.getD_eq_getElem?_getD, List.getElem?_take_of_lt hpos, List.getElem?_drop]
              simp [hlt]
          have h1 := hpart xs as hxs la
          have h2 := hpart ys bs hys lb
          simp only [Op.eqFields, hne, ne_eq, not_false_eq_true, if_true, Sem.run_bind, h1, h2, heq, Result.andThen_ok]
          cases p
          · simp
          · simpa using ih2
      exact walk fs.toList 0 zs as bs b hfs (by simpa using hxs) (by simpa using hys) ka kb he
    · cases h
def eqB (P : Program) (ty : Nat → Option TyI) (t : Nat) (ti : TyI) : Bool := !ti.flat || (isAggK ti.k && (flatT P ty 20 t ti.zero && !P.eqGuardType P.depth t))
theorem envOK_of {E : Env} {tyT : T TyI} (hty : E.ty = tyT.get) (h1 : tyT.allI (tyB P) 1 0 = true) (h2 : tyT.allI (eqB P tyT.get) 1 0 = true) : EnvOK P E := by
  have hT : ∀ t ti, tyT.get t = some ti → TyOK P t ti := fun t ti ht => tyB_spec (T.all_spec h1 ht)
  refine ⟨fun t ti ht => hT t ti (by rw [← hty]; exact ht), fun t ti ht hf ρ as bs xs ys w b hxs hys ka kb he => ?_⟩
  rw [hty] at ht
  have := T.all_spec h2 ht
  simp only [eqB, hf, Bool.not_true, Bool.false_or, Bool.and_eq_true, Bool.not_eq_true'] at this
  obtain ⟨hk, hfl, hg⟩ := this
  refine ⟨fun op x y => ?_, ?_⟩
  · unfold eqGuard
    by_cases hop : (op matches .eql | .neq) = true
    · simp [hg]
    · simp [hg]
  · have := flat_eq hT 20 t ti.zero hfl ti ht ρ as bs xs ys w b 9980 hxs hys ka kb he
    simp only [packV, hk, if_true] at this
    exact this
end Go.Ev
