/- The law of this seat holds of every input: a part of the proof (an evaluator that is proved to answer as the model does, and its runs by the kernel). -/
import Derived.Test.YtaomoiphkcbnkaaGreatDoorEvF6
set_option linter.unusedVariables false
set_option linter.unusedSimpArgs false
namespace Go.Ev
variable {E : Env} {i : FI} {f f' : FS} {σ σ' : St}

theorem oV_val {r : Option V} {v : V} (h : oV r f = .val v f') : r = some v ∧ f' = f := by
  unfold oV at h
  split at h
  · simp at h; obtain ⟨rfl, rfl⟩ := h; exact ⟨rfl, rfl⟩
  · cases h
theorem oV_nc {r : Option V} {a : Nat} {b : List V} (h : oV r f = .call a b) : False := by
  unfold oV at h
  split at h <;> cases h
theorem parts_eq (val : Operand → AV) (ps : Array (Nat × Operand)) : parts val ps = ps.toList.map fun x => (x.1, val x.2) := rfl
theorem takeR_avs {l r : List V} {n : Nat} (h : takeR l n = some r) : (V.avs l).take n = V.avs r := by
  rw [takeR_eq] at h
  split at h
  · simp at h; subst h; simp [avs_eq, List.map_take]
  · cases h
theorem dropR_avs (l : List V) (n : Nat) : V.avs (dropR l n) = (V.avs l).drop n := by rw [dropR_eq]; simp [avs_eq, List.map_drop]
theorem nthR_avs {l : List V} {n : Nat} {v : V} (h : nthR l n = some v) : nth (V.avs l) n = some v.av := by
  rw [nthR_eq] at h
  rw [nth_eq, avs_eq, List.getElem?_map, h]; rfl

theorem evOp_build {t : Nat} {ps : Array (Nat × Operand)} {ti : TyI} {fs : List (Nat × Nat)} {val : Operand → AV} (ht : E.ty t = some ti) (hk : ti.k = .struct fs) :
    evOp E val (.build t ps) σ = match fillC (placeOf E fs) ti.zero (parts val ps) with
      | some l => some (.val (.agg l) σ)
      | none => none := by
  simp only [evOp, ht, hk]; rfl
theorem cOp_spec {o : Op} {c : CO} (hc : cOp E i o = some c) : COk E i o c := by
  cases o with
  | move x =>
    simp only [cOp] at hc
    split at hc
    · rename_i g hg
      simp at hc; subst hc
      intro ff fr σ hfr
      simp only [evOp, cO_spec hg hfr]
    · cases hc
  | assign x =>
    simp only [cOp] at hc
    split at hc
    · rename_i g hg
      simp at hc; subst hc
      intro ff fr σ hfr
      simp only [evOp, cO_spec hg hfr]
    · cases hc
  | pick c a b =>
    simp only [cOp] at hc
    split at hc
    · rename_i gc ga gb hgc hga hgb
      simp at hc; subst hc
      intro ff fr σ v hfr hv
      have h1 := cO_spec hgc hfr
      simp only at hv
      split at hv
      · rename_i x hx
        rw [hx] at h1
        rw [bc_eq] at hv
        split at hv
        · rename_i ht
          simp at hv; subst hv; subst ht
          simp only [evOp, ← h1, V.av, cO_spec hga hfr]
        · rename_i ht
          have ht := notT ht
          simp at hv; subst hv; subst ht
          simp only [evOp, ← h1, V.av, cO_spec hgb hfr]
      · cases hv
    · cases hc
  | alloc t =>
    simp only [cOp] at hc
    split at hc
    · rename_i ti ht
      split at hc
      · rename_i hz
        simp only [Bool.and_eq_true] at hz
        simp at hc; subst hc
        intro ff fr fs σ hfr h
        refine ⟨fun v fs' hv => ?_, fun a b hv => by cases hv⟩
        simp at hv; obtain ⟨rfl, rfl⟩ := hv
        refine ⟨_, ?_, h.new _⟩
        simp only [evOp, ht, V.av, h.next, B.blk, ← allZ8_spec _ hz.2]
      · simp at hc; subst hc
        intro ff fr fs σ hfr h
        refine ⟨fun v fs' hv => ?_, fun a b hv => by cases hv⟩
        simp at hv; obtain ⟨rfl, rfl⟩ := hv
        refine ⟨_, ?_, h.new _⟩
        simp only [evOp, ht, V.av, h.next, B.blk, encs_avs]
    · cases hc
  | box t x =>
    simp only [cOp] at hc
    split at hc
    · rename_i g hg
      simp at hc; subst hc
      intro ff fr fs σ hfr h
      have hx := cO_spec hg hfr
      refine ⟨fun v fs' hv => ?_, fun a b hv => ?_⟩
      · simp only [bc_eq] at hv
        split at hv
        · cases hv
        · rename_i hu
          have hu := notT hu
          simp at hv; obtain ⟨rfl, rfl⟩ := hv
          refine ⟨_, ?_, h.new _⟩
          simp only [evOp, ← hx, isUnk_av, hu, Bool.false_eq_true, if_false, V.av, h.next, cells_av, B.blk]
      · simp only [bc_eq] at hv
        split at hv <;> cases hv
    · cases hc
  | build t ps =>
    simp only [cOp] at hc
    split at hc
    rotate_left
    · cases hc
    rename_i ti ht
    split at hc
    · rename_i fs hk
      split at hc
      · rename_i r hr
        simp at hc; subst hc
        intro ff fr σ v hfr hv
        simp only at hv
        split at hv
        · rename_i l hl
          simp at hv; subst hv
          have := cFill_spec _ r hr ff fr hfr _ l hl
          rw [encs_avs] at this
          rw [evOp_build ht hk, parts_eq, this, V.av]
        · cases hv
      · cases hc
    · rename_i n e hk
      split at hc
      · rename_i te he
        split at hc
        · rename_i r hr
          simp at hc; subst hc
          intro ff fr σ v hfr hv
          simp only at hv
          split at hv
          · rename_i l hl
            simp at hv; subst hv
            have := cFill_spec _ r hr ff fr hfr _ l hl
            rw [encs_avs] at this
            simp only [evOp, ht, hk, he, parts_eq, this, V.av]
          · cases hv
        · cases hc
      · cases hc
    · cases hc
  | buildSlice t n ps =>
    simp only [cOp] at hc
    split at hc
    · cases hc
    rename_i ti ht
    split at hc
    rotate_left
    · cases hc
    rename_i e hk
    split at hc
    rotate_left
    · cases hc
    rename_i te he
    split at hc
    · rename_i hu
      obtain ⟨te', h1, h2, h3⟩ := isU8_spec hu
      rw [he] at h1
      simp at h1; subst h1
      split at hc
      rotate_left
      · cases hc
      rename_i hz
      have hz : te.zero = [.int .u8 0] := by
        unfold isZ8 at hz
        split at hz
        · rename_i z hh; rw [hh]; simp at hz; rw [hz]
        · cases hz
      split at hc
      · rename_i r hr
        split at hc
        · rename_i hle
          simp at hc; subst hc
          intro ff fr fs σ hfr h
          refine ⟨fun v fs' hv => ?_, fun a b hv => ?_⟩
          · simp only at hv
            split at hv
            · rename_i m hm
              simp at hv; obtain ⟨rfl, rfl⟩ := hv
              refine ⟨_, ?_, h.new _⟩
              have := cFillB_spec _ r hr ff fr hfr _ m hm
              rw [nb_zero] at this
              simp only [evOp, ht, hk, he, h3, hz, parts_eq, this, V.av, capO, h.next, B.blk]
              rw [h3] at hle
              simp only [hle, if_true]
            · cases hv
          · simp only at hv
            split at hv <;> cases hv
        · cases hc
      · cases hc
    · split at hc
      · rename_i r hr
        split at hc
        · rename_i hle
          simp at hc; subst hc
          intro ff fr fs σ hfr h
          refine ⟨fun v fs' hv => ?_, fun a b hv => ?_⟩
          · simp only at hv
            split at hv
            · rename_i l hl
              simp at hv; obtain ⟨rfl, rfl⟩ := hv
              refine ⟨_, ?_, h.new _⟩
              have := cFill_spec _ r hr ff fr hfr _ l hl
              rw [encs_avs] at this
              simp only [evOp, ht, hk, he, parts_eq, this, V.av, capO, h.next, B.blk, hle, if_true]
            · cases hv
          · simp only at hv
            split at hv <;> cases hv
        · cases hc
      · cases hc
  | load t a =>
    simp only [cOp] at hc
    split at hc
    · rename_i ti g ht hg
      split at hc
      · rename_i hk
        simp at hc; subst hc
        intro ff fr fs σ hfr h
        have hx := cO_spec hg hfr
        refine ⟨fun v fs' hv => ?_, fun a b hv => ?_⟩
        · simp only at hv
          split at hv
          · rename_i b o hp
            rw [hp] at hx
            split at hv
            · rename_i l hl
              simp at hv; obtain ⟨rfl, rfl⟩ := hv
              refine ⟨σ, ?_, h⟩
              simp only [evOp, ht, ← hx, V.av, hk, if_true, ldNF_spec h hl]
            · cases hv
          · cases hv
        · simp only at hv
          (repeat' split at hv) <;> cases hv
      · rename_i hk
        simp at hc; subst hc
        intro ff fr fs σ hfr h
        have hx := cO_spec hg hfr
        refine ⟨fun v fs' hv => ?_, fun a b hv => ?_⟩
        · simp only at hv
          split at hv
          · rename_i b o hp
            rw [hp] at hx
            obtain ⟨h1, rfl⟩ := oV_val hv
            refine ⟨σ, ?_, h⟩
            simp only [evOp, ht, ← hx, V.av, hk, if_false, ld1F_spec h h1, valO]
            rfl
          · cases hv
        · simp only at hv
          split at hv
          · exact (oV_nc hv).elim
          · cases hv
    · cases hc
  | store t a x =>
    simp only [cOp] at hc
    split at hc
    · rename_i ti g v ht hg hgv
      simp at hc; subst hc
      intro ff fr fs σ hfr h
      have hx := cO_spec hg hfr
      have hy := cO_spec hgv hfr
      refine ⟨fun v' fs' hv => ?_, fun a b hv => ?_⟩
      · simp only [bc_eq] at hv
        split at hv
        · rename_i b o hp
          rw [hp] at hx
          split at hv
          · cases hv
          rename_i hu
          have hu := notT hu
          split at hv
          · rename_i hlen
            split at hv
            · rename_i f1 hst
              simp at hv; obtain ⟨rfl, rfl⟩ := hv
              obtain ⟨σ1, h1, h2⟩ := stNF_spec h hst
              refine ⟨σ1, ?_, h2⟩
              simp only [evOp, ht, ← hx, ← hy, V.av, isUnk_av, hu, Bool.false_eq_true, if_false, cells_av, lenR_avs, hlen, if_true, h1, V.avs]
            · cases hv
          · cases hv
        · cases hv
      · simp only [bc_eq] at hv
        (repeat' split at hv) <;> cases hv
    · cases hc
  | nilCheck x =>
    simp only [cOp] at hc
    split at hc
    · rename_i g hg
      simp at hc; subst hc
      intro ff fr σ v hfr hv
      have hx := cO_spec hg hfr
      simp only at hv
      split at hv
      · rename_i b o hp
        simp at hv; subst hv
        rw [hp] at hx
        simp only [evOp, ← hx, V.av]
      · rename_i b o hp
        simp at hv; subst hv
        rw [hp] at hx
        simp only [evOp, ← hx, V.av]
      · cases hv
    · cases hc
  | binOp op t x y yt =>
    simp only [cOp] at hc
    split at hc
    · rename_i g h hg hh
      exact cBin_spec (Is.of hg) (Is.of hh) hc
    · cases hc
  | unOp op t x =>
    simp only [cOp] at hc
    split at hc
    · rename_i g hg; exact cUn_spec (Is.of hg) hc
    · cases hc
  | convert s d x =>
    simp only [cOp] at hc
    split at hc
    · rename_i g hg; exact cConv_spec (Is.of hg) hc
    · cases hc
  | makeInterface t x =>
    simp only [cOp] at hc
    split at hc
    · rename_i ti g ht hg
      split at hc
      · cases hc
      · rename_i hk
        simp at hc; subst hc
        intro ff fr σ hfr
        have hx := cO_spec hg hfr
        simp only [evOp, ht, V.av, hx]
    · cases hc
  | makeFunc fn first cap =>
    cases fn with
    | func h =>
      simp only [cOp] at hc
      split at hc
      · rename_i hfst
        split at hc
        · rename_i gs hgs
          simp at hc; subst hc
          intro ff fr σ hfr
          obtain ⟨h1, _⟩ := cOs_spec hfr _ gs hgs
          simp only [evOp, hfst, if_true, V.av, h1]
        · cases hc
      · cases hc
    | _ => simp only [cOp] at hc; cases hc
  | makeSlice t l c =>
    simp only [cOp] at hc
    split at hc
    · rename_i ti gl gc ht hl hcc
      split at hc
      · rename_i e hk
        split at hc
        · rename_i te he
          simp at hc; subst hc
          intro ff fr fs σ hfr h
          have hx := cO_spec hl hfr
          have hy := cO_spec hcc hfr
          refine ⟨fun v fs' hv => ?_, fun a b hv => ?_⟩
          · simp only at hv
            split at hv
            · rename_i k1 l' k2 c' h1 h2
              rw [h1] at hx; rw [h2] at hy
              simp only [bc_eq] at hv
              split at hv
              rotate_left
              · cases hv
              rename_i a1
              have a1 : k1 = 3 := by simpa using a1
              subst a1
              split at hv
              rotate_left
              · cases hv
              rename_i a2
              have a2 : k2 = 3 := by simpa using a2
              subst a2
              split at hv
              rotate_left
              · cases hv
              rename_i a3
              have a3 : l' ≤ c' := by simpa using a3
              split at hv
              rotate_left
              · cases hv
              rename_i a4
              have a4 : c' ≤ 65536 := by simpa using a4
              split at hv
              rotate_left
              · cases hv
              rename_i a5
              have a5 : te.bytes * c' ≤ 65536 := Nat.le_of_ble_eq_true a5
              have a5' : ((te.bytes : Int) * (c' : Int)) ≤ 65536 := by rw [← Int.natCast_mul]; omega
              have hcond : (0 : Int) ≤ (l' : Int) ∧ (l' : Int) ≤ (c' : Int) ∧ (c' : Int) ≤ 65536 ∧ (te.bytes : Int) * (c' : Int) ≤ 65536 := ⟨by omega, by omega, by omega, a5'⟩
              by_cases hu : (isU8 E e && isZ8 te.zero) = true
              · rw [if_pos hu] at hv
                simp only [Bool.and_eq_true] at hu
                obtain ⟨te', h1, h2, h3⟩ := isU8_spec hu.1
                rw [he] at h1
                simp at h1; subst h1
                have hz : te.zero = [.int .u8 0] := by
                  have hz := hu.2
                  unfold isZ8 at hz
                  split at hz
                  · rename_i z hh; rw [hh]; simp at hz; rw [hz]
                  · cases hz
                simp only [FR.val.injEq] at hv; obtain ⟨rfl, rfl⟩ := hv
                refine ⟨_, ?_, h.new _⟩
                simp only [evOp, ht, hk, he, ← hx, ← hy, V.av, kOf, if_pos hcond, hz, h.next, B.blk, Int.toNat_natCast, nb_zero, capO]
              · rw [if_neg hu] at hv
                simp only [FR.val.injEq] at hv; obtain ⟨rfl, rfl⟩ := hv
                refine ⟨_, ?_, h.new _⟩
                simp only [evOp, ht, hk, he, ← hx, ← hy, V.av, kOf, if_pos hcond, h.next, B.blk, Int.toNat_natCast, repR_eq, capO]
            · cases hv
          · simp only [bc_eq] at hv
            (repeat' split at hv) <;> cases hv
        · cases hc
      · cases hc
    · cases hc
  | slice t x lo hi mx =>
    simp only [cOp] at hc
    split at hc
    · rename_i g hg
      cases mx with
      | some m => exact cSlice3_spec (Is.of hg) hc
      | none => exact cSlice_spec (Is.of hg) hc
    · cases hc
  | fieldAddr t x fi =>
    simp only [cOp] at hc
    split at hc
    · rename_i ti g ht hg
      split at hc
      · rename_i fs hk
        split at hc
        · rename_i off ft hn
          split at hc
          · rename_i tf hf
            split at hc
            · cases hc
            rename_i hz
            have hz := notT hz
            simp at hc; subst hc
            intro ff fr σ v hfr hv
            have hx := cO_spec hg hfr
            simp only at hv
            split at hv
            · rename_i b o hp
              simp at hv; subst hv
              rw [hp] at hx
              simp only [evOp, ht, ← hx, V.av, hk, hn, hf, hz, Bool.false_eq_true, if_false, n_add]
            · cases hv
          · cases hc
        · cases hc
      · cases hc
    · cases hc
  | field t x fi =>
    simp only [cOp] at hc
    split at hc
    · rename_i ti g ht hg
      split at hc
      · rename_i fs hk
        split at hc
        · rename_i off ft hn
          split at hc
          · rename_i tf hf
            split at hc
            · rename_i hagg
              simp at hc; subst hc
              intro ff fr σ v hfr hv
              have hx := cO_spec hg hfr
              simp only at hv
              split at hv
              · rename_i cs hp
                rw [hp] at hx
                split at hv
                · rename_i l hl
                  simp at hv; subst hv
                  have := takeR_avs hl
                  rw [dropR_avs] at this
                  simp only [evOp, ht, ← hx, V.av, hk, hn, hf, hagg, if_true, this]
                · cases hv
              · cases hv
            · rename_i hagg
              simp at hc; subst hc
              intro ff fr σ v hfr hv
              have hx := cO_spec hg hfr
              simp only at hv
              split at hv
              · rename_i cs hp
                rw [hp] at hx
                simp only [evOp, ht, ← hx, V.av, hk, hn, hf, if_neg hagg, nthR_avs hv, valO]
              · cases hv
          · cases hc
        · cases hc
      · cases hc
    · cases hc
  | indexAddr t x j =>
    simp only [cOp] at hc
    split at hc
    · rename_i ti g h ht hg hh
      split at hc
      · rename_i e hk
        split at hc
        · rename_i te he
          simp at hc; subst hc
          intro ff fr σ v hfr hv
          have hx := cO_spec hg hfr
          have hy := cO_spec hh hfr
          simp only at hv
          split at hv
          · rename_i k n hj
            split at hv
            · rename_i b o m c e' hp
              rw [bc_eq] at hv
              split at hv
              · rename_i hlt
                simp at hv; subst hv
                rw [hp] at hx; rw [hj] at hy
                simp only [evOp, ht, ← hx, ← hy, V.av, if_pos (Int.natCast_nonneg n), hk, he, Int.toNat_natCast, hlt, if_true, n_add, n_mul]
              · cases hv
            · cases hv
          · cases hv
        · cases hc
      · rename_i m e hk
        split at hc
        · rename_i te he
          simp at hc; subst hc
          intro ff fr σ v hfr hv
          have hx := cO_spec hg hfr
          have hy := cO_spec hh hfr
          simp only at hv
          split at hv
          · rename_i k n hj
            split at hv
            · rename_i b o hp
              rw [bc_eq] at hv
              split at hv
              · rename_i hlt
                simp at hv; subst hv
                rw [hp] at hx; rw [hj] at hy
                simp only [evOp, ht, ← hx, ← hy, V.av, if_pos (Int.natCast_nonneg n), hk, he, Int.toNat_natCast, hlt, if_true, n_add, n_mul]
              · cases hv
            · cases hv
          · cases hv
        · cases hc
      · cases hc
    · cases hc
  | index t x j =>
    simp only [cOp] at hc
    split at hc
    · rename_i ti g h ht hg hh
      split at hc
      · rename_i hk
        simp at hc; subst hc
        intro ff fr σ v hfr hv
        have hx := cO_spec hg hfr
        have hy := cO_spec hh hfr
        simp only at hv
        split at hv
        · rename_i k n hj
          split at hv
          · rename_i len num hp
            rw [bc_eq] at hv
            split at hv
            · rename_i hlt
              have hlt : n < len := by simpa using hlt
              simp at hv; subst hv
              rw [hp] at hx; rw [hj] at hy
              have hget := nb_get len num n hlt
              simp only [evOp, ht, ← hx, ← hy, V.av, if_pos (Int.natCast_nonneg n), hk, Int.toNat_natCast, nth_eq, hget, kOf, n_mod, n_div, n_pow]
              congr 4
              simp
            · cases hv
          · cases hv
        · cases hv
      · rename_i m e hk
        split at hc
        · rename_i te he
          simp at hc; subst hc
          intro ff fr σ v hfr hv
          have hx := cO_spec hg hfr
          have hy := cO_spec hh hfr
          simp only at hv
          split at hv
          · rename_i k n hj
            split at hv
            · rename_i cs hp
              rw [bc_eq] at hv
              split at hv
              · rename_i hlt
                rw [hp] at hx; rw [hj] at hy
                cases hagg : isAggK te.k with
                | true =>
                  rw [hagg] at hv
                  change (match takeR (dropR cs (Nat.mul n te.size)) te.size with | some l => some (V.agg l) | none => none) = some v at hv
                  split at hv
                  · rename_i l hl
                    simp at hv; subst hv
                    have := takeR_avs hl
                    rw [dropR_avs] at this
                    simp only [n_mul] at this
                    simp only [evOp, ht, ← hx, ← hy, V.av, if_pos (Int.natCast_nonneg n), hk, he, Int.toNat_natCast, hlt, if_true, hagg, this]
                  · cases hv
                | false =>
                  rw [hagg] at hv
                  change nthR cs (Nat.mul n te.size) = some v at hv
                  have := nthR_avs hv
                  simp only [n_mul] at this
                  simp only [evOp, ht, ← hx, ← hy, V.av, if_pos (Int.natCast_nonneg n), hk, he, Int.toNat_natCast, hlt, if_true, hagg, Bool.false_eq_true, if_false, this, valO]
              · cases hv
            · cases hv
          · cases hv
        · cases hc
      · cases hc
    · cases hc
  | extract x j =>
    simp only [cOp] at hc
    split at hc
    · rename_i g hg
      simp at hc; subst hc
      intro ff fr σ v hfr hv
      have hx := cO_spec hg hfr
      simp only at hv
      split at hv
      · rename_i l hp
        rw [hp] at hx
        simp only [evOp, ← hx, V.av, nthR_avs hv, valO]
      · cases hv
    · cases hc
  | range t x =>
    simp only [cOp] at hc
    split at hc
    · rename_i ti g ht hg
      split at hc
      · rename_i hk
        simp at hc; subst hc
        intro ff fr fs σ hfr h
        have hx := cO_spec hg hfr
        refine ⟨fun v fs' hv => ?_, fun a b hv => ?_⟩
        · simp only at hv
          split at hv
          · rename_i len num hp
            simp at hv; obtain ⟨rfl, rfl⟩ := hv
            rw [hp] at hx
            refine ⟨_, ?_, h.new _⟩
            simp only [evOp, ht, hk, ← hx, V.av, h.next, B.blk]
          · cases hv
        · simp only at hv
          split at hv <;> cases hv
      · cases hc
    · cases hc
  | next it str =>
    cases str with
    | false => simp only [cOp] at hc; cases hc
    | true =>
      simp only [cOp] at hc
      split at hc
      · rename_i g hg
        simp at hc; subst hc
        intro ff fr fs σ hfr h
        have hx := cO_spec hg hfr
        refine ⟨fun v fs' hv => ?_, fun a b hv => ?_⟩
        · simp only [bc_eq] at hv
          split at hv
          · rename_i b o hp
            rw [hp] at hx
            split at hv
            rotate_left
            · cases hv
            rename_i ho
            have ho : o = 0 := by simpa using ho
            subst ho
            split at hv
            · rename_i len num pos hb
              split at hv
              · rename_i hlt
                have hlt' : pos < len := by simpa using hlt
                split at hv
                · rename_i ha
                  have ha : num / 256 ^ pos % 256 < 128 := by simpa [n_mod, n_div, n_pow] using ha
                  simp at hv; obtain ⟨rfl, rfl⟩ := hv
                  refine ⟨_, ?_, h.upd _ (FS.lt_of_get (by rw [hb]; exact nofun))⟩
                  have hdec : Utf8.decode ⟨⟨nb len num⟩⟩ pos = (num / 256 ^ pos % 256, 1) := by
                    have hg0 : ((⟨⟨nb len num⟩⟩ : ByteArray).get! (pos + 0)).toNat = num / 256 ^ pos % 256 := by
                      have : (⟨⟨nb len num⟩⟩ : ByteArray).get! (pos + 0) = ((nb len num)[pos]?).getD default := by
                        simp [ByteArray.get!]
                      rw [this, nb_get _ _ _ hlt']; simp
                    unfold Utf8.decode
                    simp only [hg0]
                    rw [if_pos (by omega)]
                  simp only [evOp, ← hx, V.av, h.iter hb, nb_length, hlt, if_true, hdec, V.avs, kOf, B.blk, n_mod, n_div, n_pow]
                · cases hv
              · rename_i hlt
                have hlt := notT hlt
                simp at hv; obtain ⟨rfl, rfl⟩ := hv
                refine ⟨σ, ?_, h⟩
                simp only [evOp, ← hx, V.av, h.iter hb, nb_length, hlt, Bool.false_eq_true, if_false, V.avs]
            · cases hv
          · cases hv
        · simp only [bc_eq] at hv
          (repeat' split at hv) <;> cases hv
      · cases hc
  | call c0 =>
    simp only [cOp] at hc
    split at hc
    · cases hc
    rename_i gs hgs
    split at hc
    · rename_i b hb
      refine cBi_spec (xs := c0.args.toList) (fun fr σ => ?_) (fun ff fr hfr => (cOs_spec hfr _ gs hgs).2) hc
      simp only [evOp, hb]
    · rename_i h hb
      simp at hc; subst hc
      intro ff fr fs σ hfr hs
      refine ⟨fun v fs' hv => (by cases hv), fun a b hv => ?_⟩
      simp at hv; obtain ⟨rfl, rfl⟩ := hv
      obtain ⟨h1, _⟩ := cOs_spec hfr _ gs hgs
      simp only [evOp, hb, Fr.val, List.append_nil, h1]
    · rename_i h hb
      split at hc
      · rename_i g hg
        simp at hc; subst hc
        intro ff fr fs σ hfr hs
        have hx := cO_spec hg hfr
        refine ⟨fun v fs' hv => ?_, fun a b hv => ?_⟩
        · simp only at hv
          split at hv <;> cases hv
        · simp only at hv
          split at hv
          · rename_i hn cs hp
            simp at hv; obtain ⟨rfl, rfl⟩ := hv
            obtain ⟨h1, _⟩ := cOs_spec hfr _ gs hgs
            rw [hp] at hx
            simp only [evOp, hb, ← hx, V.av, ← h1, appR_eq]
            simp only [avs_eq, List.map_append]
          · cases hv
      · cases hc
    · cases hc
  | _ => simp only [cOp] at hc; cases hc
end Go.Ev
