/- The law of this seat holds of every input: a part of the proof (an evaluator that is proved to answer as the model does, and its runs by the kernel). -/
import Derived.Test.YtaomoiphkcbnkaaGreatDoorEvBuild
import Derived.Deep.Upon
set_option linter.unusedVariables false
set_option linter.unusedSimpArgs false
section
namespace Go.Ev
variable {P : Program} {E : Env} {ρ : Rho} {σ σ' : St} {w : World} {fv : Operand → AV} {a : Act}

def NumR (v : Option Value) (d n : Nat) : Prop := (v = none ∧ n = d) ∨ ∃ k i, v = some (.int k i) ∧ 0 ≤ i ∧ n = i.toNat
theorem numO_rel (hf : VlR ρ fv a) {v : Option Operand} {d n : Nat} (h : numO (v.map fv) d = some n) : NumR (v.map a.eval) d n := by
  cases v with
  | none => simp [numO] at h; exact .inl ⟨rfl, h.symm⟩
  | some x =>
    have hx := hf.eval x
    simp only [Option.map_some, numO] at h
    split at h
    · rename_i he; cases he
    · rename_i k i he
      simp at he
      rw [he] at hx
      split at h
      · rename_i h0
        simp at h
        exact .inr ⟨k, i, by simp [hx.inv_int], h0, h.symm⟩
      · cases h
    · cases h
theorem sliceBound_run {k : IntKind} {i : Int} {y : Nat} {c : BoundsCode} (h0 : 0 ≤ i) (h : i.toNat ≤ y) : (Instr.sliceBound (.int k i) y c).run P w = .ok i.toNat w := by
  have : i ≤ (y : Int) := by omega
  simp [Instr.sliceBound, asIntOf, h0, this]
theorem sb_run {isS : Bool} {len cap : Nat} {lo hi mx : Option Value} {l h m : Nat} (h1 : NumR lo 0 l) (h2 : NumR hi len h) (h3 : NumR mx cap m) (hm : mx ≠ none → hi ≠ none) (hlh : l ≤ h) (hhm : h ≤ m) (hmc : m ≤ cap) :
    (Instr.sliceBounds isS len cap lo hi mx).run P w = .ok (l, h, m) w := by
  rcases h3 with ⟨rfl, rfl⟩ | ⟨km, im, rfl, h30, rfl⟩
  · rcases h2 with ⟨rfl, rfl⟩ | ⟨kh, ih, rfl, h20, rfl⟩
    · rcases h1 with ⟨rfl, rfl⟩ | ⟨kl, il, rfl, h10, rfl⟩
      · simp [Instr.sliceBounds]
      · simp [Instr.sliceBounds, sliceBound_run h10 hlh]
    · rcases h1 with ⟨rfl, rfl⟩ | ⟨kl, il, rfl, h10, rfl⟩
      · simp [Instr.sliceBounds, sliceBound_run h20 hhm]
      · simp [Instr.sliceBounds, sliceBound_run h10 hlh, sliceBound_run h20 hhm]
  · rcases h2 with ⟨rfl, rfl⟩ | ⟨kh, ih, rfl, h20, rfl⟩
    · exact absurd rfl (hm (by simp))
    · rcases h1 with ⟨rfl, rfl⟩ | ⟨kl, il, rfl, h10, rfl⟩
      · simp [Instr.sliceBounds, sliceBound_run h20 hhm, sliceBound_run h30 hmc]
      · simp [Instr.sliceBounds, sliceBound_run h10 hlh, sliceBound_run h20 hhm, sliceBound_run h30 hmc]

theorem ble_le {a b : Nat} (h : Nat.ble a b = true) : a ≤ b := Nat.le_of_ble_eq_true h
theorem map_ne {v : Option Operand} {a : Act} (h : (v.map a.eval) ≠ none) : v ≠ none := fun e => h (by rw [e]; rfl)

theorem step_slice {o : Oper} {t : Nat} {x : Operand} {lo hi mx : Option Operand} {v : AV} {σ' : St} (hE : EnvOK P E) (ho : o.op = .slice t x lo hi mx) (hf : VlR ρ fv a) (h : HR ρ σ w)
    (hv : evSlice E t (fv x) (lo.map fv) (hi.map fv) (mx.map fv) σ = some (v, σ')) : Does P o a ρ σ w v σ' := by
  have hx := hf.eval x
  unfold evSlice at hv
  split at hv
  · cases hv
  rename_i ti hty
  have ht := hE.ty _ _ hty
  have hex : (execOp a.eval o) = (do pure (Next.value (← Instr.sliceAt t (a.eval x) (lo.map a.eval) (hi.map a.eval) (mx.map a.eval))) : Sem Next) := by
    simp only [execOp, ho]
  split at hv
  · -- a string
    rename_i s hk hs
    rw [hs] at hx
    obtain ⟨sb, he, hsb⟩ := hx.inv_str
    split at hv
    · rename_i l hh hmx hl hhh
      split at hv
      · rename_i hc
        simp at hv
        obtain ⟨rfl, rfl⟩ := hv
        simp only [Bool.and_eq_true] at hc
        have h1 := ble_le hc.1
        have h2 := ble_le hc.2
        have hmx' : mx = none := by cases mx <;> simp at hmx ⊢
        subst hmx'
        have hsz : sb.size = s.length := by rw [← hsb]; rfl
        have hb := sb_run (P := P) (w := w) (isS := false) (len := sb.size) (cap := sb.size) (mx := none) (numO_rel hf hl) (by rw [hsz]; exact numO_rel hf hhh) (.inl ⟨rfl, rfl⟩) (by simp) h1 (by omega) (Nat.le_refl _)
        refine .same h (v' := .string (sb.extract l hh)) ?_ ?_
        · rw [hex]
          simp [Instr.sliceAt, run_underlying (ht.string hk), he, Instr.slice, hb]
        · have : (sb.extract l hh).data.toList = (s.drop l).take (hh - l) := by
            rw [ByteArray.data_extract, Array.toList_extract, List.extract_eq_take_drop, hsb]
          rw [← this]; exact .str _
      · cases hv
    · cases hv
  · -- nil
    rename_i el hk hs
    rw [hs] at hx
    split at hv
    · cases hv
    rename_i te hte
    have hte := hE.ty _ _ hte
    split at hv
    · rename_i hl hhh hm
      split at hv
      · cases hv
      rename_i hmh
      simp at hv
      obtain ⟨rfl, rfl⟩ := hv
      have he : a.eval x = .slice none 0 0 := by generalize a.eval x = y at hx; cases hx; rfl
      have hb := sb_run (P := P) (w := w) (isS := true) (len := 0) (cap := 0) (numO_rel hf hl) (numO_rel hf hhh) (numO_rel hf hm) (fun hne hn => hmh (by cases mx <;> cases hi <;> simp_all)) (Nat.le_refl _) (Nat.le_refl _) (Nat.le_refl _)
      refine .same h (v' := .slice none 0 0) ?_ .nils
      rw [hex]
      simp [Instr.sliceAt, run_underlying (ht.slice hk), he, Instr.slice, hb, hte.size_run]
    · cases hv
  · -- an empty one
    rename_i el hk hs
    rw [hs] at hx
    split at hv
    · cases hv
    rename_i te hte
    have hte := hE.ty _ _ hte
    split at hv
    · rename_i hl hhh hmx
      simp at hv
      obtain ⟨rfl, rfl⟩ := hv
      have hmx' : mx = none := by cases mx <;> simp at hmx ⊢
      subst hmx'
      generalize he : a.eval x = y at hx
      cases hx with
      | @esl ad c' =>
        have hb := sb_run (P := P) (w := w) (isS := true) (len := 0) (cap := c') (mx := none) (numO_rel hf hl) (numO_rel hf hhh) (.inl ⟨rfl, rfl⟩) (by simp) (Nat.le_refl _) (Nat.zero_le _) (Nat.le_refl _)
        by_cases hc : c' = 0
        · subst hc
          refine .same h (v' := .slice (some ad) 0 0) ?_ .esl
          rw [hex]
          simp [Instr.sliceAt, run_underlying (ht.slice hk), he, Instr.slice, hb, hte.size_run]
        · refine .same h (v' := .slice (some (ad.add (0 * te.size))) 0 c') ?_ .esl
          rw [hex]
          simp [Instr.sliceAt, run_underlying (ht.slice hk), he, Instr.slice, hb, hte.size_run, hc]
    · cases hv
  · -- a slice
    rename_i el b off n c e hk hs
    rw [hs] at hx
    obtain ⟨B, d, z, c', hb0, hcc, hnc, hz, he⟩ := hx.inv_sl
    split at hv
    · cases hv
    rename_i te hte
    have hte := hE.ty _ _ hte
    split at hv
    · rename_i hse
      have hse : te.size = e := by simpa using hse
      split at hv
      · rename_i l hh hl hhh
        split at hv
        · rename_i hmx
          have hmx' : mx = none := by cases mx <;> simp at hmx ⊢
          subst hmx'
          split at hv
          · -- known capacity
            rename_i cc
            split at hv
            · rename_i hc
              simp only [Bool.and_eq_true] at hc
              have h1 := ble_le hc.1
              have h2 := ble_le hc.2
              simp at hv
              obtain ⟨rfl, rfl⟩ := hv
              have hc' := hcc cc rfl
              subst hc'
              have hb := sb_run (P := P) (w := w) (isS := true) (len := n) (cap := c') (mx := none) (numO_rel hf hl) (numO_rel hf hhh) (.inl ⟨rfl, rfl⟩) (by simp) h1 h2 (Nat.le_refl _)
              by_cases hcl : c' = l
              · refine .same h (v' := .slice (some ⟨B, d + off, none⟩) (hh - l) (c' - l)) ?_ ?_
                · rw [hex]
                  subst hcl
                  simp [Instr.sliceAt, run_underlying (ht.slice hk), he, Instr.slice, hb, hte.size_run]
                · rw [if_pos hcl]
                  exact .sl hb0 (fun x hx => by simpa using hx) (by omega) (by rw [hcl]; simp; omega)
              · refine .same h (v' := .slice (some ⟨B, d + (off + l * e), none⟩) (hh - l) (c' - l)) ?_ ?_
                · rw [hex]
                  simp [Instr.sliceAt, run_underlying (ht.slice hk), he, Instr.slice, hb, hte.size_run, hcl, hse, Addr.add_mid, Nat.add_assoc]
                · rw [if_neg hcl]
                  refine .sl hb0 (fun x hx => by simpa using hx) (by omega) ?_
                  have : l * e + (c' - l) * e = c' * e := by rw [← Nat.add_mul]; congr 1; omega
                  omega
            · cases hv
          · -- a capacity that is not known
            split at hv
            · rename_i hc
              simp only [Bool.and_eq_true] at hc
              have h1 := ble_le hc.1
              have h2 := ble_le hc.2
              have hb := sb_run (P := P) (w := w) (isS := true) (len := n) (cap := c') (mx := none) (numO_rel hf hl) (numO_rel hf hhh) (.inl ⟨rfl, rfl⟩) (by simp) h1 (by omega) (Nat.le_refl _)
              split at hv
              · rename_i hln
                simp at hv
                obtain ⟨rfl, rfl⟩ := hv
                refine .same h (v' := .slice (some ⟨B, d + (off + l * e), none⟩) (hh - l) (c' - l)) ?_ ?_
                · rw [hex]
                  by_cases hcl : c' = l
                  · have hl0 : l = 0 := by
                      simp only [Bool.or_eq_true] at hln
                      rcases hln with hln | hln
                      · have : l < n := by simpa using hln
                        omega
                      · simpa using hln
                    subst hl0
                    subst hcl
                    simp [Instr.sliceAt, run_underlying (ht.slice hk), he, Instr.slice, hb, hte.size_run]
                  · simp [Instr.sliceAt, run_underlying (ht.slice hk), he, Instr.slice, hb, hte.size_run, hse, hcl, Addr.add_mid, Nat.add_assoc]
                · refine .sl hb0 (fun x hx => by cases hx) (by omega) ?_
                  have : l * e + (c' - l) * e = c' * e := by rw [← Nat.add_mul]; congr 1; omega
                  omega
              · rename_i hln
                simp at hv
                obtain ⟨rfl, rfl⟩ := hv
                have hnl : ¬ l < n := fun hh => hln (by rw [blt_true hh]; rfl)
                have e1 : hh - l = 0 := by omega
                by_cases hcl : c' = l
                · refine .same h (v' := .slice (some ⟨B, d + off, none⟩) 0 (c' - l)) ?_ .esl
                  rw [hex]
                  subst hcl
                  simp [Instr.sliceAt, run_underlying (ht.slice hk), he, Instr.slice, hb, hte.size_run, e1]
                · refine .same h (v' := .slice (some ((⟨B, d + off, none⟩ : Addr).add (l * te.size))) 0 (c' - l)) ?_ .esl
                  rw [hex]
                  simp [Instr.sliceAt, run_underlying (ht.slice hk), he, Instr.slice, hb, hte.size_run, hcl, e1]
            · cases hv
        · -- three indexes
          rename_i m hmx
          split at hv
          · rename_i mm hm
            split at hv
            · rename_i hc
              simp only [Bool.and_eq_true] at hc
              obtain ⟨hi0, ⟨hc1, hc2⟩, hc3⟩ := hc
              have h1 := ble_le hc1
              have h2 := ble_le hc2
              have h3 := ble_le hc3
              simp at hv
              obtain ⟨rfl, rfl⟩ := hv
              have hm3 : mm ≤ c' := by
                cases c with
                | none => simp at h3; omega
                | some cc => have := hcc cc rfl; simp at h3; omega
              have hmr : NumR (mx.map a.eval) c' mm := by
                have : numO (mx.map fv) 0 = some mm := by rw [hmx]; exact hm
                rcases numO_rel hf this with ⟨e1, _⟩ | e1
                · cases mx <;> simp at hmx e1
                · exact .inr e1
              have hb := sb_run (P := P) (w := w) (isS := true) (len := n) (cap := c') (numO_rel hf hl) (numO_rel hf hhh) hmr (fun _ hn => by cases hi <;> simp at hi0 hn) h1 h2 hm3
              by_cases hcl : mm = l
              · refine .same h (v' := .slice (some ⟨B, d + off, none⟩) (hh - l) (mm - l)) ?_ ?_
                · rw [hex]
                  subst hcl
                  simp [Instr.sliceAt, run_underlying (ht.slice hk), he, Instr.slice, hb, hte.size_run]
                · rw [if_pos hcl]
                  refine .sl hb0 (fun x hx => by simpa using hx) (by omega) ?_
                  rw [hcl]; simp; omega
              · refine .same h (v' := .slice (some ⟨B, d + (off + l * e), none⟩) (hh - l) (mm - l)) ?_ ?_
                · rw [hex]
                  simp [Instr.sliceAt, run_underlying (ht.slice hk), he, Instr.slice, hb, hte.size_run, hcl, hse, Addr.add_mid, Nat.add_assoc]
                · rw [if_neg hcl]
                  refine .sl hb0 (fun x hx => by simpa using hx) (by omega) ?_
                  have : l * e + (mm - l) * e = mm * e := by rw [← Nat.add_mul]; congr 1; omega
                  have := Nat.mul_le_mul_right e hm3
                  omega
            · cases hv
          · cases hv
      · cases hv
    · cases hv
  · -- an array's address
    rename_i n e' b off hk hs
    rw [hs] at hx
    obtain ⟨B, d, z, hb0, he⟩ := hx.inv_ptr
    split at hv
    · rename_i te l hh hte hl hhh hmx
      have hte := hE.ty _ _ hte
      split at hv
      · rename_i hc
        simp only [Bool.and_eq_true] at hc
        have h1 := ble_le hc.1
        have h2 := ble_le hc.2
        split at hv
        · rename_i cells e ro hg
          split at hv
          · rename_i hroom
            have hroom := ble_le hroom
            simp at hv
            obtain ⟨rfl, rfl⟩ := hv
            have hmx' : mx = none := by cases mx <;> simp at hmx ⊢
            subst hmx'
            obtain ⟨_, a2, _⟩ := h.row b B d z cells e ro hb0 hg
            have hb := sb_run (P := P) (w := w) (isS := false) (len := n) (cap := n) (mx := none) (numO_rel hf hl) (numO_rel hf hhh) (.inl ⟨rfl, rfl⟩) (by simp) h1 h2 (Nat.le_refl _)
            by_cases hcl : n = l
            · refine .same h (v' := .slice (some ⟨B, d + off, none⟩) (hh - l) (n - l)) ?_ ?_
              · rw [hex]
                subst hcl
                simp [Instr.sliceAt, run_underlying (ht.arr hk), he, Instr.sureAddr, hb, hte.size_run]
              · rw [if_pos (by simpa using hcl)]
                refine .sl hb0 (fun x hx => by simpa using hx) (by omega) ?_
                rw [hcl]; simp; omega
            · refine .same h (v' := .slice (some ⟨B, d + (off + l * te.size), none⟩) (hh - l) (n - l)) ?_ ?_
              · rw [hex]
                simp [Instr.sliceAt, run_underlying (ht.arr hk), he, Instr.sureAddr, hb, hte.size_run, hcl, Addr.add_mid, Nat.add_assoc]
              · rw [if_neg (by simpa using hcl)]
                refine .sl hb0 (fun x hx => by simpa using hx) (by omega) ?_
                have : l * te.size + (n - l) * te.size = n * te.size := by rw [← Nat.add_mul]; congr 1; omega
                omega
          · cases hv
        · cases hv
      · cases hv
    · cases hv
  · cases hv
end Go.Ev
end
section
namespace Go.Ev
variable {P : Program} {E : Env} {ρ : Rho} {σ σ' : St} {w : World} {fr : Fr} {a : Act}

/-- a new row out of related cells, with room behind -/
theorem new_row_more {l : List AV} {vs : List Value} (h : HR ρ σ w) (hv : VRL ρ l vs) (rest : Array Value) (e : Nat) :
    Post ρ σ w (upR ρ σ.next (w.heap.size, 0, l.length + rest.size)) (σ.new (.row l e false)) (w.drew.alloc (.cells (vs.toArray ++ rest) e)) := by
  have hlen := hv.length
  refine Post.new h (.row l e false) (.cells (vs.toArray ++ rest) e) (l.length + rest.size) rfl rfl rfl rfl ⟨fun j v hj => ?_, Nat.le_add_right .., rfl, fun j hj => ⟨?_, ?_⟩, _, shape_alloc ..⟩
  · obtain ⟨v', h1, h2⟩ := hv.get j v hj
    refine ⟨v', ?_, h2⟩
    have hjl : j < vs.length := (List.getElem?_eq_some_iff.1 h1).1
    show (w.drew.alloc (.cells (vs.toArray ++ rest) e)).cell? ⟨w.drew.heap.size, j, none⟩ = some v'
    rw [World.cell?_alloc_at _ _ _ _ rfl, Array.getElem?_append_left (by simpa using hjl)]
    simpa using h1
  · rw [Nat.zero_add]
    show ((w.drew.alloc (.cells (vs.toArray ++ rest) e)).cell? ⟨w.drew.heap.size, j, none⟩).isSome = true
    rw [World.cell?_alloc_at _ _ _ _ rfl]
    simp; omega
  · rw [Nat.zero_add]
    show (w.drew.alloc (.cells (vs.toArray ++ rest) e)).frozen? ⟨w.drew.heap.size, j, none⟩ = false
    rw [World.frozen?_alloc_at _ _ _ _ rfl]

theorem bytesOf_rel (ρ : Rho) : ∀ l : List UInt8, VRL ρ (bytesOf l) (l.map fun b => Value.int .u8 b.toNat)
  | [] => .nil
  | _ :: l => .cons (.int _ _) (bytesOf_rel ρ l)

theorem byteCells_len' (s : ByteArray) : (byteCells s).length = s.data.toList.length * 1 := by rw [byteCells_length, Nat.mul_one]; rfl
theorem src_rel {size n tx : Nat} {ti : TyI} {x : AV} {x' : Value} {l : List AV} (ht : TyOK P tx ti) (hk : (∃ e, ti.k = .slice e) ∨ ti.k = .string) (h : HR ρ σ w) (hx : VR ρ x x') (hn : lenOf x = some n) (hl : slCells σ size x = some l) (h1 : l.all oneCell = true) :
    ∃ news, VRL ρ l news ∧ Src P size tx x' n news w := by
  have hkind : (∃ e', P.underlying tx = some (.slice e')) ∨ P.underlying tx = some .string := by
    rcases hk with ⟨e, he⟩ | he
    · exact .inl ⟨e, ht.slice he⟩
    · exact .inr (ht.string he)
  cases hx <;> simp only [lenOf, slCells] at hn hl <;> try (cases hn; done)
  case str s =>
    split at hl
    · rename_i hs
      have hs : size = 1 := by simpa using hs
      subst hs
      simp at hl hn
      subst hl; subst hn
      refine ⟨byteCells s, bytesOf_rel ρ _, hkind, fun _ => rfl, firstCells_string s w, firstCells_string s w.drew, byteCells_len' s, fun u hu => ?_⟩
      obtain ⟨_, _, rfl⟩ := List.mem_map.1 hu
      rfl
    · cases hl
  case nils =>
    simp at hl hn; subst hl; subst hn
    exact ⟨[], .nil, hkind, fun _ => rfl, run_firstCells_none w size 0 0 0, run_firstCells_none w.drew size 0 0 0, by simp, by simp⟩
  case sl b o n' c e B d z c' hb hc hnn hz =>
    simp at hn; subst hn
    split at hl
    · rename_i hs
      have hs : e = size := by simpa using hs
      subst hs
      obtain ⟨hn, vs, hvs, hr⟩ := ldN_spec h hb hl
      have hlen : vs.length = n' * e := by rw [← hvs.length]; exact hn
      exact ⟨vs, hvs, hkind, fun _ => rfl, run_firstCells_some w e n' ⟨B, d + o, none⟩ n' c' vs hlen (rangeAt_cell hr), run_firstCells_some w.drew e n' ⟨B, d + o, none⟩ n' c' vs hlen (by simpa using rangeAt_cell hr), hlen, oneCells_rel hvs h1⟩
    · cases hl
  case esl ad c' =>
    simp at hl hn; subst hl; subst hn
    exact ⟨[], .nil, hkind, fun _ => rfl, run_firstCells_some w size 0 ad 0 c' [] (by simp) (by simp), run_firstCells_some w.drew size 0 ad 0 c' [] (by simp) (by simp), by simp, by simp⟩

theorem append_sound {t tx ty elem n : Nat} {te : TyI} {s x' v : _} {s' : Value} {l : List AV} {news : List Value} (ht : P.underlying t = some (.slice elem)) (hte : TyOK P elem te) (h : HR ρ σ w) (hs : VR ρ s s') (hl : VRL ρ l news) (hsrc : Src P te.size tx x' n news w)
    (hv : evAppend s elem te.size te.bytes n l σ = some (v, σ')) : ∃ v' w' ρ', (Builtin.append_ #[t, tx] ty #[s', x']).run P w = .ok v' w' ∧ VR ρ' v v' ∧ Post ρ σ w ρ' σ' w' := by
  obtain ⟨i, hi, hsz, hby, z, hz, hzr⟩ := hte.info
  have hzl : z.cells.size = te.size := by rw [← hte.zlen, (hzr ρ).length]; simp
  have hfits : ∀ k c, k * (te.bytes + 1) ≤ 1048576 → c < k → ((k : Nat) : Int) ≤ 9223372036854775807 ∧ Builtin.nextslicecap k c * i.bytes ≤ 281474976710656 := fun k c h1 h2 => by
    rw [Nat.mul_add, Nat.mul_one] at h1
    refine ⟨by omega, growslice_fits h2 ?_⟩
    rw [hby]; omega
  have hzc : ∀ k, (Builtin.zeroCells z.cells k).size = k * te.size := fun k => by simp [Builtin.zeroCells, hzl]
  have hnl : n = 0 → news = [] := fun e => by
    have := hsrc.newsLen; rw [e, Nat.zero_mul] at this
    exact List.eq_nil_of_length_eq_zero this
  rw [← hsz] at hsrc
  unfold evAppend at hv
  split at hv
  · -- nil
    generalize hq : s' = y at hs
    cases hs
    split at hv
    · rename_i h0
      have h0 : n = 0 := by simpa using h0
      have hn0 := hnl h0
      subst h0; subst hn0
      simp at hv
      obtain ⟨rfl, rfl⟩ := hv
      subst hq
      exact ⟨_, _, ρ, run_append_nothing (P := P) w t tx ty elem i ht hi none 0 0 (Nat.le_refl _) x' hsrc, .nils, .refl h⟩
    · rename_i h0
      have h0 : n ≠ 0 := fun e => h0 (by simpa using e)
      split at hv
      · rename_i hb
        have hb := ble_le hb
        simp at hv
        obtain ⟨rfl, rfl⟩ := hv
        subst hq
        obtain ⟨f1, f2⟩ := hfits n 0 hb (by omega)
        have hr := run_append_grow_src (P := P) w t tx ty elem i z ht hi hz none 0 0 [] (run_firstCells_none w.drew i.size 0 0 0) x' n news hsrc (by omega) (by simpa using f1) (by simpa using f2)
        have hp := new_row_more (vs := [] ++ news) h (by simpa using hl) (Builtin.zeroCells z.cells (grownCap w (0 + n) 0 elem - (0 + n))) elem
        refine ⟨_, _, _, hr, ?_, hp⟩
        · simp only [Nat.zero_add]
          refine .sl (d := 0) (upR_same ..) (fun x hx => by cases hx) (grownCap_ge ..) ?_
          rw [hzc, hl.length, hsrc.newsLen, hsz, Nat.zero_add]
          have := grownCap_ge w n 0 elem
          rw [← Nat.add_mul]
          apply Nat.mul_le_mul_right
          omega
      · cases hv
  · -- empty
    generalize hq : s' = y at hs
    cases hs with
    | @esl ad c' =>
    split at hv
    · rename_i h0
      have h0 : n = 0 := by simpa using h0
      have hn0 := hnl h0
      subst h0; subst hn0
      simp at hv
      obtain ⟨rfl, rfl⟩ := hv
      subst hq
      exact ⟨_, _, ρ, run_append_nothing (P := P) w t tx ty elem i ht hi (some ad) 0 c' (Nat.zero_le _) x' hsrc, .esl, .refl h⟩
    · cases hv
  · rename_i b o m c e
    have hs0 := hs
    obtain ⟨B, d, zz, c', hb, hc, hm, hzz, hq⟩ := hs.inv_sl
    subst hq
    split at hv
    · rename_i hse
      have hse : e = te.size := by simpa using hse
      subst hse
      split at hv
      · rename_i h0
        have h0 : n = 0 := by simpa using h0
        have hn0 := hnl h0
        subst h0; subst hn0
        simp at hv
        obtain ⟨rfl, rfl⟩ := hv
        exact ⟨_, _, ρ, run_append_nothing (P := P) w t tx ty elem i ht hi _ m c' hm x' hsrc, hs0, .refl h⟩
      · rename_i h0
        have h0 : n ≠ 0 := fun e => h0 (by simpa using e)
        split at hv
        · rename_i hbb
          have hbb := ble_le hbb
          have hnews := hsrc.newsLen
          rw [hsz] at hnews
          have grown : ∀ (old : List AV) (olds : List Value), VRL ρ old olds → olds.length = m * te.size → w.rangeAt B (d + o) olds → c' < m + n → ∀ (σ1 : St), Post ρ σ w ρ σ1 w → σ1.next = σ.next →
              ∃ v' w' ρ', (Builtin.append_ #[t, tx] ty #[.slice (some ⟨B, d + o, none⟩) m c', x']).run P w = .ok v' w' ∧ VR ρ' (.sl σ1.next 0 (m + n) none te.size) v' ∧ Post ρ σ w ρ' (σ1.new (.row (old ++ l) elem false)) w' := by
            intro old olds ho hol hr hlt σ1 hp hnx
            obtain ⟨f1, f2⟩ := hfits (m + n) c' hbb hlt
            have hrun := run_append_grow_src (P := P) w t tx ty elem i z ht hi hz (some ⟨B, d + o, none⟩) m c' olds (run_firstCells_some w.drew i.size m ⟨B, d + o, none⟩ m c' olds (by rw [hsz]; exact hol) (by simpa using rangeAt_cell hr)) x' n news hsrc hlt f1 f2
            refine ⟨_, _, _, hrun, ?_, hp.trans (new_row_more hp.hr (ho.append hl) _ elem)⟩
            refine .sl (d := 0) (upR_same ..) (fun x hx => by cases hx) (grownCap_ge ..) ?_
            rw [hzc, (ho.append hl).length, List.length_append, hol, hnews, Nat.zero_add]
            have := grownCap_ge w (m + n) c' elem
            rw [← Nat.add_mul, ← Nat.add_mul]
            apply Nat.mul_le_mul_right
            omega
          split at hv
          · rename_i cc
            have hcc := hc cc rfl
            subst hcc
            split at hv
            · rename_i hroom
              have hroom := ble_le hroom
              split at hv
              · rename_i σ1 hst
                simp at hv
                obtain ⟨rfl, rfl⟩ := hv
                obtain ⟨hp, hth, _⟩ := Post.store h hb hst hl
                have hoff : d + o + m * i.size = d + (o + m * te.size) := by rw [hsz]; omega
                have hrun := run_append_room_src (P := P) w t tx ty elem i ht hi B (d + o) m c' x' n news hsrc hroom (fun j hj => by rw [hoff]; exact (hth j hj).1) (fun j hj => by rw [hoff]; exact (hth j hj).2)
                rw [hoff] at hrun
                exact ⟨_, _, ρ, hrun, .sl hb hc hroom hzz, hp⟩
              · cases hv
            · rename_i hroom
              have hroom : c' < m + n := Nat.lt_of_not_le fun e => hroom (Nat.ble_eq_true_of_le e)
              split at hv
              · rename_i old hold
                simp at hv
                obtain ⟨rfl, rfl⟩ := hv
                obtain ⟨hn, vs, hvs, hr⟩ := ldN_spec h hb hold
                exact grown old vs hvs (by rw [← hvs.length]; exact hn) hr hroom σ (.refl h) rfl
              · cases hv
          · split at hv
            · rename_i cells e' hg
              simp only [] at hv
              split at hv
              · rename_i hol
                simp only [Bool.and_eq_true] at hol
                obtain ⟨hol, hee, ho0⟩ := hol
                have ho0 : o = 0 := by simpa using ho0
                have hee : e' = elem := by simpa using hee
                subst hee
                have hol : ((cells.drop o).take (m * te.size)).length = m * te.size := by simpa using hol
                simp at hv
                obtain ⟨rfl, rfl⟩ := hv
                have hbn : b < σ.next := h.dom _ _ hb
                have hld : ldN σ b o (m * te.size) = some ((cells.drop o).take (m * te.size)) := by
                  unfold ldN
                  rw [hg]
                  simp only []
                  rw [if_pos (by rw [hol]; simp)]
                obtain ⟨hn, vs, hvs, hr⟩ := ldN_spec h hb hld
                by_cases hroom : m + n ≤ c'
                · have hzle : o + m * te.size + news.length ≤ zz := by
                    have : (m + n) * te.size ≤ c' * te.size := Nat.mul_le_mul_right _ hroom
                    rw [Nat.add_mul] at this
                    omega
                  obtain ⟨hp, hth⟩ := Post.grow h hb hg hol hl hzle ho0
                  have hrun := run_append_room_src (P := P) w t tx ty _ i ht hi B (d + o) m c' x' n news hsrc hroom (fun j hj => by rw [hsz]; exact (hth j hj).1) (fun j hj => by rw [hsz]; exact (hth j hj).2)
                  rw [hsz] at hrun
                  refine ⟨_, _, _, hrun, ?_, hp⟩
                  have : VR (upR ρ σ.next (B, d + o, zz - o)) (.sl σ.next 0 (m + n) none te.size) (.slice (some ⟨B, d + o + 0, none⟩) (m + n) c') :=
                    .sl (upR_same ..) (fun x hx => by cases hx) hroom (by omega)
                  exact this
                · exact grown _ vs hvs (by rw [← hvs.length]; exact hn) hr (by omega) (σ.upd b .dead) (.kill h hbn) rfl
              · cases hv
            · cases hv
        · cases hv
    · cases hv
  · cases hv

theorem copy_sound {t tx ty elem n m k : Nat} {te : TyI} {d : AV} {d' x' : Value} {l : List AV} {news : List Value} (ht : P.underlying t = some (.slice elem)) (hte : TyOK P elem te) (h : HR ρ σ w) (hl : VRL ρ l news) (hsrc : Src P te.size tx x' m news w)
    (hd : VR ρ d d') (hn : lenOf d = some n) (hk : k = min m n)
    (hv : (k = 0 ∧ σ' = σ) ∨ ∃ b o c e, d = .sl b o n c e ∧ stN σ b o (l.take (k * te.size)) = some σ')
    (hfc : (Builtin.firstCells te.size k x').run P w = .ok (news.take (k * te.size)).toArray w) (hds : ∃ da dn dc, d' = .slice da dn dc) :
    ∃ w' , (Builtin.copy_ #[t, tx] ty #[d', x']).run P w = .ok (.int .i64 k) w' ∧ Post ρ σ w ρ σ' w' := by
  obtain ⟨i, hi, hsz, hby, z, hz, hzr⟩ := hte.info
  have hmin : Nat.min m n = k := hk.symm
  rcases hv with ⟨h0, rfl⟩ | ⟨b, o, c, e, rfl, hst⟩
  · subst h0
    refine ⟨w, ?_, .refl h⟩
    obtain ⟨da, dn, dc, rfl⟩ := hds
    have hdn : dn = n := by cases hd <;> simp [lenOf] at hn <;> first | exact hn | exact hn.symm
    subst hdn
    simp at hfc
    cases da <;> simp [Builtin.copy_, run_underlying ht, hsrc.len, sizeOf, typeInfo, hi, hsz, hmin, hfc, storeCells, goInt]
  · obtain ⟨B, d0, zz, c', hb, hc, hm, hzz, rfl⟩ := hd.inv_sl
    obtain ⟨hp, hth, h1⟩ := Post.store h hb hst (hl.take _)
    have hrun := run_storeCells_cells (P := P) B (d0 + o) (news.take (k * te.size)) 0 w (fun j hj => by simpa using (hth j hj).1) (fun j hj => by simpa using (hth j hj).2) h1
    simp only [Nat.add_zero] at hrun
    refine ⟨_, ?_, hp⟩
    simp [Builtin.copy_, run_underlying ht, hsrc.len, sizeOf, typeInfo, hi, hsz, hmin, hfc, hrun, goInt]
end Go.Ev
end
