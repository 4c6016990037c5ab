/- The law of this seat holds of every input: a part of the proof (an evaluator that is proved to answer as the model does, and its runs by the kernel). -/
import Derived.Test.YtaomoiphkcbnkaaGreatDoorEvSl
import Derived.Lib.Builder
import Derived.Lib.UnsafeStr
import Derived.Laws.BytesString
import Derived.Laws.Cover4
set_option linter.unusedVariables false
set_option linter.unusedSimpArgs false
namespace Go.Ev
variable {P : Program} {E : Env} {ρ : Rho} {σ σ' : St} {w : World} {fv : Operand → AV} {a : Act}

theorem map_one {α β : Type} {f : α → β} {l : Array α} {x : β} (h : l.toList.map f = [x]) : ∃ p, l = #[p] ∧ f p = x := by
  obtain ⟨l⟩ := l
  match l, h with
  | [p], h => simp at h; exact ⟨p, rfl, h⟩
theorem map_two {α β : Type} {f : α → β} {l : Array α} {x y : β} (h : l.toList.map f = [x, y]) : ∃ p q, l = #[p, q] ∧ f p = x ∧ f q = y := by
  obtain ⟨l⟩ := l
  match l, h with
  | [p, q], h => simp at h; exact ⟨p, q, rfl, h.1, h.2⟩
theorem toList_one {α : Type} {l : Array α} {x : α} (h : l.toList = [x]) : l = #[x] := by obtain ⟨l⟩ := l; simp at h; rw [h]
theorem toList_two {α : Type} {l : Array α} {x y : α} (h : l.toList = [x, y]) : l = #[x, y] := by obtain ⟨l⟩ := l; simp at h; rw [h]

theorem builtin_run {o : Oper} {c : Call} {b : Builtin} (ho : o.op = .call c) (hc : c.callee = .builtin b) :
    (execOp a.eval o).run P w = (builtin b c.argTypes o.type (c.args.map fun | .const _ => true | _ => false) (c.args.map a.eval)).run P w := by
  simp [execOp, ho, resolve, hc, invoke]
  rfl

theorem len_rel {x : AV} {x' : Value} {n : Nat} (hx : VR ρ x x') (h : lenOf x = some n) : (∃ s : ByteArray, x = .str s.data.toList ∧ x' = .string s ∧ s.size = n) ∨ (∃ b c, x' = .slice b n c) := by
  cases hx <;> simp [lenOf] at h
  · rename_i s; subst h; exact .inl ⟨s, rfl, rfl, rfl⟩
  · subst h; exact .inr ⟨_, _, rfl⟩
  · subst h; exact .inr ⟨_, _, rfl⟩
  · subst h; exact .inr ⟨_, _, rfl⟩

theorem slLen_rel {x : AV} {x' : Value} {n : Nat} (hx : VR ρ x x') (h : slLen x = some n) : lenOf x = some n ∧ ∃ b c, x' = .slice b n c := by
  cases hx <;> simp [slLen] at h
  · subst h; exact ⟨rfl, _, _, rfl⟩
  · subst h; exact ⟨rfl, _, _, rfl⟩
  · subst h; exact ⟨rfl, _, _, rfl⟩
theorem first_take {size m : Nat} {x : AV} {x' : Value} {l : List AV} {news : List Value} (h : HR ρ σ w) (hx : VR ρ x x') (hn : lenOf x = some m) (hl : slCells σ size x = some l) (hln : news.length = m * size)
    (hc : (Builtin.firstCells size m x').run P w = .ok news.toArray w) (k : Nat) (hk : k ≤ m) : (Builtin.firstCells size k x').run P w = .ok (news.take (k * size)).toArray w := by
  cases hx <;> simp only [lenOf, slCells] at hn hl <;> try (cases hn; done)
  case str s =>
    split at hl
    · rename_i hs
      have hs : size = 1 := by simpa using hs
      subst hs
      simp [Builtin.firstCells] at hc ⊢
      have hc' : news = (s.extract 0 m).data.toList.map fun b => Value.int .u8 b.toNat := by
        have := congrArg Array.toList hc
        simpa using this.symm
      rw [hc', ← List.map_take]
      apply Array.ext'
      simp [ByteArray.data_extract, List.extract_eq_take_drop, List.take_take]
      congr 2
      have : m = s.size := by injection hn with hn; exact hn.symm
      omega
    · cases hl
  case nils => simp at hn; subst hn; simp [Builtin.firstCells] at hc ⊢; rw [← hc]; simp
  case esl ad c' =>
    simp at hn; subst hn
    have : k = 0 := by omega
    subst this
    simp [Builtin.firstCells]
    exact run_firstCells_some w 0 0 ad 0 c' [] (by simp) (by simp)
  case sl b o n' c e B d z c' hb hc0 hnn hz =>
    simp at hn; subst hn
    split at hl
    · rename_i hs
      have hs : e = size := by simpa using hs
      subst hs
      obtain ⟨hn, vs, hvs, hr⟩ := ldN_spec h hb hl
      have hlen : vs.length = n' * e := by rw [← hvs.length]; exact hn
      have h1 := run_firstCells_some (P := P) w e n' ⟨B, d + o, none⟩ n' c' vs hlen (rangeAt_cell hr)
      rw [h1] at hc
      have hvn : vs = news := by simpa using hc
      subst hvn
      have hle : k * e ≤ n' * e := Nat.mul_le_mul_right _ hk
      have h2 := run_firstCells_some (P := P) w e k ⟨B, d + o, none⟩ n' c' (vs.take (k * e)) (by rw [List.length_take]; omega) (fun j v hj => rangeAt_cell hr j v (by
        rw [List.getElem?_take] at hj
        split at hj
        · exact hj
        · cases hj))
      exact h2
    · cases hl

theorem toBytes_rel : ∀ {l : List AV} {vs : List Value} {s : List UInt8}, VRL ρ l vs → toBytes l = some s → vs = s.map (fun b => Value.int .u8 b.toNat) ∧ l.length = s.length
  | [], _, _, .nil, h => by simp [toBytes] at h; subst h; exact ⟨rfl, rfl⟩
  | v :: l, _, s, .cons hv hl, h => by
    cases hv <;> (try simp only [toBytes] at h) <;> try (cases h; done)
    rename_i k n
    cases k <;> (try simp only [toBytes] at h) <;> try (cases h; done)
    split at h
    · rename_i hn
      split at h
      · rename_i s' hs'
        simp at h; subst h
        obtain ⟨h1, h2⟩ := toBytes_rel hl hs'
        refine ⟨?_, by simp [h2]⟩
        rw [h1]
        simp only [List.map_cons, List.cons.injEq, and_true]
        congr 1
        have : (UInt8.ofNat n.toNat).toNat = n.toNat := by simp; omega
        rw [this]; omega
      · cases h
    · cases h

theorem cell_lt {w : World} {B j e zz : Nat} {v : Value} (h : w.cell? ⟨B, j, none⟩ = some v) (hs : w.shape? B = some (e, zz)) : j < zz := by
  unfold World.cell? at h
  unfold World.shape? at hs
  revert h hs
  cases w.heap[B]? with
  | none => simp
  | some x =>
    cases x <;> simp
    intro h1 h2 h3
    rw [← h3]
    exact (Array.getElem?_eq_some_iff.1 h1).1

theorem step_builtin {o : Oper} {c : Call} {b : Builtin} {v : AV} (hE : EnvOK P E) (ho : o.op = .call c) (hc : c.callee = .builtin b) (hf : VlR ρ fv a) (h : HR ρ σ w)
    (hv : evBuiltin E b c.argTypes.toList (c.args.toList.map fv) σ = some (v, σ')) : Does P o a ρ σ w v σ' := by
  have hrun := builtin_run (P := P) (w := w) (a := a) ho hc
  generalize hT : c.argTypes.toList = T at hv
  generalize hA : c.args.toList.map fv = A at hv
  unfold evBuiltin at hv
  split at hv
  · -- len
    rename_i t x
    have hT := toList_one hT
    obtain ⟨p, hp, hx⟩ := map_one hA
    have hx' := hf.eval p
    rw [hx] at hx'
    split at hv
    · cases hv
    rename_i ti hty
    have ht := hE.ty _ _ hty
    have fin : ∀ b' n c', P.underlying t = some (.slice b') → ∀ b2, a.eval p = .slice b2 n c' → Does P o a ρ σ w (.int .i64 n) σ := fun b' n c' hu b2 he => by
      refine .same h (v' := .int .i64 n) ?_ (.int _ _)
      rw [hrun, hT, hp]
      simp [builtin, Builtin.len_, run_underlying hu, goInt, he]
    split at hv
    · rename_i n e hk
      simp at hv; obtain ⟨rfl, rfl⟩ := hv
      refine .same h (v' := .int .i64 n) ?_ (.int _ _)
      rw [hrun, hT, hp]
      simp [builtin, Builtin.len_, run_underlying (ht.arr hk), goInt]
    · rename_i s hk
      simp at hv; obtain ⟨rfl, rfl⟩ := hv
      obtain ⟨sb, he, hsb⟩ := hx'.inv_str
      refine .same h (v' := .int .i64 s.length) ?_ (.int _ _)
      rw [hrun, hT, hp]
      have : sb.size = s.length := by rw [← hsb]; rfl
      simp [builtin, Builtin.len_, run_underlying (ht.string hk), goInt, he, this]
    · rename_i e hk
      simp at hv; obtain ⟨rfl, rfl⟩ := hv
      exact fin e 0 0 (ht.slice hk) none (by generalize a.eval p = y at hx'; cases hx'; rfl)
    · rename_i e hk
      simp at hv; obtain ⟨rfl, rfl⟩ := hv
      generalize he : a.eval p = y at hx'
      cases hx' with
      | @esl ad c' => exact fin e 0 c' (ht.slice hk) (some ad) he
    · rename_i e b0 o0 n0 c0 e0 hk
      simp at hv; obtain ⟨rfl, rfl⟩ := hv
      obtain ⟨B, d, z, c', hb, hcc, hnc, hz, he⟩ := hx'.inv_sl
      exact fin e _ c' (ht.slice hk) _ he
    · cases hv
  · -- cap
    rename_i t x
    have hT := toList_one hT
    obtain ⟨p, hp, hx⟩ := map_one hA
    have hx' := hf.eval p
    rw [hx] at hx'
    split at hv
    · cases hv
    rename_i ti hty
    have ht := hE.ty _ _ hty
    split at hv
    · rename_i e hk
      simp at hv; obtain ⟨rfl, rfl⟩ := hv
      have he : a.eval p = .slice none 0 0 := by generalize a.eval p = y at hx'; cases hx'; rfl
      refine .same h (v' := .int .i64 0) ?_ (.int _ _)
      rw [hrun, hT, hp]
      simp [builtin, Builtin.cap_, run_underlying (ht.slice hk), goInt, he]
    · rename_i e b0 o0 n0 c0 e0 hk
      simp at hv; obtain ⟨rfl, rfl⟩ := hv
      obtain ⟨B, d, z, c', hb, hcc, hnc, hz, he⟩ := hx'.inv_sl
      refine .same h (v' := .int .i64 c0) ?_ (.int _ _)
      rw [hrun, hT, hp]
      simp [builtin, Builtin.cap_, run_underlying (ht.slice hk), goInt, he, hcc c0 rfl]
    · cases hv
  · -- append
    rename_i t u s x
    have hT := toList_two hT
    obtain ⟨p, q, hp, hs, hx⟩ := map_two hA
    have hs' := hf.eval p
    rw [hs] at hs'
    have hx' := hf.eval q
    rw [hx] at hx'
    split at hv
    · rename_i ti tu hty htu
      have ht := hE.ty _ _ hty
      have htu := hE.ty _ _ htu
      split at hv
      · rename_i elem hk
        split at hv
        · rename_i te hte
          have hte := hE.ty _ _ hte
          have fin : ∀ (hk2 : (∃ e, tu.k = .slice e) ∨ tu.k = .string) (n : Nat) (l : List AV) (hn : lenOf x = some n) (hl : slCells σ te.size x = some l) (h1 : l.all oneCell = true) (hv : evAppend s elem te.size te.bytes n l σ = some (v, σ')), Does P o a ρ σ w v σ' := fun hk2 n l hn hl h1 hv => by
            obtain ⟨news, hnews, hsrc⟩ := src_rel (P := P) htu hk2 h hx' hn hl h1
            obtain ⟨v', w', ρ', h1, h2, h3⟩ := append_sound (P := P) (ty := o.type) (ht.slice hk) hte h hs' hnews hsrc hv
            refine ⟨v', w', ρ', .inl ?_, h2, h3⟩
            rw [hrun, hT, hp]
            simp [builtin, h1]
          split at hv
          · rename_i e hk2
            split at hv
            · rename_i n l hn hl
              split at hv
              · rename_i h1
                exact fin (.inl ⟨e, hk2⟩) n l hn hl h1 hv
              · cases hv
            · cases hv
          · rename_i hk2
            split at hv
            · rename_i n l hn hl
              split at hv
              · rename_i h1
                exact fin (.inr hk2) n l hn hl h1 hv
              · cases hv
            · cases hv
          · cases hv
        · cases hv
      · cases hv
    · cases hv
  · -- copy
    rename_i t u d x
    have hT := toList_two hT
    obtain ⟨p, q, hp, hd, hx⟩ := map_two hA
    have hd' := hf.eval p
    rw [hd] at hd'
    have hx' := hf.eval q
    rw [hx] at hx'
    split at hv
    · rename_i ti tu hty htu
      have ht := hE.ty _ _ hty
      have htu := hE.ty _ _ htu
      split at hv
      · rename_i elem hk
        split at hv
        · rename_i te hte
          have hte := hE.ty _ _ hte
          have fin : ∀ (hk2 : (∃ e, tu.k = .slice e) ∨ tu.k = .string) (n m : Nat) (l : List AV) (hn : slLen d = some n) (hm : lenOf x = some m) (hl : slCells σ te.size x = some l) (h1 : l.all oneCell = true)
              (hv : (if Nat.beq (min m n) 0 then some (.int .i64 0, σ) else
                match d with
                | .sl b o _ _ e => if Nat.beq e te.size then (match stN σ b o (l.take (min m n * te.size)) with
                  | some σ' => some (.int .i64 (min m n : Nat), σ')
                  | none => none) else none
                | _ => none) = some (v, σ')), Does P o a ρ σ w v σ' := fun hk2 n m l hn hm hl h1 hv => by
            obtain ⟨news, hnews, hsrc⟩ := src_rel (P := P) htu hk2 h hx' hm hl h1
            have hfc := first_take (P := P) h hx' hm hl hsrc.newsLen hsrc.cells (min m n) (Nat.min_le_left ..)
            obtain ⟨hn, b', c', he⟩ := slLen_rel hd' hn
            split at hv
            · rename_i h0
              have h0 : min m n = 0 := by simpa using h0
              simp at hv; obtain ⟨rfl, rfl⟩ := hv
              obtain ⟨w', h2, h3⟩ := copy_sound (P := P) (tx := u) (ty := o.type) (k := min m n) (σ' := σ) (ht.slice hk) hte h hnews hsrc hd' hn rfl (.inl ⟨h0, rfl⟩) hfc ⟨b', n, c', he⟩
              refine ⟨.int .i64 ((min m n : Nat) : Int), w', ρ, .inl ?_, ?_, h3⟩
              · rw [hrun, hT, hp]
                simp only [builtin, Sem.run_bind, Array.map]
                simp [h2]
              · rw [h0]; exact .int _ _
            · split at hv
              · rename_i b0 o0 n0 c0 e0 _ _
                split at hv
                · split at hv
                  · rename_i σ1 hst
                    simp at hv; obtain ⟨rfl, rfl⟩ := hv
                    obtain ⟨w', h2, h3⟩ := copy_sound (P := P) (tx := u) (ty := o.type) (k := min m n) (σ' := σ1) (ht.slice hk) hte h hnews hsrc hd' hn rfl (.inr ⟨b0, o0, c0, e0, by simp [lenOf] at hn; rw [hn], hst⟩) hfc ⟨b', n, c', he⟩
                    refine ⟨.int .i64 ((min m n : Nat) : Int), w', ρ, .inl ?_, ?_, h3⟩
                    · rw [hrun, hT, hp]
                      simp [builtin]
                      simp [h2]
                    · have : VR ρ (.int .i64 ((min m n : Nat) : Int)) (.int .i64 ((min m n : Nat) : Int)) := .int _ _
                      simpa using this
                  · cases hv
                · cases hv
              · cases hv
          split at hv
          · rename_i e hk2
            split at hv
            · rename_i n m l hn hm hl
              split at hv
              · rename_i h1
                exact fin (.inl ⟨e, hk2⟩) n m l hn hm hl h1 hv
              · cases hv
            · cases hv
          · rename_i hk2
            split at hv
            · rename_i n m l hn hm hl
              split at hv
              · rename_i h1
                exact fin (.inr hk2) n m l hn hm hl h1 hv
              · cases hv
            · cases hv
          · cases hv
        · cases hv
      · cases hv
    · cases hv
  · -- min
    rename_i k x k2 y
    obtain ⟨p, q, hp, hx, hy⟩ := map_two hA
    have hx' := hf.eval p
    rw [hx] at hx'
    have hy' := hf.eval q
    rw [hy] at hy'
    simp at hv; obtain ⟨rfl, rfl⟩ := hv
    refine .same h (v' := .int k (if y < x then y else x)) ?_ (.int _ _)
    rw [hrun, hp]
    simp [builtin, Builtin.min_, Builtin.min2, hx'.inv_int, hy'.inv_int]
  · -- max
    rename_i k x k2 y
    obtain ⟨p, q, hp, hx, hy⟩ := map_two hA
    have hx' := hf.eval p
    rw [hx] at hx'
    have hy' := hf.eval q
    rw [hy] at hy'
    simp at hv; obtain ⟨rfl, rfl⟩ := hv
    refine .same h (v' := .int k (if x < y then y else x)) ?_ (.int _ _)
    rw [hrun, hp]
    simp [builtin, Builtin.max_, Builtin.max2, hx'.inv_int, hy'.inv_int]
  · -- unsafe.SliceData of nil
    obtain ⟨p, hp, hx⟩ := map_one hA
    have hx' := hf.eval p
    rw [hx] at hx'
    simp at hv; obtain ⟨rfl, rfl⟩ := hv
    have he : a.eval p = .slice none 0 0 := by generalize a.eval p = y at hx'; cases hx'; rfl
    refine .same h (v' := .pointer none) ?_ .nilp
    rw [hrun, hp]
    have : Builtin.unsafeSliceData_ c.argTypes o.type #[.slice none 0 0] = (pure (.pointer none) : Sem Value) := rfl
    simp [builtin, he, this]
  · rename_i b0 o0 n0 c0 e0
    obtain ⟨p, hp, hx⟩ := map_one hA
    have hx' := hf.eval p
    rw [hx] at hx'
    obtain ⟨B, d, z, c', hb, hcc, hnc, hz, he⟩ := hx'.inv_sl
    split at hv
    · cases hv
    · rename_i h0
      have h0 : n0 ≠ 0 := fun e => h0 (by simpa using e)
      simp at hv; obtain ⟨rfl, rfl⟩ := hv
      refine .same h (v' := .pointer (some ⟨B, d + o0, none⟩)) ?_ (.ptr hb)
      rw [hrun, hp]
      have : c' ≠ 0 := by omega
      have hd : Builtin.unsafeSliceData_ c.argTypes o.type #[.slice (some ⟨B, d + o0, none⟩) n0 c'] = (do
        if c' ≠ 0 then pure (.pointer (some ⟨B, d + o0, none⟩))
        else if (← viewAt B).isSome then pure (.pointer (some ⟨B, d + o0, none⟩))
        else pure (.pointer (some ⟨← newObj (.view ⟨B, d + o0, none⟩ (← elemOf o.type)), 0, none⟩)) : Sem Value) := rfl
      simp [builtin, he, hd, this]
  · -- unsafe.String
    rename_i pt it
    have hT := toList_two hT
    obtain ⟨p, q, hp, hx, hy⟩ := map_two hA
    have hx' := hf.eval p
    rw [hx] at hx'
    have hy' := hf.eval q
    rw [hy] at hy'
    simp at hv; obtain ⟨rfl, rfl⟩ := hv
    have he : a.eval p = .pointer none := by generalize a.eval p = y at hx'; cases hx'; rfl
    refine .same h (v' := .string .empty) ?_ (.str .empty)
    rw [hrun, hp, hT]
    have := Go.Lib.run_unsafeString_none (P := P) w pt it o.type none
    simp [builtin, he, hy'.inv_int, this]
  · rename_i pt it b0 n
    have hT := toList_two hT
    obtain ⟨p, q, hp, hx, hy⟩ := map_two hA
    have hx' := hf.eval p
    rw [hx] at hx'
    have hy' := hf.eval q
    rw [hy] at hy'
    obtain ⟨B, d, z, hb, he⟩ := hx'.inv_ptr
    split at hv
    · cases hv
    · rename_i hn0
      simp only [not_or] at hn0
      split at hv
      · cases hv
      rename_i tp hpt
      have hpt := hE.ty _ _ hpt
      split at hv
      · rename_i u hku
        split at hv
        · rename_i cells e tu hg htu
          have htu := hE.ty _ _ htu
          split at hv
          · rename_i hh
            simp only [Bool.and_eq_true] at hh
            have hu : e = u := by simpa using hh.1
            have hsz : tu.size = 1 := by simpa using hh.2
            subst hu
            split at hv
            · rename_i l hl
              split at hv
              · rename_i s hs
                simp at hv; obtain ⟨rfl, rfl⟩ := hv
                obtain ⟨hln, vs, hvs, hr⟩ := ldN_spec h hb hl
                obtain ⟨hv2, hls⟩ := toBytes_rel hvs hs
                obtain ⟨a1, a2, a3⟩ := h.row b0 B d z cells e false hb hg
                have hhas := a3 rfl
                obtain ⟨zz, hsh⟩ := hhas.shape
                have hd0 := hhas.d0
                subst hd0
                have hsn : s.length = n.toNat := by rw [← hls]; exact hln
                have hcell : ∀ j x, s[j]? = some x → w.cell? ((⟨B, 0, none⟩ : Addr).add j) = some (.int .u8 x.toNat) := fun j x hj => by
                  have := rangeAt_cell hr j (.int .u8 x.toNat) (by rw [hv2, List.getElem?_map, hj]; rfl)
                  simpa using this
                have hle : s.length ≤ zz := by
                  rcases Nat.eq_zero_or_pos s.length with h0 | h0
                  · omega
                  · have hj : s[s.length - 1]? = some s[s.length - 1] := List.getElem?_eq_getElem (by omega)
                    have := hcell _ _ hj
                    rw [Addr.add_mid] at this
                    have := cell_lt this hsh
                    omega
                obtain ⟨d1, hd1, hk1⟩ := hpt.kind
                rw [hku] at hk1
                have hpu : P.underlying pt = some (.pointer e) := by
                  cases d1 <;> simp [KOK] at hk1
                  subst hk1; exact hd1
                have hcs : P.cellsOf e = 1 := by
                  obtain ⟨i, hi, hs1, _⟩ := htu.info
                  simp [Program.cellsOf, hi, hs1, hsz]
                have h63 : s.length ≤ 9223372036854775807 := by omega
                have hrs := Go.Lib.run_unsafeString_row (P := P) w pt it o.type e hpu hcs B zz hsh s (by intro e0; rw [e0] at hsn; simp at hsn; omega) hle h63 hcell
                have hn : (s.length : Int) = n := by rw [hsn]; omega
                rw [hn] at hrs
                refine ⟨.string ⟨s.toArray⟩, _, ρ, .inl ?_, ?_, Post.freeze h hb hg ⟨B, 0, none⟩ s.length rfl rfl⟩
                · rw [hrun, hp, hT]
                  simp [builtin, he, hy'.inv_int, hrs]
                · have := VR.str (ρ := ρ) ⟨s.toArray⟩
                  simpa using this
              · cases hv
            · cases hv
          · cases hv
        · cases hv
      · cases hv
  · cases hv
end Go.Ev
