/- The law of this seat holds of every input: a part of the proof (an evaluator that is proved to answer as the model does, and its runs by the kernel). -/
import Derived.Test.YtaomoiphkcbnkaaGreatDoorEvBi
set_option linter.unusedVariables false
set_option linter.unusedSimpArgs false
namespace Go.Ev
variable {P : Program} {E : Env} {ρ : Rho} {σ σ' : St} {w : World} {fv : Operand → AV} {a : Act}

theorem kInt_under {t : Nat} {k : IntKind} (hE : EnvOK P E) (h : kInt E t = some k) : P.underlying t = some (.int k) ∧ ∃ ti, E.ty t = some ti ∧ ti.k = .int k := by
  unfold kInt at h
  split at h
  · rename_i ti hti
    split at h
    · rename_i k' hk
      simp at h; subst h
      exact ⟨(hE.ty _ _ hti).int hk, ti, hti, hk⟩
    · cases h
  · cases h
theorem foldl_push : ∀ (s : List UInt8) (r : ByteArray), (((s.map fun b => (b.toNat : Int)).foldl (fun r n => r.push (UInt8.ofNat n.toNat)) r).data.toList) = r.data.toList ++ s
  | [], r => by simp
  | b :: s, r => by
    simp only [List.map_cons, List.foldl_cons]
    rw [foldl_push s]
    simp [ByteArray.push]
theorem foldl_runes : ∀ (ns : List Int) (r : ByteArray), (ns.foldl (fun r n => r ++ Utf8.encode n) r).data.toList = r.data.toList ++ (ns.foldl (fun r n => r ++ Utf8.encode n) ByteArray.empty).data.toList
  | [], r => by simp
  | n :: ns, r => by
    simp only [List.foldl_cons]
    rw [foldl_runes ns, foldl_runes ns (ByteArray.empty ++ Utf8.encode n)]
    simp
theorem runesToS_rel : ∀ {l : List AV} {vs : List Value} {s : List UInt8}, VRL ρ l vs → runesToS l = some s → ∃ ns : List Int, vs = ns.map (Value.int .i32) ∧ (runesBytes ns).data.toList = s
  | [], _, _, .nil, h => by simp [runesToS] at h; subst h; exact ⟨[], rfl, rfl⟩
  | v :: l, _, s, .cons hv hl, h => by
    cases hv <;> (try simp only [runesToS] at h) <;> try (cases h; done)
    rename_i k n
    cases k <;> (try simp only [runesToS] at h) <;> try (cases h; done)
    split at h
    · rename_i s' hs'
      simp at h; subst h
      obtain ⟨ns, h1, h2⟩ := runesToS_rel hl hs'
      refine ⟨n :: ns, by rw [h1]; rfl, ?_⟩
      unfold runesBytes at h2 ⊢
      simp only [List.foldl_cons]
      rw [foldl_runes, h2]
      simp
    · cases h

/-- a slice's bytes (or runes), all read -/
theorem sl_load {x : AV} {x' : Value} {n : Nat} {l : List AV} (h : HR ρ σ w) (hx : VR ρ x x') (hn : slLen x = some n) (hl : slCells σ 1 x = some l) :
    (x' = .slice none 0 0 ∧ l = []) ∨ ∃ ad c vs, x' = .slice (some ad) n c ∧ VRL ρ l vs ∧ (loadCells ad n).run P w = .ok vs.toArray w := by
  cases hx <;> simp only [slLen, slCells] at hn hl <;> try (cases hn; done)
  case nils => simp at hl; subst hl; exact .inl ⟨rfl, rfl⟩
  case esl ad c' =>
    simp at hl hn; subst hl; subst hn
    exact .inr ⟨ad, c', [], rfl, .nil, run_loadCells_list (P := P) w ad [] (by simp)⟩
  case sl b o n' c e B d z c' hb hc hnn hz =>
    simp at hn; subst hn
    split at hl
    · rename_i hs
      have hs : e = 1 := by simpa using hs
      subst hs
      obtain ⟨hn, vs, hvs, hr⟩ := ldN_spec h hb hl
      have hlen : vs.length = n' := by rw [← hvs.length, hn]; omega
      refine .inr ⟨_, _, vs, rfl, hvs, ?_⟩
      rw [← hlen]
      exact run_loadCells_list (P := P) w ⟨B, d + o, none⟩ vs (rangeAt_cell hr)
    · cases hl

theorem alloc_freeze (w : World) (arr : Array Value) (e n : Nat) : (((w.alloc (.cells arr e)).freeze ⟨w.heap.size, n, none⟩ 1).heap) = w.heap.push (.cells arr e (n, n + 1)) := by
  unfold World.freeze
  rw [if_neg (by decide)]
  apply Array.ext_getElem?
  intro i
  show ((w.heap.push _).modify w.heap.size _)[i]? = _
  rw [Array.getElem?_modify, Array.getElem?_push, Array.getElem?_push]
  by_cases h : w.heap.size = i
  · subst h; simp
  · rw [if_neg h]
    by_cases h2 : i = w.heap.size
    · exact absurd h2.symm h
    · rw [if_neg h2, if_neg h2]

def bArr (s : ByteArray) (cap : Nat) : Array Value := (s.data.map fun (b : UInt8) => Value.int .u8 b.toNat) ++ Array.replicate cap (Value.int .u8 0)
theorem bArr_size (s : ByteArray) (cap : Nat) : (bArr s cap).size = s.size + cap := by simp [bArr]
theorem bytes_row {s : ByteArray} (h : HR ρ σ w) (e cap : Nat) :
    Post ρ σ w (upR ρ σ.next (w.heap.size, 0, s.size + cap)) (σ.new (.row (bytesOf s.data.toList) e false)) ((w.drew.alloc (.cells (bArr s cap) e)).freeze ⟨w.heap.size, s.size + cap, none⟩ 1) := by
  have hheap : ((w.drew.alloc (.cells (bArr s cap) e)).freeze ⟨w.heap.size, s.size + cap, none⟩ 1).heap = w.heap.push (.cells (bArr s cap) e (s.size + cap, s.size + cap + 1)) := alloc_freeze w.drew (bArr s cap) e (s.size + cap)
  have hsz := bArr_size s cap
  have hbl : (bytesOf s.data.toList).length = s.size := by simp [bytesOf]
  have hcell : ∀ j, ((w.drew.alloc (.cells (bArr s cap) e)).freeze ⟨w.heap.size, s.size + cap, none⟩ 1).cell? ⟨w.heap.size, j, none⟩ = (bArr s cap)[j]? := fun j => by
    rw [freeze_cell]
    show (w.drew.alloc (.cells (bArr s cap) e)).cell? ⟨w.drew.heap.size, j, none⟩ = _
    rw [World.cell?_alloc_at _ _ _ _ rfl]
  refine Post.new h (.row (bytesOf s.data.toList) e false) (.cells (bArr s cap) e (s.size + cap, s.size + cap + 1)) (s.size + cap) hheap rfl rfl rfl ⟨fun j v hj => ?_, by rw [hbl]; omega, rfl, fun j hj => ⟨?_, ?_⟩, s.size + cap, ?_⟩
  · obtain ⟨v', h1, h2⟩ := (bytesOf_rel ρ s.data.toList).get j v hj
    refine ⟨v', ?_, h2⟩
    rw [hcell, bArr, Array.getElem?_append_left]
    · simpa using h1
    · have := (List.getElem?_eq_some_iff.1 h1).1
      simpa using this
  · rw [Nat.zero_add, hcell, Array.getElem?_eq_getElem (by rw [hsz]; exact hj)]
    rfl
  · rw [Nat.zero_add]
    unfold World.frozen?
    rw [hheap, Array.getElem?_push_size]
    simp; omega
  · unfold World.shape?
    rw [hheap, Array.getElem?_push_size]
    simp only [hsz]

theorem liesAt_self {e : TypeId} (hc : P.cellsOf e ≠ 0) (count : Nat) (hn : 1 ≤ count) : liesAt P P.depth e count 0 e 1 = true := by
  have hd : P.depth = (2 * (P.types.size + Made.depth) + 1) + 1 := rfl
  rw [hd]
  simp only [liesAt, Bool.or_eq_true]
  left
  rw [hd]
  simp [rowAt, hc, hn, sameLayout]

theorem step_convert {o : Oper} {s d : Nat} {x : Operand} {v : AV} (hE : EnvOK P E) (ho : o.op = .convert s d x) (hf : VlR ρ fv a) (h : HR ρ σ w) (hv : convert E s d (fv x) σ = some (v, σ')) : Does P o a ρ σ w v σ' := by
  have hx := hf.eval x
  have hrun : (execOp a.eval o) = (do pure (Next.value (← Go.convert s d (a.eval x))) : Sem Next) := by simp only [execOp, ho]
  unfold convert at hv
  split at hv
  · rename_i ts td hts htd
    have hs := hE.ty _ _ hts
    have hd := hE.ty _ _ htd
    obtain ⟨ds, hds, hks⟩ := hs.kind
    obtain ⟨dd, hdd, hkd⟩ := hd.kind
    split at hv
    · -- to an integer
      rename_i k k0 n hk hxe
      rw [hxe] at hx
      simp at hv; obtain ⟨rfl, rfl⟩ := hv
      refine .same h (v' := .int k (k.wrap n)) ?_ (.int _ _)
      rw [hrun]
      simp [Go.convert, run_underlying hds, run_underlying (hd.int hk), hx.inv_int, Conv.intToInt]
    · -- string to string
      rename_i st hk hxe
      rw [hxe] at hx
      simp at hv; obtain ⟨rfl, rfl⟩ := hv
      obtain ⟨sb, he, hsb⟩ := hx.inv_str
      refine .same h (v' := .string sb) ?_ (by rw [← hsb]; exact .str sb)
      rw [hrun]
      simp [Go.convert, run_underlying hds, run_underlying (hd.string hk), he]
    · -- bytes of a string
      rename_i e st hk hxe
      rw [hxe] at hx
      obtain ⟨sb, he, hsb⟩ := hx.inv_str
      split at hv
      · rename_i hki
        obtain ⟨hu8, _⟩ := kInt_under hE hki
        simp at hv; obtain ⟨rfl, rfl⟩ := hv
        subst hsb
        have hp := bytes_row (s := sb) h e (grownCap w sb.size 0 e - sb.size)
        have hge := grownCap_ge w sb.size 0 e
        refine ⟨.slice (some ⟨w.heap.size, 0, none⟩) sb.size (grownCap w sb.size 0 e), _, _, .inl ?_, ?_, hp⟩
        · rw [hrun]
          have hq : (Question.appendCap sb.size 0 e).forced = false := rfl
          have hsh := shape_alloc w.drew (bArr sb (grownCap w sb.size 0 e - sb.size)) e
          rw [bArr_size] at hsh
          have hgo : (Conv.stringToBytes e sb).run P w = .ok (.slice (some ⟨w.heap.size, 0, none⟩) sb.size (grownCap w sb.size 0 e)) ((w.drew.alloc (.cells (bArr sb (grownCap w sb.size 0 e - sb.size)) e)).freeze ⟨w.heap.size, sb.size + (grownCap w sb.size 0 e - sb.size), none⟩ 1) := by
            have hdef : Conv.stringToBytes e sb = (do
                let cap ← choose (.appendCap sb.size 0 e)
                let ad ← newRow e (bArr sb (cap - sb.size))
                markStringish ad
                pure (.slice (some ad) sb.size cap) : Sem Value) := rfl
            rw [hdef]
            have hch : (choose (.appendCap sb.size 0 e)).run P w = .ok (grownCap w sb.size 0 e) w.drew := by
              rw [run_choose_drew, hq]; rfl
            simp only [Sem.run_bind, hch, Result.andThen_ok]
            have hsh' : (w.drew.alloc (.cells (bArr sb (grownCap w sb.size 0 e - sb.size)) e)).shape? w.heap.size = some (e, sb.size + (grownCap w sb.size 0 e - sb.size)) := hsh
            simp [newRow, markStringish]
            rw [hsh']
            simp
          cases ds <;> simp [Go.convert, run_underlying hds, run_underlying (hd.slice hk), he, run_underlying hu8, hgo]
        · have : VR (upR ρ σ.next (w.heap.size, 0, sb.size + (grownCap w sb.size 0 e - sb.size))) (.sl σ.next 0 sb.data.toList.length none 1) (.slice (some ⟨w.heap.size, 0 + 0, none⟩) sb.size (grownCap w sb.size 0 e)) :=
            .sl (upR_same ..) (fun x hx => by cases hx) hge (by omega)
          exact this
      · cases hv
    · -- the same bytes
      rename_i e e' b0 o0 n0 c0 w0 hk1 hk2 hxe
      rw [hxe] at hx
      have hx0 := hx
      obtain ⟨B, d0, z, c', hb, hcc, hnc, hz, he⟩ := hx.inv_sl
      split at hv
      · rename_i hki
        obtain ⟨hu8, _⟩ := kInt_under hE hki
        split at hv
        · rename_i hsd
          have hsd : s = d := by simpa using hsd
          subst hsd
          split at hv
          · rename_i cells el hg
            simp at hv; obtain ⟨rfl, rfl⟩ := hv
            obtain ⟨a1, a2, a3⟩ := h.row b0 B d0 z cells el false hb hg
            obtain ⟨zz, hsh⟩ := (a3 rfl).shape
            refine ⟨_, _, ρ, .inl ?_, hx0, Post.freeze h hb hg ⟨B, zz, none⟩ 1 rfl rfl⟩
            rw [hrun]
            simp [Go.convert, run_underlying (hd.slice hk2), he, run_underlying hu8, markStringish, hsh]
          · cases hv
        · cases hv
      · cases hv
    · -- a slice to a string
      rename_i e hk1 hk2 _
      split at hv
      · rename_i n l hn hki hl
        obtain ⟨hu8, _⟩ := kInt_under hE hki
        split at hv
        · rename_i st hst
          simp at hv; obtain ⟨rfl, rfl⟩ := hv
          rcases sl_load (P := P) h hx hn hl with ⟨he, rfl⟩ | ⟨ad, c', vs, he, hvs, hld⟩
          · simp [toBytes] at hst; subst hst
            refine .same h (v' := .string .empty) ?_ (.str .empty)
            rw [hrun]
            simp [Go.convert, run_underlying (hs.slice hk1), run_underlying (hd.string hk2), he, run_underlying hu8, Conv.bytesToString]
          · obtain ⟨h1, _⟩ := toBytes_rel hvs hst
            have h2 : vs = (st.map fun b => (b.toNat : Int)).map (Value.int .u8) := by rw [h1, List.map_map]; rfl
            rw [h2] at hld
            have hb := run_bytesToString (P := P) w ad n c' _ hld
            refine .same h (v' := .string ((st.map fun b => (b.toNat : Int)).foldl (fun r n => r.push (UInt8.ofNat n.toNat)) ByteArray.empty)) ?_ ?_
            · rw [hrun]
              simp only [Go.convert, Sem.run_bind, run_underlying (hs.slice hk1), run_underlying (hd.string hk2), he, run_underlying hu8, Result.andThen_ok, hb]
              rfl
            · have := VR.str (ρ := ρ) ((st.map fun b => (b.toNat : Int)).foldl (fun r n => r.push (UInt8.ofNat n.toNat)) ByteArray.empty)
              rw [foldl_push] at this
              simpa using this
        · cases hv
      · rename_i n l hn hki hl
        obtain ⟨hu8, _⟩ := kInt_under hE hki
        split at hv
        · rename_i st hst
          simp at hv; obtain ⟨rfl, rfl⟩ := hv
          rcases sl_load (P := P) h hx hn hl with ⟨he, rfl⟩ | ⟨ad, c', vs, he, hvs, hld⟩
          · simp [runesToS] at hst; subst hst
            refine .same h (v' := .string .empty) ?_ (.str .empty)
            rw [hrun]
            simp [Go.convert, run_underlying (hs.slice hk1), run_underlying (hd.string hk2), he, run_underlying hu8, Conv.runesToString]
          · obtain ⟨ns, h1, h2⟩ := runesToS_rel hvs hst
            rw [h1] at hld
            have hb := run_runesToString (P := P) w ad n c' ns hld
            refine .same h (v' := .string (runesBytes ns)) ?_ (by rw [← h2]; exact .str _)
            rw [hrun]
            simp only [Go.convert, Sem.run_bind, run_underlying (hs.slice hk1), run_underlying (hd.string hk2), he, run_underlying hu8, Result.andThen_ok, hb]
            rfl
        · cases hv
      · cases hv
    · -- a pointer, made unsafe
      rename_i t0 b0 o0 hk1 hk2 hxe
      rw [hxe] at hx
      obtain ⟨B, d0, z, hb, he⟩ := hx.inv_ptr
      split at hv
      · rename_i cells el tt hg htt
        have htt := hE.ty _ _ htt
        split at hv
        · cases hv
        rename_i hz0
        split at hv
        · rename_i hlt
          simp at hv; obtain ⟨rfl, rfl⟩ := hv
          obtain ⟨a1, a2, a3⟩ := h.row b0 B d0 z cells el false hb hg
          obtain ⟨zz, hsh⟩ := (a3 rfl).shape
          obtain ⟨i, hi, hsz, _⟩ := htt.info
          have hlt : o0 < cells.length := by simpa using hlt
          obtain ⟨v', hc, _⟩ := a1 o0 cells[o0] (List.getElem?_eq_getElem hlt)
          have hoff := cell_lt hc hsh
          rw [hk1] at hks
          rw [hk2] at hkd
          cases ds <;> simp [KOK] at hks
          cases dd <;> simp [KOK] at hkd
          subst hks
          have := Go.Lib.run_to_unsafe (P := P) w (j := i) ⟨B, d0 + o0, none⟩ hds hdd hi (by rw [hsz]; simpa using hz0) hsh hoff
          refine .same h (v' := .pointer (some ⟨B, d0 + o0, none⟩)) ?_ (.ptr hb)
          rw [hrun]
          simp [he, this]
        · cases hv
      · cases hv
    · -- and back
      rename_i u b0 hk1 hk2 hxe
      rw [hxe] at hx
      obtain ⟨B, d0, z, hb, he⟩ := hx.inv_ptr
      split at hv
      · rename_i cells el tu hg htu
        have htu := hE.ty _ _ htu
        split at hv
        · cases hv
        rename_i hz0
        split at hv
        · rename_i hlt
          simp at hv; obtain ⟨rfl, rfl⟩ := hv
          simp only [Bool.and_eq_true] at hlt
          obtain ⟨a1, a2, a3⟩ := h.row b0 B d0 z cells el false hb hg
          obtain ⟨zz, hsh⟩ := (a3 rfl).shape
          have hd0 := (a3 rfl).d0
          subst hd0
          obtain ⟨i, hi, hsz, _⟩ := htu.info
          have heu : el = u := by simpa using hlt.1
          subst heu
          have hle := ble_le hlt.2
          have hz0 : tu.size ≠ 0 := by simpa using hz0
          have hcs : P.cellsOf el = tu.size := by simp [Program.cellsOf, hi, hsz]
          obtain ⟨v', hc, _⟩ := a1 (tu.size - 1) cells[tu.size - 1] (List.getElem?_eq_getElem (by omega))
          have hoff := cell_lt hc hsh
          have hcnt : 1 ≤ zz / P.cellsOf el := by
            rw [hcs]
            exact (Nat.le_div_iff_mul_le (by omega)).2 (by omega)
          rw [hk1] at hks
          rw [hk2] at hkd
          cases ds <;> simp [KOK] at hks
          cases dd <;> simp [KOK] at hkd
          subst hkd
          have := Go.Lib.run_from_unsafe (P := P) w (j := i) ⟨B, 0 + 0, none⟩ hds hdd hi hsh (liesAt_self (by rw [hcs]; exact hz0) _ hcnt)
          refine .same h (v' := .pointer (some ⟨B, 0 + 0, none⟩)) ?_ (.ptr hb)
          rw [hrun]
          simp at this
          simp [he, this]
        · cases hv
      · cases hv
    · cases hv
  · cases hv
end Go.Ev
