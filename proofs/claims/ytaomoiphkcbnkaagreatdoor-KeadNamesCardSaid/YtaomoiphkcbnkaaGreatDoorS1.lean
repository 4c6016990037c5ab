/- The law of this seat holds of every input: a part of the proof (an evaluator that is proved to answer as the model does, and its runs by the kernel). -/
import Derived.Test.YtaomoiphkcbnkaaGreatDoorRows
import Derived.Tactics
import Derived.Tactics2
import Derived.Defers
import Derived.Laws.Pointers
import Derived.Laws.LoneSync
import Derived.RegionTactic
import Derived.RegionCalls
import Derived.ChangeAlike
import Derived.Test.YtaomoiphkcbnkaaGreatDoorEvOnce
set_option linter.unusedVariables false
set_option linter.unusedSimpArgs false
namespace Go.Proofs.YtaomoiphkcbnkaaGreatDoor
set_option maxRecDepth 100000
theorem disable (w : World) : (callFunc 272 #[]).run Tryz.prog w = .ok (.value (.tuple #[])) w := run_call_mark0 Tryz.func272 (by kernel_rfl) (by kernel_rfl) (by kernel_rfl) .disable (by kernel_rfl) w
theorem enable (w : World) : (callFunc 274 #[]).run Tryz.prog w = .ok (.value (.tuple #[])) w := run_call_mark0 Tryz.func274 (by kernel_rfl) (by kernel_rfl) (by kernel_rfl) .enable (by kernel_rfl) w
theorem acquire (a : Addr) (w : World) : (callFunc 275 #[.pointer (some a)]).run Tryz.prog w = .ok (.value (.tuple #[])) w := run_call_marked Tryz.func275 (by kernel_rfl) (by kernel_rfl) (by kernel_rfl) .acquire (by kernel_rfl) a w
theorem releaseMerge (a : Addr) (w : World) : (callFunc 277 #[.pointer (some a)]).run Tryz.prog w = .ok (.value (.tuple #[])) w := run_call_marked Tryz.func277 (by kernel_rfl) (by kernel_rfl) (by kernel_rfl) .releaseMerge (by kernel_rfl) a w

/-- '(*sync/atomic.Bool).Store(true)', ENTERED AS A DEFERRED CALL: the cell holds 1. -/
theorem store_deferred (a : Addr) (x : Value) (u : FrameMode) (w : World) (hc : w.cell? a = some x) (hz : w.frozen? a = false) :
    CallsD Tryz.prog 251 #[.pointer (some a), .bool true] u w fun e u' w' => u' = u ∧ (e = .returned (.tuple #[]) ∧ w' = w.drew.setCell a (.int .u32 1)) := by
  have hc' : w.drew.cell? a = some x := by go_simp
  have hz' : w.drew.frozen? a = false := by go_simp
  have hst := run_call_store (P := Tryz.prog) Tryz.func263 (by kernel_rfl) (by kernel_rfl) (by kernel_rfl) (by kernel_rfl) (k := .u32) (y := 1) hc' hz'
  go_enter_d Tryz.func251, Tryz.ntmps251
  go_wp2
  go_region_calls
  all_goals (go_end0; exact ⟨rfl, rfl⟩)

/-- '(*sync.Mutex).Unlock', ENTERED AS A DEFERRED CALL, the lock held and nobody waiting (state 1): state 0. -/
theorem unlock_deferred (a : Addr) (u : FrameMode) (w : World) (hc : w.cell? a = some (.int .i32 1)) (hz : w.frozen? a = false) :
    CallsD Tryz.prog 250 #[.pointer (some a)] u w fun e u' w' => u' = u ∧ (e = .returned (.tuple #[]) ∧ w' = w.setCell a (.int .i32 0)) := by
  have hd := disable
  have he := enable
  have hr := releaseMerge
  have hadd := run_call_add (P := Tryz.prog) Tryz.func278 (by kernel_rfl) (by kernel_rfl) (by kernel_rfl) .i32 (by kernel_rfl) (y := -1) (s := 0) hc hz (by simp [go_sem]; rfl)
  have hcv := run_convert_to_unsafe (P := Tryz.prog) (src := 319) (dst := 312) Tryz.underlying319 Tryz.underlying312 (by kernel_rfl) hc
  go_enter_d Tryz.func250, Tryz.ntmps250
  go_wp2
  go_end0
  go_wp2
  go_end0
  exact ⟨rfl, rfl⟩

/-- '(*sync.Mutex).Lock', the lock free (state 0): state 1. A CONTRACT, to be met at the call. -/
theorem lock_free (a : Addr) (w : World) (hc : w.cell? a = some (.int .i32 0)) (hz : w.frozen? a = false) :
    Calls Tryz.prog 249 #[.pointer (some a)] w fun e w' => e = .returned (.tuple #[]) ∧ w' = w.setCell a (.int .i32 1) := by
  have hd := disable
  have he := enable
  have ha := acquire
  have hcas := run_call_cas_hit (P := Tryz.prog) Tryz.func273 (by kernel_rfl) (by kernel_rfl) (by kernel_rfl) .i32 (by kernel_rfl) (y := 1) hc hz
  have hc' : (w.setCell a (.int .i32 1)).cell? a = some (.int .i32 1) := World.cell?_setCell_same w a _ hc
  have hcv := run_convert_to_unsafe (P := Tryz.prog) (src := 319) (dst := 312) Tryz.underlying319 Tryz.underlying312 (by kernel_rfl) hc'
  go_enter Tryz.func249, Tryz.ntmps249
  go_wp2
  first | go_end0 | (simp only [Exit.inBlock, Exit.then]; refine bodyPost_ret (results_none rfl _ _ _) rfl ?_) | refine bodyPost_ret (results_none rfl _ _ _) rfl ?_
  go_wp2
  go_end0
  exact ⟨rfl, rfl⟩
set_option maxHeartbeats 1600000 in
/-- '(*sync.Once).doSlow', the lock free, not yet done; what the function does is R. -/
theorem slow_any (B off g : Nat) (cs : List Value) (R : World → Prop) (w : World) (h0 : w.cell? ⟨B, off, none⟩ = some (.int .u32 0)) (h1 : w.cell? ⟨B, off + 1, none⟩ = some (.int .i32 0)) (f0 : w.frozen? ⟨B, off, none⟩ = false) (f1 : w.frozen? ⟨B, off + 1, none⟩ = false)
    (hf : Calls Tryz.prog g cs.toArray (w.setCell ⟨B, off + 1, none⟩ (.int .i32 1)) (fun e w' => e = .returned (.tuple #[]) ∧ (w'.cell? ⟨B, off, none⟩ = some (.int .u32 0) ∧ w'.cell? ⟨B, off + 1, none⟩ = some (.int .i32 1) ∧ w'.frozen? ⟨B, off, none⟩ = false ∧ w'.frozen? ⟨B, off + 1, none⟩ = false) ∧ R w')) (hbod : Ev.Bodied Tryz.prog g)
    (Q : Ending → World → Prop) (hQ : ∀ w1, R w1 → Q (.returned (.tuple #[])) ((w1.drew.setCell ⟨B, off, none⟩ (.int .u32 1)).setCell ⟨B, off + 1, none⟩ (.int .i32 0))) :
    Calls Tryz.prog 239 #[.pointer (some ⟨B, off, none⟩), .func (.func g) #[] cs.toArray] w Q := by
  have hl := run_call_load (P := Tryz.prog) Tryz.func248 (by kernel_rfl) (by kernel_rfl) (by kernel_rfl) .u32 (by kernel_rfl) (w := w.setCell ⟨B, off + 1, none⟩ (.int .i32 1)) (a := ⟨B, off, none⟩) (x := 0) ((World.cell?_setCell_other _ ⟨B, off + 1, none⟩ ⟨B, off, none⟩ _ (by simp)).trans h0)
  have hnot : ∀ (x : Bool) (w : World), (Op.unary .not (.bool x)).run Tryz.prog w = .ok (.bool (!x)) w := fun _ _ => rfl
  have hcf : ∀ (w : World), (callFunc g (#[] ++ cs.toArray)).run Tryz.prog w = .ok (.enter g cs.toArray) w := fun w => by rw [Array.empty_append]; exact hbod.run _
  go_enter_defers Tryz.func239, Tryz.ntmps239
  go_wp2_with (go_at_call 249; refine (lock_free ⟨B, off + 1, none⟩ _ (by go_simp) (by go_simp)).mono ?_; rintro e w' ⟨rfl, rfl⟩)
  go_wp2
  rw [hbod.run]
  simp only [Oper.upon]
  refine hf.mono ?_
  rintro e w' ⟨rfl, ⟨k0, k1, z0, z1⟩, hR⟩
  go_wp2
  refine leaves_cons (f := 251) (args := #[.pointer (some ⟨B, off, none⟩), .bool true]) (by simp) (by simp [go_sem]) ?_
  refine (store_deferred ⟨B, off, none⟩ (.int .u32 0) .returning w' k0 z0).mono ?_
  rintro e u' w'' ⟨rfl, rfl, rfl⟩
  refine leaves_cons (f := 250) (args := #[.pointer (some ⟨B, off + 1, none⟩)]) (by simp [settle]) (by simp [go_sem]) ?_
  refine (unlock_deferred ⟨B, off + 1, none⟩ _ _ ?_ (by simp [z1])).mono ?_
  · refine (World.cell?_setCell_other _ ⟨B, off, none⟩ ⟨B, off + 1, none⟩ _ (by simp)).trans ?_
    rw [World.cell?_drew]
    exact k1
  rintro e u' w'' ⟨rfl, rfl, rfl⟩
  have := hQ w' hR
  simpa [Leaves, settle, results, Tryz.results239] using this

set_option maxHeartbeats 1600000 in
theorem do_any (B off g : Nat) (cs : List Value) (R : World → Prop) (w : World) (h0 : w.cell? ⟨B, off, none⟩ = some (.int .u32 0)) (h1 : w.cell? ⟨B, off + 1, none⟩ = some (.int .i32 0)) (f0 : w.frozen? ⟨B, off, none⟩ = false) (f1 : w.frozen? ⟨B, off + 1, none⟩ = false)
    (hf : Calls Tryz.prog g cs.toArray (w.setCell ⟨B, off + 1, none⟩ (.int .i32 1)) (fun e w' => e = .returned (.tuple #[]) ∧ (w'.cell? ⟨B, off, none⟩ = some (.int .u32 0) ∧ w'.cell? ⟨B, off + 1, none⟩ = some (.int .i32 1) ∧ w'.frozen? ⟨B, off, none⟩ = false ∧ w'.frozen? ⟨B, off + 1, none⟩ = false) ∧ R w')) (hbod : Ev.Bodied Tryz.prog g)
    (Q : Ending → World → Prop) (hQ : ∀ w1, R w1 → Q (.returned (.tuple #[])) ((w1.drew.setCell ⟨B, off, none⟩ (.int .u32 1)).setCell ⟨B, off + 1, none⟩ (.int .i32 0))) :
    Calls Tryz.prog 219 #[.pointer (some ⟨B, off, none⟩), .func (.func g) #[] cs.toArray] w Q := by
  have hl := run_call_load (P := Tryz.prog) Tryz.func248 (by kernel_rfl) (by kernel_rfl) (by kernel_rfl) .u32 (by kernel_rfl) (w := w) (a := ⟨B, off, none⟩) (x := 0) h0
  have hnot : ∀ (x : Bool) (w : World), (Op.unary .not (.bool x)).run Tryz.prog w = .ok (.bool (!x)) w := fun _ _ => rfl
  go_enter Tryz.func219, Tryz.ntmps219
  go_wp2_with (first | (go_at_call 239; refine (slow_any B off g cs R _ h0 h1 f0 f1 hf hbod (fun e w' => e = .returned (.tuple #[]) ∧ Q (.returned (.tuple #[])) w') (fun w1 hR => ⟨rfl, hQ w1 hR⟩)).mono ?_; rintro e w' ⟨rfl, hq⟩) | (go_at_call 238; go_in))
  go_end0
  exact hq
end Go.Proofs.YtaomoiphkcbnkaaGreatDoor
