/- From a call's promise to a row: what was there is as it was. No condition. -/
import Derived.Test.YtdgeponcnlkaiaaAcI
import Derived.WalkKit
import Derived.ProofKit
import Derived.OpenShut
namespace Go.Proofs.Ytdgeponcnlkaiaa.Ab
open Go Go.ChangeShapes Go.WideShapes Go.ChangeAt Go.RowKit
set_option linter.unusedSimpArgs false
set_option linter.unusedVariables false

/-- Old blocks are as they were. -/
structure Old (w w' : World) : Prop where
  os : w'.os = w.os
  out : w'.output = w.output
  size : w.heap.size ≤ w'.heap.size
  blk : ∀ b, b < w.heap.size → w'.heap[b]? = w.heap[b]?
theorem Old.kept {w w' : World} (h : Old w w') (may : MemPlace → Prop) : w.keptBut w' may := by
  refine ⟨h.os, h.out, fun i hi => ?_⟩
  rw [h.blk i hi]
  cases hh : w.heap[i]? with
  | none => rfl
  | some o =>
    cases o with
    | cells c t fr => exact ⟨rfl, rfl, rfl, fun _ _ => rfl⟩
    | map es cl => exact .inr ⟨rfl, rfl⟩
    | _ => rfl
theorem Old.froz {w w' : World} (h : Old w w') (a : Addr) (ha : a.block < w.heap.size) : w'.frozen? a = w.frozen? a := by
  unfold World.frozen?
  rw [h.blk a.block ha]
theorem law0 {P : Program} {f : Nat} (h : ACalls P f [] [] true (fun outs res => outs = [] ∧ res = [.one (D.bool true)])) (w : World) : Calls P f #[] w fun e w' => e = .returned (.bool true) ∧ Old w w' := by
  have := h.2 w [] (fun _ => False) [] (fun _ => undef) (fun _ => []) rfl ⟨fun r d hd => by simp [ofR] at hd, fun r r' d d' _ hd => by simp [ofR] at hd, fun t => by simp [argEnv, FR], fun b hb => hb.elim, Keeps.refl w []⟩
  refine Calls.mono this ?_
  rintro e w' ⟨v, outs, res, ok', φ', fr, rfl, ⟨rfl, rfl⟩, hd⟩
  obtain ⟨vs, e1, e2⟩ := hd.res
  simp only [OwRs, OwRV, if_true] at e2
  obtain ⟨u, us, f1, f2, rfl, _, h1, h2, _⟩ := e2
  subst h2
  simp only [Ow] at h1
  refine ⟨?_, hd.frm.os, hd.frm.out, hd.frm.size, fun b hb => hd.frm.old b hb (by simp)⟩
  rw [e1, h1.2]
  rfl

variable {H : Type} {enc : TypeId × Value → H} {P : Program}
/-- What is asked behind a law that answers, where what was read is as it was. -/
theorem post_of_old {f : Func} {s : ChangeSpec} {apart fresh handsOn again : Bool} {W W' : World} {args : Array Value} {v : Value} {ds gs : List (DataW H)} {before pa pv : List MemPlace}
    (hW : DataW.Whole enc P f.params.toList s.vars apart W args.toList ds gs before)
    (hres : ∀ (b : Nat) (sp : Nat → Bool) (hd : Bool), DataW.TrodAll enc P W' b sp hd f.resultTypes.toList (v.resultList f.resultTypes.size) (s.fn H (ds ++ gs)).results [])
    (hargs : ∀ sp : Nat → Bool, (∀ p ∈ before, sp p.block = true) → DataW.TrodAll enc P W' 0 sp true f.params.toList args.toList (s.fn H (ds ++ gs)).args pa)
    (hvars : ∀ sp : Nat → Bool, (∀ p ∈ before, sp p.block = true) → DataW.TrodVars enc P W' sp s.vars (s.fn H (ds ++ gs)).vars pv)
    (hps : before = pa ++ pv) (ho : Old W W')
    (hok : ∀ (j : Nat) (t : TypeId) (r : Value), f.resultTypes[j]? = some t → (v.resultList f.resultTypes.size)[j]? = some r → Value.okWide P W' .any 0 t r) :
    s.post enc P f apart fresh handsOn again W args v W' := by
  have hlt : ∀ p ∈ before, p.block < W.heap.size := fun p hp => hW.lt p hp
  have hsp : ∀ p ∈ before, (fun b => decide (b < W.heap.size)) p.block = true := fun p hp => decide_eq_true (hlt p hp)
  have hall : ∀ p ∈ before, (fun _ : Nat => true) p.block = true := fun _ _ => rfl
  have happ : [] ++ pa ++ pv = before := by rw [hps]; rfl
  refine ⟨ds, gs, before, [], pa, pv, hW, hres _ _ _, hargs _ hsp, hvars _ hsp, ho.kept _, fun _ => ⟨hok, _, _, [] ++ pa ++ pv, ⟨[] ++ pa, pv, trodAll_append (hargs _ hall) (hres _ _ _), hvars _ hall, rfl, ?_, ?_⟩, ?_⟩⟩
  · obtain ⟨_, _, _, _, _, hz, hn⟩ := hW
    intro b off hp
    rw [happ] at hp
    rw [ho.froz _ (hlt _ hp)]
    exact hz b off hp
  · obtain ⟨_, _, _, _, _, hz, hn⟩ := hW
    intro ha
    rw [happ]
    exact hn ha
  · intro p hp _
    rw [happ] at hp
    exact hp

end Go.Proofs.Ytdgeponcnlkaiaa.Ab
