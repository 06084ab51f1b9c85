/- A call as an operation. No condition. -/
import Derived.Test.YtdgeponcnlkaiaaAbY
namespace Go.Proofs.Ytdgeponcnlkaiaa.Ab
open Go
set_option linter.unusedSimpArgs false
set_option linter.unusedVariables false
set_option linter.unusedSectionVars false

section
variable {w0 w : World} {fp0 : List Nat} {ok0 ok : Nat → Prop} {W : Nat → Value} {n : Nat} {P : Program} {T : TT} {σ : St} {θ : Nat → Value} {ρ : Rn → Value} {φ : Rn → List Nat} {a : Act}

/-- More may be shared. -/
theorem Rel.grow (h : Rel w0 fp0 ok σ θ w ρ φ) {okn : Nat → Prop} (hk : ∀ b, ok b → okn b) (hl : ∀ b, okn b → b < w.heap.size) (hn : ∀ q e, σ.rts q = some e → ∀ b ∈ φ q, ¬ okn b) : Rel w0 fp0 okn σ θ w ρ φ := by
  refine ⟨fun r d hd => ?_, h.dis, fun t => ?_, hl, h.frm⟩
  · obtain ⟨h1, h2, h3⟩ := h.own r d hd
    exact ⟨Ow_mono (fun b hb => ⟨hk b hb, rfl⟩) d _ _ (fun _ _ => rfl) h1, h2, fun b hb => ⟨hn r d hd b hb, (h3 b hb).2⟩⟩
  · refine FR_same (G := fun _ _ => True) (I := fun _ _ _ => True) ⟨fun b hb => ⟨hk b hb, rfl⟩, fun r p o _ ho => ⟨o, ho, .inl (sameKind_refl o), rfl⟩⟩ ⟨fun r m p b mb es _ h1 h2 h3 h4 => ⟨h1, rfl, rfl, h3, h4, rfl⟩⟩ _ _ ?_ (h.env t)
    exact ats_mono (fun _ _ _ => trivial) (fun _ _ _ _ => trivial) _ (FR_ats _ _ (h.env t))

theorem belowB_stripP {r : Rn} {p s : List Nat} (h : belowB r p r s = false) : stripP p s = none ∨ s = p := by
  unfold belowB at h
  simp only [if_true] at h
  split at h
  · simp at h
  · rename_i hh
    cases e : stripP p s with
    | none => exact .inl rfl
    | some t =>
      cases t with
      | nil =>
        right
        have := stripP_some e
        simpa using this
      | cons i t => exact absurd e (hh i t)

mutual
theorem ats_deep {r : Rn} {p : List Nat} {G : Rn → List Nat → Prop} {I : Rn → Rn → List Nat → Prop} : ∀ f : FV, f.deep r p = false → f.ats G I → f.ats (fun q s => G q s ∧ belowB r p q s = false) (fun _ _ _ => False)
  | .al q s _ _, h, g => ⟨g, by simpa [FV.deep] using h⟩
  | .cu q s _, h, g => ⟨g, by simpa [FV.deep] using h⟩
  | .pt q s _, h, g => ⟨g, by simpa [FV.deep] using h⟩
  | .ar q s _ _, h, g => ⟨g, by simpa [FV.deep] using h⟩
  | .mr q s, h, g => ⟨g, by simpa [FV.deep] using h⟩
  | .it .., h, _ => by simp [FV.deep] at h
  | .ag fs, h, g => atsL_deep fs (by simpa [FV.deep] using h) g
  | .tu fs, h, g => atsL_deep fs (by simpa [FV.deep] using h) g
  | .cl _ fs, h, g => atsL_deep fs (by simpa [FV.deep] using h) g
  | .fb fs _, h, g => atsL_deep fs (by simpa [FV.deep] using h) g
  | .d _, _, _ => trivial
  | .sp _ _, _, _ => trivial
  | .dead, _, _ => trivial
theorem atsL_deep {r : Rn} {p : List Nat} {G : Rn → List Nat → Prop} {I : Rn → Rn → List Nat → Prop} : ∀ fs : List FV, FV.deepL r p fs = false → FV.atsL G I fs → FV.atsL (fun q s => G q s ∧ belowB r p q s = false) (fun _ _ _ => False) fs
  | [], _, _ => trivial
  | f :: fs, h, g => by
    simp only [FV.deepL, Bool.or_eq_false_iff] at h
    exact ⟨ats_deep f h.1 g.1, atsL_deep fs h.2 g.2⟩
end

theorem ats_deeps {G : Rn → List Nat → Prop} {I : Rn → Rn → List Nat → Prop} : ∀ (ios : List Io) (f : FV), ios ≠ [] → (∀ io ∈ ios, f.deep io.r io.p = false) → f.ats G I → f.ats (fun q s => G q s ∧ ∀ io ∈ ios, belowB io.r io.p q s = false) (fun _ _ _ => False)
  | [], f, hne, _, _ => absurd rfl hne
  | [io], f, _, hd, g => ats_mono (fun q s h => ⟨h.1, fun io' hio' => by simp only [List.mem_singleton] at hio'; subst hio'; exact h.2⟩) (fun _ _ _ h => h) f (ats_deep f (hd io (by simp)) g)
  | io :: io2 :: ios, f, _, hd, g => by
    have h1 := ats_deep f (hd io (by simp)) g
    have h2 := ats_deeps (io2 :: ios) f (by simp) (fun x hx => hd x (List.mem_cons_of_mem _ hx)) h1
    refine ats_mono (fun q s h => ⟨h.1.1, fun x hx => ?_⟩) (fun _ _ _ h => h) f h2
    rcases List.mem_cons.1 hx with rfl | hx
    · exact h.1.2
    · exact h.2 x hx

def kindOk (d d' : D) : Prop := (∃ k n cs cs', d = .ow k n cs ∧ d' = .ow k n cs') ∨ ∃ cs cs', d = .bx cs ∧ d' = .bx cs' ∧ cs.length = cs'.length
structure PutSpec (σ σ1 : St) (ios : List Io) (outs : List D) : Prop where
  len : outs.length = ios.length
  other : ∀ q, q ∉ ios.map (·.r) → σ1.rts q = σ.rts q
  kind : ∀ x ∈ ios.zip outs, kindOk x.1.d x.2
  at_ : ∀ x ∈ ios.zip outs, ∀ dr, σ.rts x.1.r = some dr → σ1.rts x.1.r = some (putAt dr x.1.p x.2)
  env : ∀ t, σ1.env t = .dead ∨ (σ1.env t = σ.env t ∧ ∀ io ∈ ios, (σ.env t).deep io.r io.p = false)

theorem put_spec : ∀ (ios : List Io) (outs : List D) (σ σ1 : St), (ios.map (·.r)).Nodup → (∀ io ∈ ios, ∃ dr, σ.rts io.r = some dr) → putOuts σ ios outs = some σ1 → PutSpec σ σ1 ios outs
  | [], [], σ, σ1, _, _, hs => by
    simp only [putOuts, Option.some.injEq] at hs
    subst hs
    exact ⟨rfl, fun _ _ => rfl, by simp, by simp, fun t => .inr ⟨rfl, by simp⟩⟩
  | [], _ :: _, σ, σ1, _, _, hs => by simp [putOuts] at hs
  | _ :: _, [], σ, σ1, _, _, hs => by simp [putOuts] at hs
  | io :: ios, d :: outs, σ, σ1, hn, hr, hs => by
    simp only [List.map_cons, List.nodup_cons] at hn
    have key : ∀ (d' : D), d' = d → kindOk io.d d' → putOuts ((σ.killBelow io.r io.p).put io.r io.p d') ios outs = some σ1 → PutSpec σ σ1 (io :: ios) (d :: outs) := by
      intro d' e hkd hs'
      subst e
      obtain ⟨dr, hdr⟩ := hr io (by simp)
      have ep : ∀ q, ((σ.killBelow io.r io.p).put io.r io.p d').rts q = if q = io.r then some (putAt dr io.p d') else σ.rts q := fun q => by
        simp only [St.put, St.killBelow, hdr]
      have ee : ∀ t, ((σ.killBelow io.r io.p).put io.r io.p d').env t = if (σ.env t).deep io.r io.p then .dead else σ.env t := fun t => by
        simp only [St.put, St.killBelow, hdr]
      have ih := put_spec ios outs _ σ1 hn.2 (fun io' hio' => by
        obtain ⟨dr', hdr'⟩ := hr io' (List.mem_cons_of_mem _ hio')
        rw [ep]
        split
        · exact ⟨_, rfl⟩
        · exact ⟨dr', hdr'⟩) hs'
      refine ⟨by simp [ih.len], fun q hq => ?_, fun x hx => ?_, fun x hx dr' hdr' => ?_, fun t => ?_⟩
      · simp only [List.map_cons, List.mem_cons, not_or] at hq
        rw [ih.other q hq.2, ep, if_neg hq.1]
      · simp only [List.zip_cons_cons, List.mem_cons] at hx
        rcases hx with rfl | hx
        · exact hkd
        · exact ih.kind x hx
      · simp only [List.zip_cons_cons, List.mem_cons] at hx
        rcases hx with rfl | hx
        · rw [ih.other _ hn.1, ep, if_pos rfl]
          simp only at hdr'
          rw [hdr] at hdr'
          injection hdr' with hdr'
          rw [hdr']
        · have hmem : x.1.r ∈ ios.map (·.r) := List.mem_map.2 ⟨x.1, (List.of_mem_zip hx).1, rfl⟩
          have hne : x.1.r ≠ io.r := fun e => hn.1 (e ▸ hmem)
          exact ih.at_ x hx dr' (by rw [ep, if_neg hne]; exact hdr')
      · rcases ih.env t with h1 | ⟨h1, h2⟩
        · exact .inl h1
        · rw [ee] at h1 h2
          split at h1
          · exact .inl h1
          · rename_i hdp
            rw [if_neg hdp] at h2
            refine .inr ⟨h1, fun io' hio' => ?_⟩
            rcases List.mem_cons.1 hio' with rfl | hio'
            · simpa using hdp
            · exact h2 io' hio'
    unfold putOuts at hs
    split at hs
    · rename_i k N cs k' N' cs' hd
      split at hs
      · rename_i hc
        obtain ⟨rfl, rfl⟩ := hc
        exact key _ rfl (.inl ⟨k, N, cs, cs', hd, rfl⟩) hs
      · simp at hs
    · rename_i cs cs' hd
      split at hs
      · rename_i hc
        exact key _ rfl (.inr ⟨cs, cs', hd, rfl, hc⟩) hs
      · simp at hs
    · simp at hs

/-- Objects are replaced behind a call, with what they own. F: what they owned; F2: what they own now. -/
theorem Rel.called (h : Rel w0 fp0 ok σ θ w ρ φ) {ios : List Io} {outs : List D} {σ1 : St} {H : Io → Value} {F F2 : Io → List Nat} {w' : World} {okn : Nat → Prop} (hne : ios ≠ []) (hsp : PutSpec σ σ1 ios outs) (hrn : (ios.map (·.r)).Nodup)
    (hat : ∀ io ∈ ios, σ.obj io.r io.p = some io.d ∧ At w ok σ.rts ρ φ io.r io.p io.d (H io) (F io)) (hk : ∀ b, ok b → okn b) (hkl : ∀ b, okn b → b < w'.heap.size) (hkn : ∀ b, ¬ ok b → b < w.heap.size → ¬ okn b)
    (hf : ∀ io ∈ ios, (F2 io).Nodup ∧ ∀ b ∈ F2 io, ((∃ io' ∈ ios, b ∈ F io') ∨ w.heap.size ≤ b) ∧ ¬ okn b ∧ b < w'.heap.size) (hd : ∀ io ∈ ios, ∀ io' ∈ ios, io.r ≠ io'.r → ∀ b ∈ F2 io, b ∉ F2 io')
    (hK : ∀ b, b < w.heap.size → (∀ io ∈ ios, b ∉ F io) → w'.heap[b]? = w.heap[b]?) (hss : w.heap.size ≤ w'.heap.size) (hKK : Keeps w0 fp0 w') (hO : ∀ x ∈ ios.zip outs, Ow w' okn x.2 (H x.1) (F2 x.1)) :
    ∃ φ', Rel w0 fp0 okn σ1 θ w' ρ φ' ∧ ∀ q e, σ1.rts q = some e → ∀ b ∈ φ' q, (∃ e', σ.rts q = some e' ∧ b ∈ φ q ∧ ∀ io ∈ ios, b ∉ F io) ∨ ∃ io ∈ ios, io.r = q ∧ b ∈ F2 io := by
  have hrdis : ∀ io ∈ ios, ∃ dr, σ.rts io.r = some dr ∧ look dr io.p = some io.d := fun io hio => obj_root (hat io hio).1
  have hFsub : ∀ io ∈ ios, ∀ b ∈ F io, b ∈ φ io.r := fun io hio b hb => (hat io hio).2.sub b hb
  have hFb : ∀ io ∈ ios, ∀ b ∈ F io, Bnd w0 fp0 ok w.heap.size b := fun io hio b hb => by
    obtain ⟨dr, hdr, _⟩ := hrdis io hio
    exact (h.own io.r dr hdr).2.2 b (hFsub io hio b hb)
  have hok : ∀ b, ok b → okn b ∧ w'.heap[b]? = w.heap[b]? := fun b hb => ⟨hk b hb, hK b (h.okb b hb) fun io hio hbf => (hFb io hio b hbf).1 hb⟩
  -- one io for each of its roots
  have huniq : ∀ io ∈ ios, ∀ io' ∈ ios, io.r = io'.r → io = io' := by
    have : ∀ (l : List Io), (l.map (·.r)).Nodup → ∀ io ∈ l, ∀ io' ∈ l, io.r = io'.r → io = io' := by
      intro l
      induction l with
      | nil => intro _ io hio; simp at hio
      | cons x l ih =>
        intro hn io hio io' hio' e
        simp only [List.map_cons, List.nodup_cons] at hn
        rcases List.mem_cons.1 hio with rfl | h1 <;> rcases List.mem_cons.1 hio' with rfl | h2
        · rfl
        · exact absurd (List.mem_map.2 ⟨io', h2, e.symm⟩) hn.1
        · exact absurd (List.mem_map.2 ⟨io, h1, e⟩) hn.1
        · exact ih hn.2 io h1 io' h2 e
    exact this ios hrn
  have hzip : ∀ io ∈ ios, ∃ d', (io, d') ∈ ios.zip outs := by
    have : ∀ (l : List Io) (o : List D), o.length = l.length → ∀ io ∈ l, ∃ d', (io, d') ∈ l.zip o := by
      intro l
      induction l with
      | nil => intro o _ io hio; simp at hio
      | cons x l ih =>
        intro o ho io hio
        cases o with
        | nil => simp at ho
        | cons y o =>
          simp only [List.length_cons, Nat.add_right_cancel_iff] at ho
          rcases List.mem_cons.1 hio with rfl | h1
          · exact ⟨y, by simp⟩
          · obtain ⟨d', hd'⟩ := ih o ho io h1
            exact ⟨d', by simp [hd']⟩
    exact this ios outs hsp.len
  have hother : ∀ q e, σ.rts q = some e → q ∉ ios.map (·.r) → ∀ b ∈ φ q, w'.heap[b]? = w.heap[b]? := fun q e he hq b hb => hK b ((h.own q e he).2.2 b hb).2.2 fun io hio hbf => by
    obtain ⟨dr, hdr, _⟩ := hrdis io hio
    have hqr : q ≠ io.r := fun e => hq (List.mem_map.2 ⟨io, hio, e.symm⟩)
    exact h.dis q io.r e dr hqr he hdr b hb (hFsub io hio b hbf)
  -- a written root
  have hroot : ∀ io ∈ ios, ∀ d', (io, d') ∈ ios.zip outs → ∃ dr fp, σ.rts io.r = some dr ∧ look dr io.p = some io.d ∧ σ1.rts io.r = some (putAt dr io.p d') ∧ Ow w' okn (putAt dr io.p d') (ρ io.r) fp ∧ fp.Nodup ∧
      (∀ b ∈ fp, b ∈ F2 io ∨ (b ∈ φ io.r ∧ b ∉ F io)) ∧ (∀ q x, look dr q = some x → isPre io.p q = false → hdr w' (ρ io.r) q = hdr w (ρ io.r) q) ∧ hdr w' (ρ io.r) io.p = some (H io) := by
    intro io hio d' hz
    obtain ⟨dr, hdr, hlook⟩ := hrdis io hio
    obtain ⟨h1, h2, h3⟩ := h.own io.r dr hdr
    obtain ⟨hv2, fo2, k1, k2, k3, k4, k5⟩ := own_at io.p dr (ρ io.r) (φ io.r) io.d h1 h2 hlook
    have hat' := (hat io hio).2
    have e1 : hv2 = H io := by have := hat'.hdr; rw [k1] at this; injection this
    subst e1
    have e2 : fo2 = F io := Ow_unique _ _ _ _ k2 hat'.own
    subst e2
    have hfresh : ∀ b ∈ F2 io, b ∈ F io ∨ b ∉ φ io.r := fun b hb => by
      rcases ((hf io hio).2 b hb).1 with ⟨io', hio', hb'⟩ | hge
      · by_cases he : io.r = io'.r
        · rw [huniq io hio io' hio' he]
          exact .inl hb'
        · right
          intro hb2
          obtain ⟨dr', hdr', _⟩ := hrdis io' hio'
          exact h.dis io.r io'.r dr dr' he hdr hdr' b hb2 (hFsub io' hio' b hb')
      · right
        intro hb2
        have := (h3 b hb2).2.2
        omega
    obtain ⟨⟨fp', g1, g2, g3⟩, g4, g5⟩ := k5 w' okn d' (F2 io) (fun b hb hbo => hK b (h3 b hb).2.2 fun io' hio' hbf => by
      by_cases he : io.r = io'.r
      · rw [← huniq io hio io' hio' he] at hbf
        exact hbo hbf
      · obtain ⟨dr', hdr', _⟩ := hrdis io' hio'
        exact h.dis io.r io'.r dr dr' he hdr hdr' b hb (hFsub io' hio' b hbf)) hok (hO _ hz) (hf io hio).1 hfresh
    exact ⟨dr, fp', hdr, hlook, hsp.at_ _ hz dr hdr, g1, g2, g3, g4, g5⟩
  have hall : ∀ q, ∃ fp : List Nat, ∀ e, σ1.rts q = some e → Ow w' okn e (ρ q) fp ∧ fp.Nodup ∧ ∀ b ∈ fp, (∃ e', σ.rts q = some e' ∧ b ∈ φ q ∧ ∀ io ∈ ios, b ∉ F io) ∨ ∃ io ∈ ios, io.r = q ∧ b ∈ F2 io := by
    intro q
    by_cases hq : q ∈ ios.map (·.r)
    · obtain ⟨io, hio, rfl⟩ := List.mem_map.1 hq
      obtain ⟨d', hz⟩ := hzip io hio
      obtain ⟨dr, fp, r1, r2, r3, r4, r5, r6, r7, r8⟩ := hroot io hio d' hz
      refine ⟨fp, fun e he => ?_⟩
      rw [r3] at he
      injection he with he
      subst he
      refine ⟨r4, r5, fun b hb => ?_⟩
      rcases r6 b hb with hb | ⟨hb, hbn⟩
      · exact .inr ⟨io, hio, rfl, hb⟩
      · refine .inl ⟨dr, r1, hb, fun io' hio' hbf => ?_⟩
        by_cases he : io.r = io'.r
        · rw [← huniq io hio io' hio' he] at hbf
          exact hbn hbf
        · obtain ⟨dr', hdr', _⟩ := hrdis io' hio'
          exact h.dis io.r io'.r dr dr' he r1 hdr' b hb (hFsub io' hio' b hbf)
    · refine ⟨φ q, fun e he => ?_⟩
      rw [hsp.other q hq] at he
      obtain ⟨h1, h2, h3⟩ := h.own q e he
      refine ⟨Ow_mono hok e _ _ (hother q e he hq) h1, h2, fun b hb => .inl ⟨e, he, hb, fun io hio hbf => ?_⟩⟩
      obtain ⟨dr, hdr, _⟩ := hrdis io hio
      have hqr : q ≠ io.r := fun e => hq (List.mem_map.2 ⟨io, hio, e.symm⟩)
      exact h.dis q io.r e dr hqr he hdr b hb (hFsub io hio b hbf)
  obtain ⟨φ', hφ⟩ := Classical.axiomOfChoice hall
  refine ⟨φ', ⟨fun q e he => ⟨(hφ q e he).1, (hφ q e he).2.1, fun b hb => ?_⟩, fun q q' e e' hqq he he' b hb hb' => ?_, fun t => ?_, hkl, hKK⟩, fun q e he b hb => (hφ q e he).2.2 b hb⟩
  · rcases (hφ q e he).2.2 b hb with ⟨e', he', hbq, _⟩ | ⟨io, hio, _, hbf⟩
    · have hob := (h.own q e' he').2.2 b hbq
      exact ⟨hkn b hob.1 hob.2.2, hob.2.1, Nat.lt_of_lt_of_le hob.2.2 hss⟩
    · obtain ⟨h1, h2, h3⟩ := (hf io hio).2 b hbf
      refine ⟨h2, ?_, h3⟩
      rcases h1 with ⟨io', hio', hb'⟩ | hge
      · exact (hFb io' hio' b hb').2.1
      · exact .inr (Nat.le_trans h.frm.size hge)
  · rcases (hφ q e he).2.2 b hb with ⟨e1, he1, hb1, hn1⟩ | ⟨io, hio, hr1, hb1⟩ <;> rcases (hφ q' e' he').2.2 b hb' with ⟨e2, he2, hb2, hn2⟩ | ⟨io', hio', hr2, hb2⟩
    · exact h.dis q q' e1 e2 hqq he1 he2 b hb1 hb2
    · rcases ((hf io' hio').2 b hb2).1 with ⟨io3, hio3, hb3⟩ | hge
      · exact hn1 io3 hio3 hb3
      · have := ((h.own q e1 he1).2.2 b hb1).2.2
        omega
    · rcases ((hf io hio).2 b hb1).1 with ⟨io3, hio3, hb3⟩ | hge
      · exact hn2 io3 hio3 hb3
      · have := ((h.own q' e2 he2).2.2 b hb2).2.2
        omega
    · exact hd io hio io' hio' (by rw [hr1, hr2]; exact hqq) b hb1 hb2
  · rcases hsp.env t with he | ⟨he, hdp⟩
    · rw [he]
      simp [FR]
    · rw [he]
      refine FR_same (G := fun q s => (∃ o, σ.obj q s = some o ∧ isObj o) ∧ ∀ io ∈ ios, belowB io.r io.p q s = false) (I := fun _ _ _ => False) ⟨hok, fun q s x hg hx => ?_⟩ ⟨fun q m s b mb es hi => hi.elim⟩ _ _ (ats_deeps ios _ hne hdp (FR_ats _ _ (h.env t))) (h.env t)
      obtain ⟨dq, hdq, hlq⟩ := obj_root hx
      by_cases hq : q ∈ ios.map (·.r)
      · obtain ⟨io, hio, rfl⟩ := List.mem_map.1 hq
        obtain ⟨d', hz⟩ := hzip io hio
        obtain ⟨dr, fp, r1, r2, r3, r4, r5, r6, r7, r8⟩ := hroot io hio d' hz
        rw [hdq] at r1
        injection r1 with r1
        subst r1
        rcases belowB_stripP (hg.2 io hio) with hst | rfl
        · obtain ⟨x', k1, k2⟩ := look_putAt_other io.p dq io.d d' s x r2 hlq (stripP_none hst)
          exact ⟨x', by simp only [St.obj, r3]; exact k1, .inl k2, r7 s x hlq (stripP_none hst)⟩
        · rw [r2] at hlq
          injection hlq with hlq
          subst hlq
          have k1 := look_putAt io.p dq io.d d' [] r2
          rw [List.append_nil] at k1
          refine ⟨d', by simp only [St.obj, r3, k1, look], ?_, by rw [r8, (hat io hio).2.hdr]⟩
          have hO' := hO _ hz
          rcases hsp.kind _ hz with ⟨k, N, cs, cs', e1, e2⟩ | ⟨cs, cs', e1, e2, e3⟩
          · simp only at e1 e2
            rw [e1, e2]
            refine .inl ⟨rfl, rfl, ?_⟩
            have hx2 := hx
            rw [e1] at hx2
            rw [ow_len h hx2]
            simp only [e2] at hO'
            simp only [Ow] at hO'
            rcases hO' with ⟨rfl, rfl, _⟩ | ⟨b, o, c, arr, T, fp', _, _, _, _, _, h2, _⟩
            · simp
            · exact h2.symm
          · simp only at e1 e2
            rw [e1, e2]
            exact .inl e3
      · refine ⟨x, by simp only [St.obj, hsp.other q hq, hdq]; exact hlq, .inl (sameKind_refl x), ?_⟩
        exact hdr_stable s dq _ _ x (h.own q dq hdq).1 (hother q dq hdq hq) hlq

theorem OwVs_mono {w' : World} {ok ok' : Nat → Prop} (hk : ∀ b, ok b → ok' b) : ∀ {ds : List D} {us : List Value} {fp : List Nat}, OwVs w ok ds us fp → OwVs w ok' ds us fp
  | [], us, fp, h => by simpa only [OwVs] using h
  | d :: ds, us, fp, h => by
    simp only [OwVs] at h ⊢
    obtain ⟨u, vs, f1, f2, e1, e2, h1, h2⟩ := h
    exact ⟨u, vs, f1, f2, e1, e2, Ow_mono (fun b hb => ⟨hk b hb, rfl⟩) d u f1 (fun _ _ => rfl) h1, OwVs_mono (w' := w') hk h2⟩
theorem OwRs_mono {ok ok' : Nat → Prop} (hk : ∀ b, ok b → ok' b) : ∀ {ds : List RV} {us : List Value} {fp : List Nat}, OwRs w ok ds us fp → OwRs w ok' ds us fp
  | [], us, fp, h => by simpa only [OwRs] using h
  | .one d :: ds, us, fp, h => by
    simp only [OwRs, OwRV] at h ⊢
    obtain ⟨u, vs, f1, f2, e1, e2, h1, h2⟩ := h
    exact ⟨u, vs, f1, f2, e1, e2, Ow_mono (fun b hb => ⟨hk b hb, rfl⟩) d u f1 (fun _ _ => rfl) h1, OwRs_mono hk h2⟩
  | .ag xs :: ds, us, fp, h => by
    simp only [OwRs, OwRV] at h ⊢
    obtain ⟨u, vs, f1, f2, e1, e2, ⟨vv, e3, h1⟩, h2⟩ := h
    exact ⟨u, vs, f1, f2, e1, e2, ⟨vv, e3, OwVs_mono (w' := w) hk h1⟩, OwRs_mono hk h2⟩

theorem FRL_getD : ∀ {fs : List FV} {us : List Value}, FRL w ok σ ρ fs us → ∀ t, FR w ok σ ρ (fs.getD t .dead) (us.getD t undef) := by
  intro fs us h t
  cases e : fs[t]? with
  | none => simp [List.getD, e, FR]
  | some f =>
    obtain ⟨u, e2, h2⟩ := FRL_get h e
    simpa [List.getD, e, e2] using h2

theorem pass_none : ∀ {ms : List Bool}, ms.any id = false → ∀ (i : Nat) (fs gs : List FV) (lent : List Rn) (ios : List Io), passL σ i ms fs = some (gs, lent, ios) → ios = []
  | ms, hm, i, [], gs, lent, ios, hs => by
    simp only [passL, Option.some.injEq, Prod.mk.injEq] at hs
    exact hs.2.2.symm
  | ms, hm, i, f :: fs, gs, lent, ios, hs => by
    have htl : ms.tail.any id = false := by cases ms <;> simp_all
    have hhd : ms.headD false = false := by cases ms <;> simp_all
    simp only [passL, hhd, Bool.false_eq_true, if_false] at hs
    split at hs
    · rename_i gs' lent1 ios1 hgs
      have := pass_none htl (i + 1) fs gs' lent1 ios1 hgs
      subst this
      split at hs
      · simp only [Option.some.injEq, Prod.mk.injEq] at hs
        exact hs.2.2.symm
      · simp at hs
    · simp at hs

/-- What is left behind a call. -/
theorem call_sound {C : Ctx} {o : Oper} (ho : smallO n o = true) {g : Nat} {fvs : List FV} {vs : Array Value} (hrun : Callable C.P g → (execOp a.eval o).run C.P w = .ok (.enter g vs) w) {K : St → Prop} (hk : callTo C g fvs o.dst σ K) (h : Stx w0 fp0 ok0 W n σ a w ok θ ρ φ)
    (hfr : FRL w ok σ ρ fvs vs.toList) : Ends C.P o a w K (fun σ' a' w' => Ste w0 fp0 ok0 W n σ' a' w' ∧ ((aget [] C.M g).any id = false → Later w w')) := by
  unfold callTo at hk
  split at hk
  · rename_i args lent ios hpass
    obtain ⟨⟨hrn, hnn⟩, hlent, pure, Qc, hcall, hpl, hkk⟩ := hk
    obtain ⟨hobj, hargs⟩ := pass_sound h.rel 0 _ fvs args lent ios vs.toList hpass hfr
    have hlen : vs.toList.length = args.length := by rw [FRL_length hfr, pass_length 0 _ fvs args lent ios hpass]
    obtain ⟨hcb, hcalls⟩ := hcall
    let ok2 : Nat → Prop := fun b => ok b ∨ ∃ r ∈ lent, ∃ d, σ.rts r = some d ∧ b ∈ φ r
    have hL : Lend w ok σ φ lent ok2 := ⟨fun b hb => .inl hb, fun r hr d hd b hb => .inr ⟨r, hr, d, hd, hb⟩⟩
    have hok2 : ∀ b, ok2 b → b < w.heap.size := fun b hb => by
      rcases hb with hb | ⟨r, _, d, hd, hb⟩
      · exact h.rel.okb b hb
      · exact ((h.rel.own r d hd).2.2 b hb).2.2
    intro Kc Q hKc
    unfold Oper.wp
    rw [hrun hcb]
    simp only [Oper.upon]
    -- what comes behind the call, whatever was written
    have after : ∀ (w' : World) (ok' : Nat → Prop) (res : List RV) (uu : List Value) (fr : List Nat) (σ1 : St) (φ1 : Rn → List Nat) (okn : Nat → Prop), okn = (if pure then ok else ok') → (∀ b, ok2 b → ok' b) → (∀ b, ok' b → (ok2 b ∨ w.heap.size ≤ b) ∧ b < w'.heap.size) →
        Rel w0 fp0 okn σ1 θ w' ρ φ1 → OwRs w' (if pure then fun _ => False else ok') res uu fr → Fresh w0 w' fp0 okn σ1 φ1 fr →
        (match o.dst with
          | some d => (match unpackR d σ1 0 res with
            | some (fs, σ2, _) => K { σ2 with env := upd σ2.env d (resFV fs) }
            | none => False)
          | none => K σ1) → ((aget [] C.M g).any id = false → Later w w') → Kc (a.put o.dst (resultOf uu)) w' := by
      intro w' ok' res uu fr σ1 φ1 okn hokn hk1 hk2 hrel hres hfresh hK hlat
      have hres' : OwRs w' okn res uu fr := by
        rw [hokn]
        cases pure with
        | true => exact OwRs_mono (fun _ hb => False.elim hb) hres
        | false => exact hres
      have hoks : ∀ b, ok0 b → okn b := fun b hb => by
        rw [hokn]
        split
        · exact h.oks b hb
        · exact hk1 b (.inl (h.oks b hb))
      have hokn' : ∀ b, okn b → ok0 b ∨ w0.heap.size ≤ b := fun b hb => by
        rw [hokn] at hb
        split at hb
        · exact h.okn b hb
        · rename_i hp
          rcases (hk2 b hb).1 with h2 | h2
          · rcases h2 with h2 | ⟨r, hr, _⟩
            · exact h.okn b h2
            · rw [hpl.resolve_left hp] at hr
              simp at hr
          · exact .inr (Nat.le_trans h.rel.frm.size h2)
      split at hK
      · rename_i d hd
        split at hK
        · rename_i fs σ2 j2 hun
          obtain ⟨ρ2, φ2, q1, q2, q3⟩ := unpackR_sound res σ1 ρ φ1 0 j2 fs σ2 uu fr hrel hun hres' hfresh
          have hs : Stx w0 fp0 ok0 W n σ2 a w' okn θ ρ2 φ2 := ⟨q1, h.th, hoks, hokn', h.dfr, h.sz⟩
          have := hs.fin ho hd (resFV_sound q2)
          exact hKc _ _ _ hK ⟨this, hlat⟩
        · exact hK.elim
      · rename_i hd
        rw [hd]
        exact hKc _ _ _ hK ⟨⟨_, _, _, _, hrel, h.th, hoks, hokn', h.dfr, h.sz⟩, hlat⟩
    match hios : ios, hrn, hnn, hobj, hargs, hlent, hcalls, hkk with
    | [], _, _, _, hargs, _, hcalls, hkk =>
      have hrelc : Rel w [] ok2 ⟨argEnv args, ofR []⟩ (fun t => vs.toList.getD t undef) w ρ φ :=
        ⟨fun r d hd => by simp [ofR] at hd, fun r r' d d' _ hd => by simp [ofR] at hd, fun t => FRL_getD (hargs lent ok2 ⟨argEnv args, ofR []⟩ ρ (fun _ h => h) hL ⟨by simp⟩) t, hok2, Keeps.refl w []⟩
      have := hcalls w [] ok2 vs.toList ρ φ hlen hrelc
      rw [Array.toArray_toList] at this
      refine Calls.mono this ?_
      rintro e w' ⟨v, outs, res, ok', φ', fr, rfl, hQ, hD⟩
      have houts : outs = [] := List.eq_nil_of_length_eq_zero (by simpa using hD.len)
      subst houts
      have hkq := hkk [] res hQ
      simp only [putOuts] at hkq
      obtain ⟨uu, hv, hres⟩ := hD.res
      subst hv
      have hok' : ∀ b, ok' b → ¬ ok2 b → w.heap.size ≤ b := fun b hb hn => ((hD.okn b hb).1).resolve_left hn
      have hrel1 := (h.rel.world (w' := w') (fun b hb => hD.frm.old b hb (by simp)) hD.frm.size (h.rel.frm.trans hD.frm (by simp))).grow (okn := if pure then ok else ok')
        (fun b hb => by split; exact hb; exact hD.okm b (.inl hb))
        (fun b hb => by
          split at hb
          · exact Nat.lt_of_lt_of_le (h.rel.okb b hb) hD.frm.size
          · exact (hD.okn b hb).2)
        (fun q e he b hb hkb => by
          have hob := (h.rel.own q e he).2.2 b hb
          split at hkb
          · exact hob.1 hkb
          · rename_i hp
            rcases (hD.okn b hkb).1 with h2 | h2
            · rcases h2 with h2 | ⟨r, hr, _⟩
              · exact hob.1 h2
              · rw [hpl.resolve_left hp] at hr
                simp at hr
            · omega)
      refine after w' ok' res uu fr σ φ _ rfl hD.okm hD.okn hrel1 hres ⟨hD.nod, fun b hb => ?_⟩ hkq (fun _ => ⟨hD.frm.size, fun b hb => hD.frm.old b hb (by simp)⟩)
      obtain ⟨b1, b2, b3⟩ := hD.bl b hb
      have hge : w.heap.size ≤ b := by rcases b2 with b2 | b2; simp at b2; exact b2
      refine ⟨⟨?_, .inr (Nat.le_trans h.rel.frm.size hge), b3⟩, fun q e he hbq => ?_⟩
      · split
        · exact fun hb' => b1 (hD.okm b (.inl hb'))
        · exact b1
      · have := ((h.rel.own q e he).2.2 b hbq).2.2
        omega
    | io0 :: ios0, hrn, hnn, hobj, hargs, hlent, hcalls, hkk =>
      have hcons : (io0 :: ios0) ≠ [] := by simp
      generalize hL0 : io0 :: ios0 = ios at *
      -- what each object owns
      have hat0 : ∀ io : Io, ∃ hv : Value, ∃ fo : List Nat, io ∈ ios → At w ok σ.rts ρ φ io.r io.p io.d hv fo := fun io => by
        by_cases hio : io ∈ ios
        · obtain ⟨hv, fo, hat⟩ := h.rel.rts_.at_ (r := io.r) (p := io.p) (hobj io hio)
          exact ⟨hv, fo, fun _ => hat⟩
        · exact ⟨undef, [], fun h => absurd h hio⟩
      obtain ⟨H, hH⟩ := Classical.axiomOfChoice hat0
      obtain ⟨F, hF⟩ := Classical.axiomOfChoice hH
      have hnm : ∀ io ∈ ios, ∀ io' ∈ ios, io.name = io'.name → io = io' := by
        have : ∀ (l : List Io), (l.map (·.name)).Nodup → ∀ io ∈ l, ∀ io' ∈ l, io.name = io'.name → io = io' := by
          intro l
          induction l with
          | nil => intro _ io hio; simp at hio
          | cons x l ih =>
            intro hn io hio io' hio' e
            simp only [List.map_cons, List.nodup_cons] at hn
            rcases List.mem_cons.1 hio with rfl | h1 <;> rcases List.mem_cons.1 hio' with rfl | h2
            · rfl
            · exact absurd (List.mem_map.2 ⟨io', h2, e.symm⟩) hn.1
            · exact absurd (List.mem_map.2 ⟨io, h1, e⟩) hn.1
            · exact ih hn.2 io h1 io' h2 e
        exact this ios hnn
      have hrr : ∀ io ∈ ios, ∀ io' ∈ ios, io.r = io'.r → io = io' := by
        have : ∀ (l : List Io), (l.map (·.r)).Nodup → ∀ io ∈ l, ∀ io' ∈ l, io.r = io'.r → io = io' := by
          intro l
          induction l with
          | nil => intro _ io hio; simp at hio
          | cons x l ih =>
            intro hn io hio io' hio' e
            simp only [List.map_cons, List.nodup_cons] at hn
            rcases List.mem_cons.1 hio with rfl | h1 <;> rcases List.mem_cons.1 hio' with rfl | h2
            · rfl
            · exact absurd (List.mem_map.2 ⟨io', h2, e.symm⟩) hn.1
            · exact absurd (List.mem_map.2 ⟨io, h1, e⟩) hn.1
            · exact ih hn.2 io h1 io' h2 e
        exact this ios hrn
      let ioOf : Rn → Option Io := fun nm => ios.find? fun io => decide (io.name = nm)
      have hof : ∀ io ∈ ios, ioOf io.name = some io := fun io hio => by
        have hfi : (ios.find? fun x => decide (x.name = io.name)).isSome = true := by
          rw [List.find?_isSome]
          exact ⟨io, hio, by simp⟩
        obtain ⟨io2, h2⟩ := Option.isSome_iff_exists.1 hfi
        have h3 := List.find?_some h2
        have h4 := List.mem_of_find?_eq_some h2
        have : io2 = io := hnm io2 h4 io hio (by simpa using h3)
        subst this
        exact h2
      let ρ' : Rn → Value := fun nm => match ioOf nm with | some io => H io | none => undef
      let φ' : Rn → List Nat := fun nm => match ioOf nm with | some io => F io | none => []
      have hρ' : ∀ io ∈ ios, ρ' io.name = H io := fun io hio => by
        show (match ioOf io.name with | some io => H io | none => undef) = _
        rw [hof io hio]
      have hφ' : ∀ io ∈ ios, φ' io.name = F io := fun io hio => by
        show (match ioOf io.name with | some io => F io | none => []) = _
        rw [hof io hio]
      have hFb : ∀ io ∈ ios, ∀ b ∈ F io, Bnd w0 fp0 ok w.heap.size b ∧ ∃ dr, σ.rts io.r = some dr ∧ b ∈ φ io.r := fun io hio b hb => by
        obtain ⟨dr, hdr', _⟩ := obj_root (hobj io hio)
        have := (hF io hio).sub b hb
        exact ⟨(h.rel.own io.r dr hdr').2.2 b this, dr, hdr', this⟩
      have hn2 : ∀ io ∈ ios, ∀ b ∈ F io, ¬ ok2 b := fun io hio b hb hk2 => by
        obtain ⟨h1, dr, hdr', h2⟩ := hFb io hio b hb
        rcases hk2 with hk2 | ⟨r, hr, d, hd, hb2⟩
        · exact h1.1 hk2
        · exact h.rel.dis r io.r d dr (fun (e : r = io.r) => hlent io.r (List.mem_map.2 ⟨io, hio, rfl⟩) (by rw [← e]; exact hr)) hd hdr' b hb2 h2
      have hFd : ∀ io ∈ ios, ∀ io' ∈ ios, io ≠ io' → ∀ b ∈ F io, b ∉ F io' := fun io hio io' hio' hne b hb hb' => by
        obtain ⟨_, dr, h1, h2⟩ := hFb io hio b hb
        obtain ⟨_, dr', h1', h2'⟩ := hFb io' hio' b hb'
        exact h.rel.dis io.r io'.r dr dr' (fun e => hne (hrr io hio io' hio' e)) h1 h1' b h2 h2'
      have hofR : ∀ nm d, ofR (ios.map fun io => (io.name, io.d)) nm = some d → ∃ io ∈ ios, io.name = nm ∧ io.d = d := by
        have : ∀ (l : List Io) (nm : Rn) (d : D), ofR (l.map fun io => (io.name, io.d)) nm = some d → ∃ io ∈ l, io.name = nm ∧ io.d = d := by
          intro l nm d
          induction l with
          | nil => intro he; simp [ofR] at he
          | cons x l ih =>
            intro he
            simp only [List.map_cons, ofR] at he
            split at he
            · rename_i e
              injection he with he
              exact ⟨x, by simp, e, he⟩
            · obtain ⟨io, h1, h2⟩ := ih he
              exact ⟨io, List.mem_cons_of_mem _ h1, h2⟩
        exact this ios
      have hofR2 : ∀ io ∈ ios, ofR (ios.map fun io => (io.name, io.d)) io.name = some io.d := by
        intro io hio
        have : ∀ (l : List Io), io ∈ l → (∀ x ∈ l, x.name = io.name → x = io) → ofR (l.map fun io => (io.name, io.d)) io.name = some io.d := by
          intro l
          induction l with
          | nil => intro hio; simp at hio
          | cons x l ih =>
            intro hio hu
            simp only [List.map_cons, ofR]
            split
            · rename_i e
              rw [hu x (by simp) e]
            · rename_i e
              rcases List.mem_cons.1 hio with rfl | hio
              · exact absurd rfl e
              · exact ih hio fun y hy => hu y (List.mem_cons_of_mem _ hy)
        exact this ios hio fun x hx e => hnm x hx io hio e
      let fpL : List Nat := ios.flatMap F
      have hfpL : ∀ b, b ∈ fpL ↔ ∃ io ∈ ios, b ∈ F io := fun b => by
        show b ∈ ios.flatMap F ↔ _
        rw [List.mem_flatMap]
      have hrelc : Rel w fpL ok2 ⟨argEnv args, ofR (ios.map fun io => (io.name, io.d))⟩ (fun t => vs.toList.getD t undef) w ρ' φ' := by
        refine ⟨fun r d hd => ?_, fun r r' d d' hne hd hd' => ?_, fun t => FRL_getD (hargs lent ok2 ⟨argEnv args, ofR (ios.map fun io => (io.name, io.d))⟩ ρ' (fun _ h => h) hL ⟨fun io hio => ⟨hofR2 io hio, by rw [hρ' io hio]; exact (hF io hio).hdr⟩⟩) t, hok2, Keeps.refl w fpL⟩
        · obtain ⟨io, hio, rfl, rfl⟩ := hofR r d hd
          rw [hρ' io hio, hφ' io hio]
          exact ⟨Ow_mono (fun b hb => ⟨.inl hb, rfl⟩) _ _ _ (fun _ _ => rfl) (hF io hio).own, (hF io hio).nod, fun b hb => ⟨hn2 io hio b hb, .inl ((hfpL b).2 ⟨io, hio, hb⟩), (hFb io hio b hb).1.2.2⟩⟩
        · obtain ⟨io, hio, rfl, rfl⟩ := hofR r d hd
          obtain ⟨io', hio', rfl, rfl⟩ := hofR r' d' hd'
          rw [hφ' io hio, hφ' io' hio']
          exact hFd io hio io' hio' fun e => hne (by rw [e])
      have := hcalls w fpL ok2 vs.toList ρ' φ' hlen hrelc
      rw [Array.toArray_toList] at this
      refine Calls.mono this ?_
      rintro e w' ⟨v, outs, res, ok', φd, fr, rfl, hQ, hD⟩
      obtain ⟨uu, hv', hres⟩ := hD.res
      subst hv'
      have hkq := hkk outs res hQ
      have hkeep : ∀ b, ok' b → b < w.heap.size → ok2 b := fun b hb hl => by
        rcases (hD.okn b hb).1 with h2 | h2
        · exact h2
        · omega
      have hokn1 : ∀ b, ok b → (if pure then ok else ok') b := fun b hb => by split; exact hb; exact hD.okm b (.inl hb)
      have hokn2 : ∀ b, (if pure then ok else ok') b → b < w'.heap.size := fun b hb => by
        split at hb
        · exact Nat.lt_of_lt_of_le (h.rel.okb b hb) hD.frm.size
        · exact (hD.okn b hb).2
      have hokn3 : ∀ b, ¬ ok b → b < w.heap.size → ¬ (if pure then ok else ok') b := fun b hb hl hkb => by
        split at hkb
        · exact hb hkb
        · rename_i hp
          rcases hkeep b hkb hl with h2 | ⟨r, hr, _⟩
          · exact hb h2
          · rw [hpl.resolve_left hp] at hr
            simp at hr
      have hokn4 : ∀ b, ¬ ok' b → ¬ (if pure then ok else ok') b := fun b hb hkb => by
        split at hkb
        · exact hb (hD.okm b (.inl hkb))
        · exact hb hkb
      split at hkq
      · rename_i σ1 hput
        have hsp := put_spec ios outs σ σ1 hrn (fun io hio => by
          obtain ⟨dr, hdr', _⟩ := obj_root (hobj io hio)
          exact ⟨dr, hdr'⟩) hput
        have hlo : outs.length = ios.length := hsp.len
        have hzo : ∀ x ∈ ios.zip outs, ofR ((ios.map fun io => (io.name, io.d)).map (·.1) |>.zip outs) x.1.name = some x.2 := by
          have : ∀ (l : List Io) (o : List D), (l.map (·.name)).Nodup → ∀ x ∈ l.zip o, ofR (((l.map fun io => (io.name, io.d)).map (·.1)).zip o) x.1.name = some x.2 := by
            intro l
            induction l with
            | nil => intro o _ x hx; simp at hx
            | cons y l ih =>
              intro o hn x hx
              cases o with
              | nil => simp at hx
              | cons z o =>
                simp only [List.map_cons, List.nodup_cons] at hn
                simp only [List.zip_cons_cons, List.mem_cons] at hx
                simp only [List.map_cons, List.zip_cons_cons, ofR]
                rcases hx with rfl | hx
                · simp
                · have hmem : x.1.name ∈ l.map (·.name) := List.mem_map.2 ⟨x.1, (List.of_mem_zip hx).1, rfl⟩
                  rw [if_neg (fun (e : y.name = x.1.name) => hn.1 (by rw [e]; exact hmem))]
                  exact ih o hn.2 x hx
          exact this ios outs hnn
        have hzip : ∀ io ∈ ios, ∃ d', (io, d') ∈ ios.zip outs := by
          have : ∀ (l : List Io) (o : List D), o.length = l.length → ∀ io ∈ l, ∃ d', (io, d') ∈ l.zip o := by
            intro l
            induction l with
            | nil => intro o _ io hio; simp at hio
            | cons x l ih =>
              intro o ho io hio
              cases o with
              | nil => simp at ho
              | cons y o =>
                simp only [List.length_cons, Nat.add_right_cancel_iff] at ho
                rcases List.mem_cons.1 hio with rfl | h1
                · exact ⟨y, by simp⟩
                · obtain ⟨d', hd'⟩ := ih o ho io h1
                  exact ⟨d', by simp [hd']⟩
          exact this ios outs hlo
        have hnames : (ios.map fun io => (io.name, io.d)).map (·.1) = (ios.map fun io => (io.name, io.d)).map (·.1) := rfl
        have hout : ∀ x ∈ ios.zip outs, Ow w' (if pure then fun _ => False else ok') x.2 (ρ' x.1.name) (φd x.1.name) ∧ (φd x.1.name).Nodup ∧ ∀ b ∈ φd x.1.name, ¬ ok' b ∧ (b ∈ fpL ∨ w.heap.size ≤ b) ∧ b < w'.heap.size := fun x hx => hD.out x.1.name x.2 (hzo x hx)
        obtain ⟨φ2, q1, q2⟩ := h.rel.called (F2 := fun io => φd io.name) (H := H) (F := F) (okn := if pure then ok else ok') (w' := w') hcons hsp hrn (fun io hio => ⟨hobj io hio, hF io hio⟩) hokn1 hokn2 hokn3
          (fun io hio => by
            obtain ⟨d', hz⟩ := hzip io hio
            obtain ⟨_, h2, h3⟩ := hout _ hz
            exact ⟨h2, fun b hb => ⟨((h3 b hb).2.1).imp (fun hh => (hfpL b).1 hh) id, hokn4 b (h3 b hb).1, (h3 b hb).2.2⟩⟩)
          (fun io hio io' hio' hne b hb => by
            obtain ⟨d1, hz1⟩ := hzip io hio
            obtain ⟨d2, hz2⟩ := hzip io' hio'
            exact hD.dis io.name io'.name d1 d2 (fun e => hne (by rw [hnm io hio io' hio' e])) (hzo _ hz1) (hzo _ hz2) b hb)
          (fun b hb hnf => hD.frm.old b hb fun hh => by
            obtain ⟨io, hio, hbf⟩ := (hfpL b).1 hh
            exact hnf io hio hbf) hD.frm.size
          (h.rel.frm.trans hD.frm fun b hb => by
            obtain ⟨io, hio, hbf⟩ := (hfpL b).1 hb
            exact (hFb io hio b hbf).1.2.1)
          (fun x hx => by
            have := (hout x hx).1
            rw [hρ' x.1 (List.of_mem_zip hx).1] at this
            refine Ow_mono (fun b hb => ⟨?_, rfl⟩) _ _ _ (fun _ _ => rfl) this
            cases pure with
            | true => exact hb.elim
            | false => exact hb)
        refine after w' ok' res uu fr σ1 φ2 _ rfl hD.okm hD.okn q1 hres ⟨hD.nod, fun b hb => ?_⟩ hkq (fun hm => absurd (pass_none hm 0 _ _ _ _ hpass) hcons)
        obtain ⟨b1, b2, b3⟩ := hD.bl b hb
        refine ⟨⟨hokn4 b b1, ?_, b3⟩, fun q e he hbq => ?_⟩
        · rcases b2 with b2 | b2
          · obtain ⟨io, hio, hbf⟩ := (hfpL b).1 b2
            exact (hFb io hio b hbf).1.2.1
          · exact .inr (Nat.le_trans h.rel.frm.size b2)
        · rcases q2 q e he b hbq with ⟨e', he', hbq', hnf⟩ | ⟨io, hio, rfl, hbf⟩
          · rcases b2 with b2 | b2
            · obtain ⟨io, hio, hbf⟩ := (hfpL b).1 b2
              exact hnf io hio hbf
            · have := ((h.rel.own q e' he').2.2 b hbq').2.2
              omega
          · obtain ⟨d', hz⟩ := hzip io hio
            exact hD.disr io.name d' (hzo _ hz) b hbf hb
      · exact hkq.elim
  · exact hk.elim

end
end Go.Proofs.Ytdgeponcnlkaiaa.Ab
