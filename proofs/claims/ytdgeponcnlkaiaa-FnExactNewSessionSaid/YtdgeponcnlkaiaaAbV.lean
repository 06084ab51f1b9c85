/- append as an operation. No condition. -/
import Derived.Test.YtdgeponcnlkaiaaAbU
namespace Go.Proofs.Ytdgeponcnlkaiaa.Ab
open Go
set_option linter.unusedSimpArgs false
set_option linter.unusedVariables false
set_option linter.unusedSectionVars false

section
variable {w0 w : World} {fp0 : List Nat} {ok0 ok : Nat → Prop} {W : Nat → Value} {n : Nat} {P : Program} {T : TT} {σ : St} {θ : Nat → Value} {ρ : Rn → Value} {φ : Rn → List Nat} {a : Act}

theorem run_app_none {t t' ty e e' : Nat} {ti : TypeInfo} (ht : P.underlying t = some (.slice e)) (ht' : P.underlying t' = some (.slice e')) (hi : P.info? e = some ti) {base : Option Addr} {u : Value} {a' : Option Addr} {c' : Nat} (hu : u = .slice a' 0 c')
    (hf : (Builtin.firstCells ti.size 0 u).run P w = .ok #[] w) : (Builtin.append_ #[t, t'] ty #[.slice base 0 0, u]).run P w = .ok (.slice base 0 0) w := by
  subst hu
  cases base with
  | none => simp [Builtin.append_, run_underlying ht, run_underlying ht', sizeOf, typeInfo, hi, Builtin.lenOf, hf]
  | some b => simp [Builtin.append_, run_underlying ht, run_underlying ht', sizeOf, typeInfo, hi, Builtin.lenOf, hf, storeCells]

theorem run_app_room {t t' ty e e' : Nat} {ti : TypeInfo} (ht : P.underlying t = some (.slice e)) (ht' : P.underlying t' = some (.slice e')) (hi : P.info? e = some ti) {g q sLen sCap m T : Nat} {cur : Array Value} (hg : w.heap[g]? = some (.cells cur T (0, 0)))
    {u : Value} {a' : Option Addr} {c' : Nat} (hu : u = .slice a' m c') {news : List Value} (hf : (Builtin.firstCells ti.size m u).run P w = .ok news.toArray w) (h1 : ∀ u ∈ news, u.oneCell' = true)
    (hroom : sLen + m ≤ sCap) (hfit : q + sLen * ti.size + news.length ≤ cur.size) :
    (Builtin.append_ #[t, t'] ty #[.slice (some ⟨g, q, none⟩) sLen sCap, u]).run P w =
      .ok (.slice (some ⟨g, q, none⟩) (sLen + m) sCap) (w.setRow g (cur.toList.take (q + sLen * ti.size) ++ news ++ cur.toList.drop (q + sLen * ti.size + news.length)).toArray) := by
  subst hu
  have hst := run_storeCells_at P g (q + sLen * ti.size) T news 0 cur w hg (by simpa using hfit) h1
  simp only [Nat.add_zero] at hst
  simp [Builtin.append_, run_underlying ht, run_underlying ht', sizeOf, typeInfo, hi, Builtin.lenOf, hroom, hf, Addr_add, hst]

theorem run_app_grow {t t' ty e e' : Nat} {ti : TypeInfo} {z : Value} (ht : P.underlying t = some (.slice e)) (ht' : P.underlying t' = some (.slice e')) (hi : P.info? e = some ti) (hz : ti.zero = some z) {base : Option Addr} {sLen sCap m : Nat}
    {olds news : List Value} (hfo : ∀ w', Later w w' → (Builtin.firstCells ti.size sLen (.slice base sLen sCap)).run P w' = .ok olds.toArray w') {u : Value} {a' : Option Addr} {c' : Nat} (hu : u = .slice a' m c') (hf : ∀ w', Later w w' → (Builtin.firstCells ti.size m u).run P w' = .ok news.toArray w')
    (hg : sCap < sLen + m) (hby : 0 < ti.bytes) (hfit : (sLen + m) * ti.bytes ≤ 140737488355328) :
    (Builtin.append_ #[t, t'] ty #[.slice base sLen sCap, u]).run P w =
      .ok (.slice (some ⟨w.heap.size, 0, none⟩) (sLen + m) (grownCap w (sLen + m) sCap e))
        (w.drew.alloc (.cells (olds.toArray ++ news.toArray ++ Builtin.zeroCells z.cells (grownCap w (sLen + m) sCap e - (sLen + m))) e)) := by
  subst hu
  have hn : ¬ (sLen + m ≤ sCap) := by omega
  have hfits := growslice_fits hg hfit
  have h48' : ¬ (281474976710656 < Builtin.nextslicecap (sLen + m) sCap * ti.bytes) := by omega
  have hb0 : ti.bytes ≠ 0 := by omega
  have hl : Later w w.drew := ⟨by simp, fun _ _ => rfl⟩
  have hf' := hf w.drew hl
  have hfo' := hfo w.drew hl
  simp [Builtin.append_, run_underlying ht, run_underlying ht', sizeOf, typeInfo, zeroValue, hi, hz, Builtin.lenOf, hn, h48', hb0, Question.forced, hf', hfo', newRow, grownCap]
  try (congr 2; apply Array.ext'; simp [List.append_assoc])

theorem OwVs_take : ∀ {cs : List D} {us : List Value} {fp : List Nat} (j : Nat), OwVs w ok cs us fp → ∃ f1 f2, fp = f1 ++ f2 ∧ OwVs w ok (cs.take j) (us.take j) f1
  | cs, us, fp, 0, h => ⟨[], fp, rfl, by simp [OwVs]⟩
  | [], us, fp, j + 1, h => by
    simp only [OwVs] at h
    exact ⟨[], fp, rfl, by simp [OwVs, h.1]⟩
  | c :: cs, us, fp, j + 1, h => by
    simp only [OwVs] at h
    obtain ⟨u, vs, g1, g2, rfl, rfl, h1, h2⟩ := h
    obtain ⟨f1, f2, rfl, h3⟩ := OwVs_take j h2
    refine ⟨g1 ++ f1, f2, by simp, ?_⟩
    simp only [List.take_succ_cons, OwVs]
    exact ⟨u, vs.take j, g1, f1, rfl, rfl, h1, h3⟩

/-- Where a source lies, and that what it owns is free now. -/
structure Src (w0 w : World) (fp0 : List Nat) (ok : Nat → Prop) (k n : Nat) (cs : List D) (σ1 : St) (φ1 : Rn → List Nat) (u : Value) (olds : List Value) (fp1 : List Nat) : Prop where
  clen : cs.length = n * k
  len : olds.length = n * k
  own : OwVs w ok cs olds fp1
  nod : fp1.Nodup
  bnd : ∀ x ∈ fp1, Bnd w0 fp0 ok w.heap.size x ∧ ∀ q e, σ1.rts q = some e → x ∉ φ1 q
  at_ : ∃ base cap, u = .slice base n cap ∧ n ≤ cap ∧ ((cap = 0 ∧ n = 0) ∨ ∃ b o cur T, base = some ⟨b, o, none⟩ ∧ cap ≠ 0 ∧ w.heap[b]? = some (.cells cur T (0, 0)) ∧ o + k * cap ≤ cur.size ∧
    (∀ (j : Nat) (v : Value), olds[j]? = some v → w.cell? ⟨b, o + j, none⟩ = some v) ∧ b ∉ fp1 ∧ Bnd w0 fp0 ok w.heap.size b ∧ ∀ q e, σ1.rts q = some e → b ∉ φ1 q)

theorem appSrc_read (h : Rel w0 fp0 ok σ θ w ρ φ) {k n : Nat} {s : FV} {cs : List D} {σ1 : St} {u : Value} (hs : appSrc σ k s = some (n, cs, σ1)) (hu : FR w ok σ ρ s u) :
    ∃ φ1 olds fp1, Rel w0 fp0 ok σ1 θ w ρ φ1 ∧ Src w0 w fp0 ok k n cs σ1 φ1 u olds fp1 ∧ (∀ r2 : Rn, s.rootIs r2 = false → σ1.rts r2 = σ.rts r2) := by
  unfold appSrc at hs
  split at hs
  · injection hs with hs
    injection hs with h1 hs
    injection hs with h2 h3
    subst h1; subst h2; subst h3
    exact ⟨φ, [], [], h, ⟨by simp, by simp, by simp [OwVs], by simp, by simp, ⟨none, 0, FR_v hu, Nat.le_refl _, .inl ⟨rfl, rfl⟩⟩⟩, fun _ _ => rfl⟩
  · injection hs with hs
    injection hs with h1 hs
    injection hs with h2 h3
    subst h1; subst h2; subst h3
    simp only [FR, Sh] at hu
    obtain ⟨a', e⟩ := hu
    exact ⟨φ, [], [], h, ⟨by simp, by simp, by simp [OwVs], by simp, by simp, ⟨a', 0, e, Nat.le_refl _, .inl ⟨rfl, rfl⟩⟩⟩, fun _ _ => rfl⟩
  · rename_i r p n'
    split at hs
    · rename_i k' N cs0 ho
      split at hs
      · rename_i hk
        subst hk
        injection hs with hs
        injection hs with h1 hs
        injection hs with h2 h3
        subst h1
        obtain ⟨hv, fo, φ1, g1, g2, g3, g4, g5, g6, _⟩ := h.takeKill ho
        rw [h3] at g5
        have hroot : ∀ r2 : Rn, FV.rootIs (.al r p 0 n') r2 = false → σ1.rts r2 = σ.rts r2 := fun r2 hr2 => by
          have hne : r2 ≠ r := fun e => by simp [FV.rootIs, e] at hr2
          rw [← h3]
          show (σ.take r p).rts r2 = _
          rw [(take_rts σ r p).1, takeR_ne hne]
        simp only [FR] at hu
        obtain ⟨k2, N2, cs', hv', q1, q2, q3, q4⟩ := hu
        rw [ho] at q1
        cases q1
        rw [g1] at q2
        injection q2 with q2
        subst q2
        have hcs : cs = cs0.take (k' * n') := by
          rw [← h2]
          unfold takeCells
          split
          · rename_i hN
            subst hN
            rw [List.take_of_length_le (by rw [ow_len h ho]; exact Nat.le_refl _)]
          · rfl
        simp only [Ow] at g2
        rcases q4 with ⟨_, a', N', c', e4, e5⟩ | ⟨hlo, _⟩
        · rcases g2 with ⟨rfl, rfl, rfl, a0, e6⟩ | ⟨b, o, c, arr, T, fp', e6, rfl, h5, h6, h7, h8, h9⟩
          · rw [e6] at e4
            cases e4
            have hn : n' = 0 := by omega
            subst hn
            have : cs = [] := by rw [hcs]; simp
            subst this
            exact ⟨φ1, [], [], g5, ⟨by simp, by simp, by simp [OwVs], by simp, by simp, ⟨_, _, e5, Nat.le_refl _, .inl ⟨rfl, rfl⟩⟩⟩, hroot⟩
          · rw [e6] at e4
            cases e4
            obtain ⟨us, u1, u2, u3⟩ := OwL_read h9
            obtain ⟨f1, f2, rfl, u4⟩ := OwVs_take (k' * n') u3
            rw [← hcs] at u4
            have hle : k' * n' ≤ cs0.length := by rw [h8]; exact Nat.mul_le_mul_left _ (by omega)
            have hcl : cs.length = n' * k' := by rw [hcs, List.length_take, Nat.min_eq_left hle, Nat.mul_comm]
            simp only [List.nodup_cons, List.mem_append, not_or] at g3
            refine ⟨φ1, us.take (k' * n'), f1, g5, ⟨hcl, by rw [OwVs_length u4, hcl], u4, (List.nodup_append.1 g3.2).1, fun x hx => ⟨g4 x (by simp [hx]), fun q e he hxq => g6 q e (by rw [← h3] at he; exact he) x hxq (by simp [hx])⟩, ?_⟩, hroot⟩
            refine ⟨_, _, e5, by omega, .inr ⟨b, o, arr, T, rfl, h6.2, h5, h7, fun j v hj => u2 j v ?_, g3.1.1, g4 b (by simp), fun q e he hbq => g6 q e (by rw [← h3] at he; exact he) b hbq (by simp)⟩⟩
            rw [List.getElem?_take] at hj
            split at hj
            · exact hj
            · simp at hj
        · omega
      · simp at hs
    · simp at hs
  · simp at hs

theorem Src.first {k n : Nat} {cs : List D} {σ1 : St} {φ1 : Rn → List Nat} {u : Value} {olds : List Value} {fp1 : List Nat} (h : Src w0 w fp0 ok k n cs σ1 φ1 u olds fp1) (w' : World) (hw : Later w w') :
    (Builtin.firstCells k n u).run P w' = .ok olds.toArray w' := by
  obtain ⟨base, cap, e, _, h1⟩ := h.at_
  subst e
  rcases h1 with ⟨rfl, rfl⟩ | ⟨b, o, cur, T, rfl, _, _, _, h2, _⟩
  · have : olds = [] := List.eq_nil_of_length_eq_zero (by simpa using h.len)
    subst this
    cases base <;> simp [Builtin.firstCells, loadCells, loadCellsFrom]
  · refine run_firstCells_some (P := P) w' k n _ n cap olds h.len fun j v hj => ?_
    rw [Addr_add]
    exact hw.cell (h2 j v hj)

/-- The row behind an append: in its place, or in a new block. -/
theorem append_lay {k n m : Nat} {cs cs2 : List D} {σ1 σf : St} {φ1 φf : Rn → List Nat} {us ux : Value} {olds news : List Value} {fp1 fp2 : List Nat} {t t' ty e e' : Nat} {ti : TypeInfo} {z : Value} {d : Nat}
    (hS : Src w0 w fp0 ok k n cs σ1 φ1 us olds fp1) (hR : Rd w ok k m cs2 ux news) (hf : Rel w0 fp0 ok σf θ w ρ φf) (hφ : ∀ q e, σf.rts q = some e → ∃ e', σ1.rts q = some e' ∧ ∀ x ∈ φf q, x ∈ φ1 q)
    (h2 : OwVs w ok cs2 news fp2) (hsol : solidL cs2) (hn2 : fp2.Nodup) (hb2 : ∀ x ∈ fp2, Bnd w0 fp0 ok w.heap.size x ∧ (∀ q e, σf.rts q = some e → x ∉ φf q) ∧ (∃ q e, σ1.rts q = some e ∧ x ∈ φ1 q))
    (ht : P.underlying t = some (.slice e)) (ht' : P.underlying t' = some (.slice e')) (hi : P.info? e = some ti) (hz : ti.zero = some z) (hzs : z.cells.size = k) (hk : ti.size = k) (hk0 : 0 < k) (hby : 0 < ti.bytes) (hfit : (n + m) * ti.bytes ≤ 140737488355328) (hd : σf.rts (d, 0) = none) :
    ∃ u' w' φ', (Builtin.append_ #[t, t'] ty #[us, ux]).run P w = .ok u' w' ∧ Rel w0 fp0 ok (σf.root (d, 0) (.ow k (n + m) (cs ++ cs2))) θ w' (upR ρ (d, 0) u') φ' ∧ ∃ a' c', u' = .slice a' (n + m) c' := by
  obtain ⟨base, cap, e1, hcap, hat⟩ := hS.at_
  obtain ⟨hfx, a', c', ex⟩ := hR.first (P := P) w (Later.refl w)
  have hlen : (cs ++ cs2).length = k * (n + m) := by rw [List.length_append, hS.clen, hR.clen, ← Nat.add_mul, Nat.mul_comm]
  have hvs : OwVs w ok (cs ++ cs2) (olds ++ news) (fp1 ++ fp2) := OwVs_append hS.own h2
  have hnod : (fp1 ++ fp2).Nodup := by
    rw [List.nodup_append]
    refine ⟨hS.nod, hn2, fun x hx y hy hxy => ?_⟩
    subst hxy
    obtain ⟨_, _, q, e, he, hq⟩ := hb2 x hy
    exact (hS.bnd x hx).2 q e he hq
  have hbnd : ∀ x ∈ fp1 ++ fp2, Bnd w0 fp0 ok w.heap.size x ∧ ∀ q e, σf.rts q = some e → x ∉ φf q := fun x hx => by
    rcases List.mem_append.1 hx with hx | hx
    · refine ⟨(hS.bnd x hx).1, fun q e he hq => ?_⟩
      obtain ⟨e', he', hsub⟩ := hφ q e he
      exact (hS.bnd x hx).2 q e' he' (hsub x hq)
    · exact ⟨(hb2 x hx).1, (hb2 x hx).2.1⟩
  by_cases hroom : n + m ≤ cap
  · rcases hat with ⟨rfl, rfl⟩ | ⟨b, o, cur, T, rfl, hc0, hheap, hsz, hcells, hbn, hbb, hbf⟩
    · have hm : m = 0 := by omega
      subst hm
      have hnn : news = [] := List.eq_nil_of_length_eq_zero (by simpa using hR.len)
      subst hnn
      have h0 : cs ++ cs2 = [] := List.eq_nil_of_length_eq_zero (by simpa using hlen)
      have hrun := run_app_none (ty := ty) (base := base) ht ht' hi ex (by rw [hk]; exact hfx)
      refine ⟨_, w, _, by rw [e1]; exact hrun, hf.root (fp := []) hd ?_ (by simp) (by simp), base, 0, rfl⟩
      rw [h0]
      simp only [Ow]
      exact .inl ⟨trivial, trivial, trivial, base, rfl⟩
    · have hfit' : o + n * ti.size + news.length ≤ cur.size := by
        rw [hk, hR.len]
        have : k * (n + m) ≤ k * cap := Nat.mul_le_mul_left _ hroom
        have e2 : k * (n + m) = n * k + m * k := by rw [Nat.mul_add, Nat.mul_comm k n, Nat.mul_comm k m]
        omega
      have hrun := run_app_room (ty := ty) (P := P) ht ht' hi hheap (sLen := n) (sCap := cap) ex (by rw [hk]; exact hfx) (OwVs_solid hsol h2) hroom hfit'
      generalize hw' : w.setRow b (cur.toList.take (o + n * ti.size) ++ news ++ cur.toList.drop (o + n * ti.size + news.length)).toArray = w' at hrun
      have hnew : w'.heap[b]? = some (.cells (cur.toList.take (o + n * ti.size) ++ news ++ cur.toList.drop (o + n * ti.size + news.length)).toArray T (0, 0)) := by rw [← hw']; exact setRow_heap w b cur _ T _ hheap
      have hoth : ∀ x, x ≠ b → w'.heap[x]? = w.heap[x]? := fun x hx => by rw [← hw']; exact setRow_other w b x _ hx
      have hss : w'.heap.size = w.heap.size := by rw [← hw']; simp [World.setRow]
      have hK : Keeps w0 fp0 w' := ⟨by rw [← hw']; exact hf.frm.os, by rw [← hw']; exact hf.frm.out, by rw [← hw']; exact hf.frm.tape, by rw [hss]; exact hf.frm.size, fun x hx hn => by
        rw [hoth x (by rintro rfl; rcases hbb.2.1 with h | h; exact hn h; omega)]; exact hf.frm.old x hx hn⟩
      have hbf' : ∀ q e, σf.rts q = some e → b ∉ φf q := fun q e he hq => by
        obtain ⟨e', he', hsub⟩ := hφ q e he
        exact hbf q e' he' (hsub b hq)
      have hf2 := hf.frame (w' := w') (fun x ⟨q, e, he, hq⟩ => hoth x (by rintro rfl; exact hbf' q e he hq)) (fun x hx => hoth x (by rintro rfl; exact hbb.1 hx)) (by rw [hss]; exact Nat.le_refl _) hK
      have hb12 : b ∉ fp1 ++ fp2 := fun hb => by
        rcases List.mem_append.1 hb with hb | hb
        · exact hbn hb
        · obtain ⟨_, _, q, e, he, hq⟩ := hb2 b hb
          exact hbf q e he hq
      have hcellw : ∀ (j : Nat) (v : Value), (olds ++ news)[j]? = some v → w'.cell? ⟨b, o + j, none⟩ = some v := fun j v hj => by
        simp only [World.cell?, hnew, Option.isSome_none, Bool.false_eq_true, if_false]
        rw [← Array.getElem?_toList]
        simp only
        have htl : (cur.toList.take (o + n * ti.size)).length = o + n * ti.size := by
          rw [List.length_take, Array.length_toList]
          omega
        rcases Nat.lt_or_ge j olds.length with hjl | hjl
        · rw [List.getElem?_append_left hjl] at hj
          have hc := hcells j v hj
          simp only [World.cell?, hheap, Option.isSome_none, Bool.false_eq_true, if_false] at hc
          rw [hS.len] at hjl
          rw [List.append_assoc, List.getElem?_append_left (by rw [htl, hk]; omega), List.getElem?_take, if_pos (by rw [hk]; omega), Array.getElem?_toList]
          exact hc
        · rw [List.getElem?_append_right hjl] at hj
          rw [hS.len] at hjl hj
          have hjn : j - n * k < news.length := by
            rcases Nat.lt_or_ge (j - n * k) news.length with h | h
            · exact h
            · rw [List.getElem?_eq_none h] at hj; simp at hj
          rw [List.getElem?_append_left (by rw [List.length_append, htl, hk]; omega), List.getElem?_append_right (by rw [htl, hk]; omega), htl, hk, show o + j - (o + n * k) = j - n * k by omega]
          exact hj
      have hOw : Ow w' ok (.ow k (n + m) (cs ++ cs2)) (.slice (some ⟨b, o, none⟩) (n + m) cap) (b :: (fp1 ++ fp2)) := by
        simp only [Ow]
        refine .inr ⟨b, o, cap, _, T, fp1 ++ fp2, rfl, rfl, hnew, ⟨hroom, hc0⟩, ?_, hlen, OwL_lay (fun x hx => hoth x (by rintro rfl; exact hbb.1 hx)) hvs hcellw (fun x hx => hoth x (by rintro rfl; exact hb12 hx))⟩
        simp only [List.size_toArray, List.length_append, List.length_take, List.length_drop, Array.length_toList]
        omega
      refine ⟨_, w', _, by rw [e1]; exact hrun, hf2.root hd hOw (List.nodup_cons.2 ⟨hb12, hnod⟩) (fun x hx => ?_), _, _, rfl⟩
      rcases List.mem_cons.1 hx with rfl | hx
      · exact ⟨hbf', hbb.1, hbb.2.1, by rw [hss]; exact hbb.2.2⟩
      · obtain ⟨g1, g2⟩ := hbnd x hx
        exact ⟨g2, g1.1, g1.2.1, by rw [hss]; exact g1.2.2⟩
  · have hrun := run_app_grow (ty := ty) (P := P) (z := z) ht ht' hi hz (base := base) (sLen := n) (sCap := cap) (olds := olds) (news := news) (fun w' hw' => by rw [hk, ← e1]; exact hS.first w' hw') ex (fun w' hw' => by rw [hk]; exact (hR.first w' hw').1) (by omega) hby hfit
    have hge := grownCap_ge w (n + m) cap e
    generalize hcp : grownCap w (n + m) cap e = cp at hrun hge
    generalize hB : olds.toArray ++ news.toArray ++ Builtin.zeroCells z.cells (cp - (n + m)) = B at hrun
    have hnew : (w.drew.alloc (.cells B e)).heap[w.heap.size]? = some (.cells B e (0, 0)) := heap_alloc_new w.drew _
    have hBs : B.size = k * cp := by
      rw [← hB]
      simp only [Array.size_append, List.size_toArray, size_zeroCells, hzs, hS.len, hR.len, ← Nat.add_mul]
      rw [show n + m + (cp - (n + m)) = cp by omega, Nat.mul_comm]
    have hcellw : ∀ (j : Nat) (v : Value), (olds ++ news)[j]? = some v → (w.drew.alloc (.cells B e)).cell? ⟨w.heap.size, 0 + j, none⟩ = some v := fun j v hj => by
      rw [Nat.zero_add]
      refine cell_alloc (w := w.drew) B e ?_
      rw [← hB, ← Array.getElem?_toList]
      simp only [Array.toList_append]
      rw [List.getElem?_append_left (by
        rcases Nat.lt_or_ge j (olds ++ news).length with h | h
        · simpa using h
        · rw [List.getElem?_eq_none h] at hj; simp at hj)]
      exact hj
    have hold : ∀ x, x < w.heap.size → (w.drew.alloc (.cells B e)).heap[x]? = w.heap[x]? := fun x hx => Go.RowKit.Below.heap_alloc w.drew _ x hx
    have hOw : Ow (w.drew.alloc (.cells B e)) ok (.ow k (n + m) (cs ++ cs2)) (.slice (some ⟨w.heap.size, 0, none⟩) (n + m) cp) (w.heap.size :: (fp1 ++ fp2)) := by
      simp only [Ow]
      exact .inr ⟨w.heap.size, 0, cp, B, e, fp1 ++ fp2, rfl, rfl, hnew, ⟨hge, by omega⟩, by omega, hlen, OwL_lay (fun x hx => hold x (hf.okb x hx)) hvs hcellw (fun x hx => hold x (hbnd x hx).1.2.2)⟩
    refine ⟨_, _, _, by rw [e1]; exact hrun, (hf.drew.alloc (.cells B e)).root hd hOw (List.nodup_cons.2 ⟨fun hx => ?_, hnod⟩) (fun x hx => ?_), _, _, rfl⟩
    · have := (hbnd _ hx).1.2.2
      omega
    · rcases List.mem_cons.1 hx with rfl | hx
      · exact fresh_bnd hf.drew _
      · obtain ⟨g1, g2⟩ := hbnd x hx
        exact ⟨g2, g1.1, g1.2.1, by simp; omega⟩

theorem append_sound {C : Ctx} (hT : tabB C.P C.T = true) {o : Oper} (ho : smallO n o = true) {c : Call} {t t' : Nat} {x y : Operand} (hop : o.op = .call c) (hcb : c.callee = .builtin .append) (hargs : c.args.toList = [x, y]) (htys : c.argTypes.toList = [t, t']) {K : St → Prop}
    (hk : AAppend C o.dst t t' (opv σ x) (opv σ y) σ K) (h : Stx w0 fp0 ok0 W n σ a w ok θ ρ φ) : Ends C.P o a w K (Ste w0 fp0 ok0 W n) := by
  have hargs' : c.args = #[x, y] := by rw [← Array.toList_inj]; exact hargs
  have htys' : c.argTypes = #[t, t'] := by rw [← Array.toList_inj]; exact htys
  have hxv := h.ops ho x (by rw [hop]; simp [Op.operands, Call.operands, hcb, hargs'])
  have hyv := h.ops ho y (by rw [hop]; simp [Op.operands, Call.operands, hcb, hargs'])
  unfold AAppend at hk
  split at hk
  · rename_i d ti ti' hd hti hti'
    split at hk
    · rename_i e e' hke hke'
      split at hk
      · rename_i i hi
        split at hk
        · rename_i n' cs σ1 hsrc
          split at hk
          · rename_i m cs2 mv hnew
            obtain ⟨⟨hby, hsz⟩, hr, hfit, hk1, hk2⟩ := hk
            have hrow := tab_ok hT hi
            obtain ⟨tin, t1, t2, t3, z, t4, t5, _⟩ := hrow.info
            have hu := kd_sl (tab_ok hT hti) hke
            have hu' := kd_sl (tab_ok hT hti') hke'
            have hzs : z.cells.size = i.size := by rw [← Array.length_toList, t5, hrow.len]
            obtain ⟨φ1, olds, fp1, hrel, hS, hroot⟩ := appSrc_read h.rel hsrc hxv
            obtain ⟨news, hR⟩ := appNew_read h.rel hnew hyv
            have fin : ∀ (σf : St) (u' : Value) (w' : World) (φ' : Rn → List Nat), (Builtin.append_ #[t, t'] o.type #[a.eval x, a.eval y]).run C.P w = .ok u' w' →
                Rel w0 fp0 ok (σf.root (d, 0) (.ow i.size (n' + m) (cs ++ cs2))) θ w' (upR ρ (d, 0) u') φ' → (∃ a' c', u' = .slice a' (n' + m) c') →
                K { (σf.root (d, 0) (.ow i.size (n' + m) (cs ++ cs2))) with env := upd σf.env d (.al (d, 0) [] 0 (n' + m)) } → Ends C.P o a w K (Ste w0 fp0 ok0 W n) := by
              intro σf u' w' φ' hrun hrel' ⟨a', c', e1⟩ hK
              have hrun' : (execOp a.eval o).run C.P w = .ok (.value u') w' := by
                simp [execOp, hop, resolve, hcb, hargs', htys', invoke, builtin, hrun]
              have hs : Stx w0 fp0 ok0 W n _ a w' ok θ _ φ' := ⟨hrel', h.th, h.oks, h.okn, h.dfr, h.sz⟩
              have hf : FR w' ok (σf.root (d, 0) (.ow i.size (n' + m) (cs ++ cs2))) (upR ρ (d, 0) u') (.al (d, 0) [] 0 (n' + m)) u' := by
                simp only [FR]
                exact ⟨i.size, n' + m, cs ++ cs2, u', by simp [St.obj, St.root, look], by simp [hdr, upR], by omega, .inl ⟨rfl, a', n' + m, c', e1, e1⟩⟩
              exact ends_value hrun' hK (hs.fin ho hd hf)
            by_cases hl : leafL cs2
            · obtain ⟨u', w', φ', g1, g2, g3⟩ := append_lay (P := C.P) (ty := o.type) (d := d) hS hR hrel (fun q e he => ⟨e, he, fun _ h => h⟩) (OwVs_leaf hl (hR.leaf hl)) (leaf_solid hl) (by simp) (by simp) hu hu' t1 t4 hzs t2 hsz (by rw [t3]; exact hby) (by rw [t3]; exact hfit) hr
              exact fin σ1 u' w' φ' g1 g2 g3 (hk1 hl)
            · replace hk2 := hk2 hl
              obtain ⟨hsol, hk3⟩ := hk2
              split at hk3
              · rename_i r2
                split at hk3
                · rename_i d2 hd2
                  obtain ⟨⟨hne, hri⟩, hk2⟩ := hk3
                  have hob : σ.obj r2 [] = some (.ow i.size m cs2) ∧ opv σ y = .al r2 [] 0 m := by
                    unfold appNew at hnew
                    split at hnew
                    · simp at hnew
                    · simp at hnew
                    · split at hnew <;> simp at hnew
                    · rename_i r p lo n2 hy
                      split at hnew
                      · rename_i k' N cs3 ho3
                        split at hnew
                        · rename_i hkk
                          subst hkk
                          split at hnew
                          · rename_i hc
                            simp only [Option.some.injEq, Prod.mk.injEq] at hnew
                            obtain ⟨e1, e2, e3⟩ := hnew
                            obtain ⟨c1, c2, c3⟩ := hc
                            subst c1; subst c2; subst c3; subst e1; subst e2; subst e3
                            exact ⟨ho3, hy⟩
                          · simp at hnew
                        · simp at hnew
                      · simp at hnew
                    · split at hnew
                      · split at hnew
                        · split at hnew <;> simp at hnew
                        · simp at hnew
                      · simp at hnew
                    · simp at hnew
                  have hob1 : σ1.obj r2 [] = some (.ow i.size m cs2) := by
                    have := hob.1
                    unfold St.obj at this ⊢
                    rw [hroot r2 hri]
                    exact this
                  obtain ⟨hv2, fo2, φ2, q1, q2, q3, q4, q5, q6, _⟩ := hrel.takeKill hob1
                  have hrts2 : σ1.rts r2 = some (.ow i.size m cs2) := by
                    unfold St.obj at hob1
                    split at hob1
                    · rename_i dd hdd
                      simp only [look, Option.some.injEq] at hob1
                      rw [hdd, hob1]
                    · simp at hob1
                  have hfo2 : fo2 = φ1 r2 := by
                    have h1 := (hrel.own r2 _ hrts2).1
                    have e0 : ρ r2 = hv2 := by simpa [hdr] using q1
                    rw [e0] at h1
                    exact Ow_unique _ _ _ _ q2 h1
                  rw [hob.2] at hyv
                  simp only [FR] at hyv
                  obtain ⟨k2, N2, cs3, hv3, y1, y2, y3, y4⟩ := hyv
                  rw [hob.1] at y1
                  cases y1
                  have e3 : hv3 = hv2 := by
                    have : hdr w (ρ r2) [] = some hv2 := q1
                    rw [y2] at this
                    injection this
                  subst e3
                  have hown : ∃ fp2, OwVs w ok cs2 news fp2 ∧ fp2.Nodup ∧ ∀ z ∈ fp2, z ∈ fo2 := by
                    simp only [Ow] at q2
                    rcases q2 with ⟨rfl, rfl, rfl, a0, e6⟩ | ⟨b, ob, c', arr, T, fp', e6, rfl, h5, h6, h7, h8, h9⟩
                    · exact absurd trivial hl
                    · obtain ⟨us, u1, u2, u3⟩ := OwL_read h9
                      have hcl : cs2.length = m * i.size := hR.clen
                      refine ⟨fp', ?_, (List.nodup_cons.1 q3).2, fun z hz => List.mem_cons_of_mem _ hz⟩
                      have : us = news := by
                        obtain ⟨a', c2, ex, hx⟩ := hR.at_
                        rcases y4 with ⟨_, a3, N3, c3, y5, y6⟩ | ⟨hlo, _⟩
                        · rw [e6] at y5
                          cases y5
                          rw [ex] at y6
                          injection y6 with y6 _ _
                          subst y6
                          rcases hx with rfl | ⟨b', o', e7, hx⟩
                          · have h0 : cs2.length = 0 := by rw [hcl]; simpa using hR.len.symm
                            exact List.eq_nil_of_length_eq_zero (by rw [u1, h0])
                          · injection e7 with e7
                            injection e7 with e7 e8 _
                            subst e7; subst e8
                            apply List.ext_getElem?
                            intro j
                            rcases Nat.lt_or_ge j us.length with hj | hj
                            · have hj2 : j < news.length := by rw [hR.len, ← hcl, ← u1]; exact hj
                              have g1 := u2 j us[j] (List.getElem?_eq_getElem hj)
                              have g2 := hx j news[j] (List.getElem?_eq_getElem hj2)
                              rw [g1] at g2
                              rw [List.getElem?_eq_getElem hj, List.getElem?_eq_getElem hj2, g2]
                            · have hj2 : news.length ≤ j := by rw [hR.len, ← hcl, ← u1]; exact hj
                              rw [List.getElem?_eq_none hj, List.getElem?_eq_none hj2]
                        · omega
                      rw [← this]
                      exact u3
                  obtain ⟨fp2, f1, f2, f3⟩ := hown
                  have hrf : ((σ1.take r2 []).kill r2 []).rts = takeR σ1.rts r2 [] := (take_rts σ1 r2 []).1
                  obtain ⟨u', w', φ', g1, g2, g3⟩ := append_lay (P := C.P) (ty := o.type) (d := d) (σf := (σ1.take r2 []).kill r2 []) (φf := φ1) hS hR
                    (Rel.of_rts (by rw [hrf]; exact hrel.rts_.drop r2) q5.env hrel.okb hrel.frm)
                    (fun q e he => by
                      rw [hrf] at he
                      exact ⟨e, putR_none he, fun _ h => h⟩) f1 hsol f2
                    (fun z hz => by
                      have hzm := f3 z hz
                      refine ⟨q4 z hzm, fun q e he hzq => ?_, r2, _, hrts2, by rw [← hfo2]; exact hzm⟩
                      rw [hrf] at he
                      have hqr : q ≠ r2 := fun e => by subst e; simp [takeR, putR] at he
                      rw [takeR_ne hqr] at he
                      exact hrel.dis q r2 _ _ hqr he hrts2 z hzq (by rw [← hfo2]; exact hzm))
                    hu hu' t1 t4 hzs t2 hsz (by rw [t3]; exact hby) (by rw [t3]; exact hfit) (by rw [hrf, takeR_ne (Ne.symm hne)]; exact hr)
                  exact fin _ u' w' φ' g1 g2 g3 hk2
                · exact hk3.elim
              · exact hk3.elim
          · exact hk.elim
        · exact hk.elim
      · exact hk.elim
    · exact hk.elim
  · exact hk.elim

end
end Go.Proofs.Ytdgeponcnlkaiaa.Ab
