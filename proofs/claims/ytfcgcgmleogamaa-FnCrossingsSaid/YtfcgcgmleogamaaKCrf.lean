/- Denominators of lengths: the law. A code of bytes as an argument, read as a tree. Denominators of lengths: the law, with its argument. No condition. -/
import Derived.Test.YtfcgcgmleogamaaKCre
import Derived.Test.YtfcgcgmleogamaaKCrc
import Derived.Test.YtfcgcgmleogamaaKCrd
set_option linter.unusedVariables false
set_option linter.unusedSimpArgs false
set_option linter.unusedSectionVars false
namespace Go.Proofs.Ytfcgcgmleogamaa.Ab
open Go
set_option linter.unusedSimpArgs false
set_option linter.unusedVariables false
set_option maxRecDepth 10000
set_option maxHeartbeats 4000000
theorem lowL_low {f : Lau} {n : Nat} (hn : f.v = n) (hne : f.ts ≠ []) (he : ∀ t ∈ f.ts, t.e.length = n) {i : Nat} (hi : i < n) : ∃ h : i < (lowL f.ts n).length, Low (plist f) i ((lowL f.ts n)[i]) := by
  have h0 : i < (lowL f.ts n).length := by simpa [lowL] using hi
  refine ⟨h0, ?_⟩
  have e : (lowL f.ts n)[i] = minF (headE f.ts i) f.ts i := lowA_get _ _ _ _ hi
  rw [e]
  obtain ⟨h1, h2, h3⟩ := minF_le (headE f.ts i) i f.ts
  refine ⟨?_, fun x hx => ?_⟩
  · rcases h3 with h3 | ⟨t, ht, h3⟩
    · obtain ⟨t, ts, hts⟩ := List.exists_cons_of_ne_nil hne
      refine ⟨pr t, List.mem_map.2 ⟨t, by rw [hts]; simp, rfl⟩, ?_⟩
      rw [h3, hts]
      rfl
    · exact ⟨pr t, List.mem_map.2 ⟨t, ht, rfl⟩, h3.symm⟩
  · obtain ⟨t, ht, rfl⟩ := List.mem_map.1 hx
    exact h2 t ht
theorem crL_len (l : List Dg) (d : Dg) : (crL l d).length = l.length := by simp [crL]
theorem crL_get (l : List Dg) (d : Dg) {i : Nat} (h : i < l.length) : ∃ h2 : i < (crL l d).length, (crL l d)[i] = if crs d l[i] = true then 1 else 0 := ⟨by rw [crL_len]; exact h, by simp [crL]⟩
theorem den_eq {v : Nat} {l : List Dg} (h : Tri v l) (h7 : v ≤ 7) {d : Dg} (hd : d ∈ allD v) (hm : d ∉ l) : denL (lnL v l d.1 d.2) = crL l d := by
  obtain ⟨a, c⟩ := d
  have hb := allD_mem.1 hd
  have hL := lnL_ok h (a := a) (c := c) (by omega) (by omega) (by omega)
  have hlow := lnL_low h h7 (a := a) (c := c) (by omega) (by omega) (by omega)
  have hln := h.len
  have hv := hL.lb.v
  have hvn : (lnL v l a c).v.toNat = v - 3 := by rw [hv]; omega
  have hne : (lnL v l a c).ts ≠ [] := fun e => hL.pos.1 (by simp [plist, e])
  have hel : ∀ t ∈ (lnL v l a c).ts, t.e.length = v - 3 := fun t ht => (hL.lb.ex (pr t) (List.mem_map.2 ⟨t, ht, rfl⟩)).1
  dsimp only
  refine List.ext_getElem (by rw [denL_length, crL_len, hvn]; omega) fun i h1 h2 => ?_
  have hi : i < l.length := by rw [crL_len] at h2; exact h2
  obtain ⟨h3, h4⟩ := lowL_low hv hne hel (i := i) (by omega)
  have h5 := h4.uniq (hlow i hi)
  obtain ⟨_, h6⟩ := crL_get l (a, c) hi
  rw [h6]
  have h7 : (denL (lnL v l a c))[i] = -((lowL (lnL v l a c).ts (v - 3))[i]'h3) := by
    simp only [denL, List.getElem_map, hvn]
  rw [h7, h5]
  have hgm : l.getD i (0, 0) = l[i] := by simp [List.getD_eq_getElem?_getD, hi]
  unfold loI
  rw [hgm, srt_lt (show a < c by omega)]
  by_cases hc : crs (a, c) l[i] = true
  · rw [if_pos hc, if_pos hc]
    rfl
  · rw [if_neg hc, if_neg hc, if_neg]
    · rfl
    · intro e
      exact hm (e ▸ List.getElem_mem hi)
def csP (l : List Dg) (d : Dg) (i : Nat) : Nat := (l.take i).countP (crs d)
theorem csP_succ {l : List Dg} {d : Dg} {i : Nat} (h : i < l.length) : csP l d (i + 1) = csP l d i + if crs d l[i] = true then 1 else 0 := by
  unfold csP
  rw [List.take_succ_eq_append_getElem h, List.countP_append]
  simp [List.countP_cons]
theorem csP_le (l : List Dg) (d : Dg) (i : Nat) : csP l d i ≤ i := by
  unfold csP
  exact Nat.le_trans List.countP_le_length (by simp; omega)
theorem lnL_at {v : Nat} {l : List Dg} (h : Tri v l) {d : Dg} {i : Nat} (hi : i < l.length) (e : l[i] = d) : lnL v l d.1 d.2 = unitF (v - 3) i ∧ ∀ j, csP l d j = 0 := by
  have hm : d ∈ l := e ▸ List.getElem_mem hi
  have hb := tri_mem h hm
  have hs := srt_lt hb.1
  refine ⟨lnL_eq h (len_diag h (by omega) (by omega) (by omega) (by rw [hs, List.getElem?_eq_getElem hi, e])), fun j => ?_⟩
  unfold csP
  rw [List.countP_eq_zero]
  intro f hf
  have := kn_no_cross h (a := d.1) (c := d.2) (by omega) (by omega) (by omega) (kn_diag (by rw [hs]; exact hm)) (List.mem_of_mem_take hf)
  rw [hs] at this
  rw [this]
  simp
theorem cs_pos {v : Nat} {l : List Dg} (h : Tri v l) {d : Dg} (hd : d ∈ allD v) (hm : d ∉ l) : 0 < csP l d l.length := by
  obtain ⟨a, c⟩ := d
  have hb := allD_mem.1 hd
  have hv := h.vb
  have hs := srt_lt (show a < c by omega)
  have hkn : kn v l a c = false := by
    rw [Bool.eq_false_iff]
    intro hk
    unfold kn knD at hk
    rw [hs, Bool.or_eq_true] at hk
    rcases hk with hk | hk
    · simp only [sd, Bool.or_eq_true, Bool.and_eq_true] at hk
      rcases hk with hk | ⟨hk, hk2⟩
      · have := Nat.eq_of_beq_eq_true hk
        omega
      · have := Nat.eq_of_beq_eq_true hk
        have := Nat.eq_of_beq_eq_true hk2
        omega
    · rw [List.any_eq_true] at hk
      obtain ⟨e, he, hq⟩ := hk
      rw [dgq_eq] at hq
      exact hm (hq ▸ he)
  obtain ⟨⟨e, he, hg⟩, -⟩ := tri_good h (a := a) (c := c) (by omega) (by omega) (by omega) hkn
  simp only [good, Bool.and_eq_true] at hg
  unfold csP
  rw [List.take_length, List.countP_pos_iff]
  rw [hs] at hg
  exact ⟨e, he, hg.1⟩
theorem laws_FnCrossings_calls (xs : List Int) (hb : ∀ x ∈ xs, 0 ≤ x ∧ x ≤ 255) : ACalls Try.prog F.laws_FnCrossings [.d (.sh 1 xs.length (byts xs))] [] true (fun outs res => outs = [] ∧ res = [.one (D.bool true)]) := by
  refine ACalls.of_body (C := C.laws_FnCrossings) (n := Try.f5.ntmps) tabT folT Try.func5 rfl (by kernel_rfl) rfl (Nat.le_of_ble_eq_true rfl) (by decide) (by kernel_rfl) (by kernel_rfl) rfl (by simp) (by simp) ?_
  simp only [Try.f5]
  refine wseq ?_
  refine wreg fun K hK => ?_
  simp [C.laws_FnCrossings]
  refine hK _ ?_; clear hK K
  show AWp _ _ _ _ _
  refine wseq ?_
  refine wseq ?_
  refine wregI ([0, 1] ++ ([])) rfl fun K hK => ?_
  refine opsI_seg fun L hL => ?_
  simp [C.laws_FnCrossings]
  refine wcall1 (laws_big_calls xs) (by simp) (by simp) ?_
  simp [C.laws_FnCrossings]
  refine hL _ ?_; clear hL L
  refine opsI_end fun L hL => ?_
  simp only [AOpsI]
  refine hL _ ?_; clear hL L
  simp [C.laws_FnCrossings]
  refine hK _ ?_; clear hK K
  show AWp _ _ _ _ _
  refine wcond _ rfl (fun hc1 => ?_) (fun hc1 => ?_)
  · refine wseq ?_
    refine wreg fun K hK => ?_
    simp [C.laws_FnCrossings]
    refine hK _ ?_; clear hK K
    show AWp _ _ _ _ _
    refine wret ?_
    simp [C.laws_FnCrossings]
  · have hx : xs.length ≤ 1048576 := by have := d_f hc1; omega
    refine wskip ?_
    show AWp _ _ _ _ _
    refine wseq ?_
    refine wregI ([0, 1] ++ ([2, 3, 4, 5, 6, 7, 8, 9, 10, 11])) rfl fun K hK => ?_
    refine opsI_seg fun L hL => ?_
    simp [C.laws_FnCrossings]
    refine wcall (spec_DrawFlips_calls xs hx) (by simp) (by simp) (by simp) ?_
    rintro outs res ⟨v, l, ks, d, hv, hT, hks, hd, rfl, rfl⟩
    simp [C.laws_FnCrossings]
    refine hL _ ?_; clear hL L
    refine opsI_end fun L hL => ?_
    simp [C.laws_FnCrossings]
    refine hL _ ?_; clear hL L
    simp [C.laws_FnCrossings]
    refine hK _ ?_; clear hK K
    show AWp _ _ _ _ _
    refine wseq ?_
    have hbd : (d.1, d.2) ∈ allD v := hd
    have hbm := allD_mem.1 hbd
    have hll := hT.len
    have hw3 : IntKind.i64.wrap ((v : Int) - 3) = (l.length : Int) := by rw [wrapOk (by omega) (by omega)]; omega
    have hA := iArc_calls v (l.map dgI) (dgI (d.1, d.2)) (by rw [List.length_map]; omega)
    rw [arcF_at hT hbd] at hA
    simp only [agD, dgI, List.length_map] at hA
    have hL := lnL_ok hT (a := d.1) (c := d.2) (by omega) (by omega) (by omega)
    have hden := den_eq hT hv.2 hd
    have hat := @lnL_at v l hT d
    have hcp := cs_pos hT hd
    have hX := impl_CrossingsOf_calls v l d hT hd
    have hxl := crL_len l d
    have hPos := impl_IsPositiveP_calls (lnL v l d.1 d.2) hL.lb.right hL.pos
    have hsm := hL.sm
    obtain ⟨f, hf⟩ : ∃ f, f = lnL v l d.1 d.2 := ⟨_, rfl⟩
    rw [← hf] at hA hL hden hPos hsm
    simp only [← hf] at hat
    have hne : f.ts ≠ [] := fun e => hL.pos.1 (by simp [plist, e])
    have hDen := iDen_some f hsm.1 hsm.2 ⟨hL.lb.right, hne⟩
    obtain ⟨X, hXe⟩ : ∃ X, X = crL l d := ⟨_, rfl⟩
    rw [← hXe] at hX hxl hden
    refine wregI ([0, 1, 2, 3] ++ ([4, 5, 6, 7, 8, 9])) rfl fun K hK => ?_
    refine opsI_seg fun L hL => ?_
    simp [C.laws_FnCrossings, fO]
    refine wcall1 (hA) (by simp [fO]) (by simp) ?_
    simp [C.laws_FnCrossings, fO]
    refine hL _ ?_; clear hL L
    refine opsI_end fun L hL => ?_
    simp [C.laws_FnCrossings, fO]
    refine hL _ ?_; clear hL L
    simp [C.laws_FnCrossings, fO]
    refine hK _ ?_; clear hK K
    show AWp _ _ _ _ _
    refine wseq ?_
    refine wregI ([0, 1, 2, 3] ++ ([4])) rfl fun K hK => ?_
    refine opsI_seg fun L hL => ?_
    simp [C.laws_FnCrossings, fO]
    refine wcall1 (hX) (by simp) (by simp) ?_
    simp [C.laws_FnCrossings, fO]
    refine hL _ ?_; clear hL L
    refine opsI_end fun L hL => ?_
    simp [C.laws_FnCrossings, fO]
    refine hL _ ?_; clear hL L
    simp [C.laws_FnCrossings, fO]
    refine hK _ ?_; clear hK K
    show AWp _ _ _ _ _
    refine wseq ?_
    refine wseq ?_
    refine wregI ([0, 1, 2, 3, 4] ++ ([5, 6, 7, 8, 9, 10, 11, 12, 13])) rfl fun K hK => ?_
    refine opsI_seg fun L hL => ?_
    simp [C.laws_FnCrossings, fO, hw3, hxl]
    refine wcall1 (hPos) (by simp [fO, hw3, hxl]) (by simp) ?_
    simp [C.laws_FnCrossings, fO, hw3, hxl]
    refine hL _ ?_; clear hL L
    refine opsI_end fun L hL => ?_
    simp [C.laws_FnCrossings, fO, hw3, hxl]
    refine hL _ ?_; clear hL L
    simp [C.laws_FnCrossings, fO, hw3, hxl]
    refine hK _ ?_; clear hK K
    show AWp _ _ _ _ _
    refine wcond _ rfl (fun hc2 => ?_) (fun hc2 => ?_)
    · simp [hxl] at hc2
    · refine wskip ?_
      show AWp _ _ _ _ _
      refine wseq ?_
      refine wreg fun K hK => ?_
      simp [C.laws_FnCrossings]
      refine hK _ ?_; clear hK K
      show AWp _ _ _ _ _
      refine wseq ?_
      refine wseq ?_
      refine wreg fun K hK => ?_
      simp [C.laws_FnCrossings]
      refine hK _ ?_; clear hK K
      show AWp _ _ _ _ _
      refine wblock ?_
      refine wloop (fun i : Nat => ⟨ofL [(3, .int v), (4, .al (4, 0) [] 0 l.length), (6, .pt (6, 0) [] 0), (7, .pt (7, 0) [] 0), (9, .al (9, 0) [] 0 l.length), (10, .int (csP l d i)), (11, .int i)], ofRO [((4, 0), some (.ow 2 l.length (rows gM (l.map dgI)))), ((6, 0), some (.bx [D.int d.1, D.int d.2])), ((7, 0), some (.bx [D.int f.v, .ow 2 f.ts.length (rows tO f.ts)])), ((9, 0), some (.ow 1 l.length (ints X)))]⟩) (fun i => i ≤ l.length ∧ d ∉ l.take i) (fun i => l.length - i) 0 (by simp [C.laws_FnCrossings, owI, hxl, csP]) (by simp) ?_
      intro x1 hx1 R1 hR1
      obtain ⟨hi0, hno⟩ := hx1
      refine wseq ?_
      refine wseq ?_
      refine wreg fun K hK => ?_
      simp [C.laws_FnCrossings]
      refine hK _ ?_; clear hK K
      show AWp _ _ _ _ _
      refine wcond _ rfl (fun hc3 => ?_) (fun hc3 => ?_)
      · have h1 : x1 < l.length := by have := d_t hc3; simpa using this
        have hXl : x1 < X.length := by omega
        obtain ⟨_, hs0, hs1⟩ := dgm_at l h1
        obtain ⟨_, hg0⟩ := crL_get l d h1
        have hxv : X[x1] = if crs d l[x1] = true then 1 else 0 := by simp only [hXe]; exact hg0
        have hcs := csP_succ (d := d) h1
        have hcl := csP_le l d x1
        have hwx : IntKind.i64.wrap ((csP l d x1 : Int) + X[x1]) = (csP l d (x1 + 1) : Int) := by
          rw [hcs, hxv]
          split
          · rw [wrapOk (by omega) (by omega)]
            omega
          · rw [wrapOk (by omega) (by omega)]
            omega
        have hxq : (X[x1] == 1) = crs l[x1] d := by
          rw [hxv, crs_sym l[x1] d]
          cases crs d l[x1] <;> rfl
        have hdg := isDg_of hT.vb hd
        have heg := isDg_of hT.vb (hT.mem _ (List.getElem_mem h1))
        have hcx := impl_DiagonalsCross_calls v l[x1].1 l[x1].2 d.1 d.2
        have hcb : decide (IsDg v ((l[x1].1 : Int), (l[x1].2 : Int)) ∧ IsDg (v : Int) ((d.1 : Int), (d.2 : Int)) ∧ CrI ((l[x1].1 : Int), (l[x1].2 : Int)) ((d.1 : Int), (d.2 : Int))) = crs l[x1] d := by
          rw [Bool.eq_iff_iff, decide_eq_true_eq]
          have h2 := crI_toN heg hdg
          rw [toN_dgI, toN_dgI] at h2
          rw [← h2]
          exact ⟨fun h => h.2.2, fun h => ⟨heg, hdg, h⟩⟩
        rw [hcb] at hcx
        refine wskip ?_
        show AWp _ _ _ _ _
        refine wseq ?_
        refine wblock ?_
        refine wseq ?_
        refine wreg fun K hK => ?_
        simp [C.laws_FnCrossings, get_ints, hXl, h1, hwx]
        refine hK _ ?_; clear hK K
        show AWp _ _ _ _ _
        refine wseq ?_
        refine wseq ?_
        refine wdrawI [(true, 0), (true, 1), (true, 2), (true, 3), (true, 4), (true, 5), (true, 6), (true, 7), (true, 8), (true, 9), (true, 10), (false, 11), (true, 12)] ⟨by kernel_rfl, by kernel_rfl⟩ ([0, 1, 2, 3, 4, 5, 6, 7, 8, 9, 10, 11] ++ ([12])) rfl fun K hK => ?_
        have hJ : K ⟨ofL [(3, .int v), (4, .al (4, 0) [] 0 l.length), (6, .pt (6, 0) [] 0), (7, .pt (7, 0) [] 0), (9, .al (9, 0) [] 0 l.length), (10, .int (csP l d (x1 + 1))), (11, .int x1), (71, .bool false)], ofRO [((4, 0), some (.ow 2 l.length (rows gM (l.map dgI)))), ((6, 0), some (.bx [D.int d.1, D.int d.2])), ((7, 0), some (.bx [D.int f.v, .ow 2 f.ts.length (rows tO f.ts)])), ((9, 0), some (.ow 1 l.length (ints X)))]⟩ := by
          refine hK _ ?_; clear hK K
          show AWp _ _ _ _ _
          refine wcond _ rfl (fun hc4 => ?_) (fun hc4 => ?_)
          · simp at hc4
          · refine wskip ?_
            show AWp _ _ _ _ _
            refine wseq ?_
            refine wdraw (.take 0 (.take 1 (.take 2 (.take 3 (.take 4 (.take 5 (.done))))))) ⟨by kernel_rfl, by kernel_rfl⟩ fun K hK => ?_
            simp [C.laws_FnCrossings, hs0, hs1, h1]
            refine hK _ ?_; clear hK K
            show AWp _ _ _ _ _
            refine wcond _ rfl (fun hc5 => ?_) (fun hc5 => ?_)
            · have hde : l[x1] = d := by
                have h2 := hc5
                simp at h2
                exact Prod.ext (by have := h2.1; omega) (by have := h2.2; omega)
              obtain ⟨hfu, hz⟩ := hat h1 hde
              have hn8 := n_bd hT
              have hmo := sMono_calls (unitL (v - 3) x1) (by rw [(unitL_bd (n := v - 3) (k := x1)).1]; omega)
              rw [monoF_unit hn8, ← hfu] at hmo
              have hla := laws_laurents_calls f f hsm.1 hsm.2
              rw [decide_eq_true rfl] at hla
              have hul : (unitL (v - 3) x1).length = l.length := by rw [(unitL_bd (n := v - 3) (k := x1)).1]; omega
              have hue : unitL (v - 3) x1 = (List.replicate l.length 0).set x1 1 := by unfold unitL; rw [hll]
              rw [hue] at hmo
              rw [hz]
              refine wseq ?_
              refine wreg fun K hK => ?_
              simp [C.laws_FnCrossings, hw3, zeros_ints, show (8 : Int) * l.length ≤ 281474976710656 by omega, show (l.length : Int) ≤ 281474976710656 by omega]
              refine hK _ ?_; clear hK K
              show AWp _ _ _ _ _
              refine wseq ?_
              refine wreg fun K hK => ?_
              simp [C.laws_FnCrossings, h1]
              refine hK _ ?_; clear hK K
              show AWp _ _ _ _ _
              refine wseq ?_
              refine wdrawI [(true, 0), (true, 1), (false, 2), (false, 3), (true, 4), (true, 5), (true, 6), (true, 7), (true, 8)] ⟨by kernel_rfl, by kernel_rfl⟩ ([0, 1, 2] ++ ([3] ++ ([4, 5, 6, 7, 8]))) rfl fun K hK => ?_
              have hJ : K ⟨ofL [(2, .bool true)], ofRO []⟩ := by
                refine hK _ ?_; clear hK K
                show AWp _ _ _ _ _
                refine wret ?_
                simp [C.laws_FnCrossings]
              clear hK
              simp [C.laws_FnCrossings, fO]
              repeat' first
                | (refine wcall1 hmo ?_ (by simp) ?_; (focus (simp; done)); simp [C.laws_FnCrossings, fO])
                | (refine wcall1 hla ?_ (by simp) ?_; (focus (simp; done)); simp [C.laws_FnCrossings, fO])
                | (refine cast (congrArg K ?_) hJ; simp; done)
                | refine And.intro ?_ ?_
            · have hde : ¬ l[x1] = d := fun e => by
                have h2 := hc5
                rw [e] at h2
                simp at h2
              refine wskip ?_
              show AWp _ _ _ _ _
              refine wreg fun K hK => ?_
              simp [C.laws_FnCrossings, wrap_succ (show x1 < 4611686018427387904 by omega)]
              refine hK _ ?_; clear hK K
              simp [C.laws_FnCrossings]
              refine hR1 (x1 + 1) ⟨h1, ?_⟩ (by omega)
              rw [List.take_succ_eq_append_getElem h1, List.mem_append, not_or]
              exact ⟨hno, by simpa using Ne.symm hde⟩
        clear hK
        simp [C.laws_FnCrossings, get_ints, hXl, h1, hs0, hs1, hxq]
        repeat' first
          | (refine wcall1 hcx ?_ (by simp) ?_; (focus (simp; done)); simp [C.laws_FnCrossings, hxq])
          | (refine cast (congrArg K ?_) hJ; simp [hxq]; done)
          | refine And.intro ?_ ?_
      · have h1 : x1 = l.length := by have := d_f hc3; simp at this; omega
        rw [h1, List.take_length] at hno
        have hpo := hcp hno
        have hde := hden hno
        have hin := laws_ints_calls (denL f) X (by rw [hde]; omega)
        rw [decide_eq_true hde] at hin
        have hdl : (denL f).length = l.length := by rw [hde]; exact hxl
        rw [h1]
        refine wexit ?_
        show AWp _ _ _ _ _
        refine wseq ?_
        refine wregI ([0, 1, 2, 3, 4] ++ ([5, 6] ++ ([7, 8]))) rfl fun K hK => ?_
        refine opsI_seg fun L hL => ?_
        simp [C.laws_FnCrossings, fO, hpo, show (0 : Int) < (csP l d l.length : Int) by omega, hdl, hxl]
        refine wcall1 (hDen) (by simp [fO, hpo, show (0 : Int) < (csP l d l.length : Int) by omega, hdl, hxl]) (by simp) ?_
        simp [C.laws_FnCrossings, fO, hpo, show (0 : Int) < (csP l d l.length : Int) by omega, hdl, hxl]
        refine hL _ ?_; clear hL L
        refine opsI_seg fun L hL => ?_
        simp [C.laws_FnCrossings, fO, hpo, show (0 : Int) < (csP l d l.length : Int) by omega, hdl, hxl]
        refine wcall1 (hin) (by simp [fO, hpo, show (0 : Int) < (csP l d l.length : Int) by omega, hdl, hxl]) (by simp) ?_
        simp [C.laws_FnCrossings, fO, hpo, show (0 : Int) < (csP l d l.length : Int) by omega, hdl, hxl]
        refine hL _ ?_; clear hL L
        refine opsI_end fun L hL => ?_
        simp [C.laws_FnCrossings, fO, hpo, show (0 : Int) < (csP l d l.length : Int) by omega, hdl, hxl]
        refine hL _ ?_; clear hL L
        simp [C.laws_FnCrossings, fO, hpo, show (0 : Int) < (csP l d l.length : Int) by omega, hdl, hxl]
        refine hK _ ?_; clear hK K
        show AWp _ _ _ _ _
        refine wret ?_
        simp [C.laws_FnCrossings]

end Go.Proofs.Ytfcgcgmleogamaa.Ab
namespace Go.Proofs.Ytfcgcgmleogamaa.Ab
open Go Go.ChangeShapes Go.WideShapes Go.ChangeAt Go.RowKit
set_option linter.unusedSimpArgs false
set_option linter.unusedVariables false
set_option maxRecDepth 100000
section
variable {H : Type} {enc : TypeId × Value → H} {W : World}
theorem rows_byts (l : List Int) : rows (fun n => [D.v (.int .u8 n)]) l = byts l := by
  induction l with
  | nil => rfl
  | cons x l ih => simp [rows, ih, byts]
def CodeB (l : List Int) : Prop := (∀ x ∈ l, 0 ≤ x ∧ x ≤ 255) ∧ l.length * 1 ≤ 140737488351232
theorem opCode : Opens enc Try.prog W 22 1 (List Int) (fun l => [.sh 1 l.length (byts l)]) CodeB :=
  (Opens.slice (Opens.byte Try.underlying5 (by kernel_rfl)) (by omega) Try.underlying22 (by kernel_rfl) (by kernel_rfl)).to id (fun l => by simp [rows_byts]) (fun _ => rfl) (fun _ h => h)
theorem argCode : Arg enc Try.prog W 22 (List Int) (fun l => .d (.sh 1 l.length (byts l))) CodeB := Arg.one opCode (by kernel_rfl) (of_decide_eq_true (by kernel_rfl)) (by kernel_rfl)
end
end Go.Proofs.Ytfcgcgmleogamaa.Ab
namespace Go.Proofs.Ytfcgcgmleogamaa.Ab
open Go
theorem lawCr (xs : List Int) (h : CodeB xs) : ACalls Try.prog F.laws_FnCrossings [.d (.sh 1 xs.length (byts xs))] [] true (fun outs res => outs = [] ∧ res = [.one (D.bool true)]) := laws_FnCrossings_calls xs h.1
end Go.Proofs.Ytfcgcgmleogamaa.Ab
