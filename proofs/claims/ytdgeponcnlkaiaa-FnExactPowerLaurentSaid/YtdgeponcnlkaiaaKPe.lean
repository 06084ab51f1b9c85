/- The sort of terms by their exponents, greatest first, at this program. The program's sums: all contracts without a premise left. Powers of sums: the program's are the reference's, fresh at each call. Powers: the law, without a premise left. No condition. -/
import Derived.Shelf.SlSortCmp.NoneTotal
import Derived.Test.YtdgeponcnlkaiaaKPc
import Derived.Test.YtdgeponcnlkaiaaKPd
namespace Go.Proofs.Ytdgeponcnlkaiaa.Ab
open Go
set_option linter.unusedSimpArgs false
set_option linter.unusedVariables false
theorem sfTerm : SfOk Try.prog F.slices_SortFunc_impl_Term_impl_Term 2 := by
  refine ⟨fun p cap fv w => ?_, fun α _ enc hk h1 cf hO g blk off cap d w eg hcmp hH hblk hsz => ?_⟩
  · have h := AnyF.slices_SortFunc_none sortTerm p cap fv w
    rw [sortTerm_f6] at h
    exact h
  · have h := AnyQ.slices_SortFunc sortTerm 2 sortTerm_agg sortTerm_size enc hk h1 cf hO g #[] blk off cap d w eg hcmp hH hblk hsz
    rw [sortTerm_f6] at h
    exact h
theorem lexlt_ntrans (a b c : List Int) (h1 : lexlt a b = false) (h2 : lexlt b c = false) : lexlt a c = false := by
  cases h : lexlt a c with
  | false => rfl
  | true =>
    exfalso
    rcases lexlt_tot a b with h3 | h3 | h3
    · rw [h1] at h3; simp at h3
    · subst h3
      rw [h2] at h; simp at h
    · have := lexlt_tr b a c h3 h
      rw [h2] at this; simp at this
theorem swoTerm : Go.Sort.SWO (ltOf fun x y : Trm => cmpL y.e x.e) where
  irrefl x := by unfold ltOf; rw [cmpL_neg]; exact lexlt_irr _
  trans x y z h1 h2 := by
    unfold ltOf at *
    rw [cmpL_neg] at *
    exact lexlt_tr _ _ _ h2 h1
  ntrans x y z h1 h2 := by
    unfold ltOf at *
    rw [cmpL_neg] at *
    exact lexlt_ntrans _ _ _ h2 h1
theorem sortOk : SortOk := by
  intro ts hts hnd hlen
  have h := sort_calls (P := Try.prog) (g := F.impl_building_done_1) ⟨Try.f189, _, Try.func189, rfl, by kernel_rfl⟩ sfTerm tO_two (by omega) (fun t => by simp [tO, noShL, noSh]) (fun l => by
    induction l with
    | nil => trivial
    | cons x l ih =>
      simp only [rows, tO, List.cons_append, List.nil_append, solidL]
      exact ⟨rfl, rfl, ih⟩) (fun x y : Trm => cmpL y.e x.e) swoTerm ts hlen (fun x hx y hy => by
    have := impl_building_done_1_calls x y (hts x hx) (hts y hy)
    simpa [tO, shareL, share, shareL_ints] using this)
  refine ACalls.mono h ?_
  rintro outs res ⟨r, h1, h2, h3, h4⟩
  refine ⟨r, h1, ?_, h3, h4⟩
  have hnr : (r.map (·.e)).Nodup := (h1.map (·.e)).nodup_iff.2 hnd
  unfold DescT
  rw [List.Nodup, List.pairwise_map] at hnr
  refine (h2.and hnr).imp ?_
  rintro a b ⟨h5, h6⟩
  have h7 : lexlt a.e b.e = false := by
    rw [← cmpL_neg]
    simpa using h5
  rcases lexlt_tot a.e b.e with h8 | h8 | h8
  · rw [h7] at h8; simp at h8
  · exact absurd h8 h6
  · exact h8
end Go.Proofs.Ytdgeponcnlkaiaa.Ab
namespace Go.Proofs.Ytdgeponcnlkaiaa.Ab
open Go
theorem doneOk : DoneOk := fun n es l hM hl h1 h8 hL => (impl_building_done_calls sortOk n es l hM hl h1 h8 hL).weak1
theorem mulOk : MulOk := iMul_calls doneOk
end Go.Proofs.Ytdgeponcnlkaiaa.Ab
namespace Go.Proofs.Ytdgeponcnlkaiaa.Ab
open Go
set_option linter.unusedSimpArgs false
set_option linter.unusedVariables false
set_option maxRecDepth 10000
set_option maxHeartbeats 2000000
theorem sz_small {ts : List Trm} {r : Int} (h0 : 0 ≤ r) (h : r + szT ts = 1048576) : ts.length ≤ 1048576 ∧ ∀ t ∈ ts, t.e.length ≤ 1048576 := by
  unfold szT at h
  refine ⟨by omega, fun t ht => ?_⟩
  have : t.e.length ≤ cntL (fun t : Trm => t.e.length) ts := by
    clear h
    induction ts with
    | nil => simp at ht
    | cons x ts ih =>
      simp only [cntL]
      rcases List.mem_cons.1 ht with rfl | ht
      · omega
      · have := ih ht; omega
  omega
theorem sz_cnt {ts : List Trm} {r : Int} (h0 : 0 ≤ r) (h : r + szT ts = 1048576) : cntL cntT ts ≤ 1048576 := by
  have : ∀ ts : List Trm, cntL cntT ts = szT ts := fun ts => by
    induction ts with
    | nil => rfl
    | cons x ts ih =>
      simp only [szT, cntL, cntT, List.length_cons] at ih ⊢
      omega
  rw [this]
  omega
def SmallF (g : Lau) : Prop := g.ts.length ≤ 600 ∧ (∀ t ∈ g.ts, t.e.length ≤ 8) ∧ cntL cntT g.ts ≤ 5400
theorem small_right {g : Lau} (h : Right g) : SmallF g := by
  have he : ∀ t ∈ g.ts, t.e.length ≤ 8 := fun t ht => by have := (h.2.2.1 t ht).1; have := h.1; omega
  refine ⟨h.2.1, he, ?_⟩
  have : ∀ ts : List Trm, (∀ t ∈ ts, t.e.length ≤ 8) → cntL cntT ts ≤ ts.length * 9 := fun ts => by
    induction ts with
    | nil => intro _; simp [cntL]
    | cons x ts ih =>
      intro h
      have h1 := h x (by simp)
      have h2 := ih fun y hy => h y (by simp [hy])
      simp only [cntL, cntT, List.length_cons]
      omega
  have h2 := this g.ts he
  have := h.2.1
  omega
theorem small_zero : SmallF zeroF := by simp [SmallF, zeroF, cntL]
theorem powF_right (f : Lau) (n : Int) : Right (powF f n).1 ∨ powF f n = (zeroF, false) := by
  unfold powF
  split
  · rename_i h
    split
    · rename_i g hg
      exact .inl (powL_right h.1 _ g hg)
    · exact .inr rfl
  · exact .inr rfl
theorem powF_small (f : Lau) (n : Int) : SmallF (powF f n).1 := by
  rcases powF_right f n with h | h
  · exact small_right h
  · rw [h]; exact small_zero
theorem laws_FnExactPowerLaurent_calls (hMul : MulOk) (f : Lau) (n : Int) (hx : f.ts.length < 4611686018427387904) (hxe : ∀ t ∈ f.ts, t.e.length < 4611686018427387904) : ACalls Try.prog F.laws_FnExactPowerLaurent [aF f, .int n] [] true (fun outs res => outs = [] ∧ res = [.one (D.bool true)]) := by
  have hgs := powF_small f n
  have hw := sPow_calls f n hx hxe
  have hg := iPow_calls hMul f n hx hxe
  generalize powF f n = g at hgs hw hg
  obtain ⟨g, b⟩ := g
  obtain ⟨hg1, hg2, hg3⟩ := hgs
  dsimp only at hg1 hg2 hg3 hw hg
  refine ACalls.of_body (C := C.laws_FnExactPowerLaurent) (n := Try.f8.ntmps) tabT folT Try.func8 rfl (by kernel_rfl) rfl (Nat.le_of_ble_eq_true rfl) (by decide) (by kernel_rfl) (by kernel_rfl) rfl (by simp) (by simp) ?_
  simp only [Try.f8]
  refine wseq ?_
  refine wreg fun K hK => ?_
  simp [C.laws_FnExactPowerLaurent, fO]
  refine hK _ ?_; clear hK K
  show AWp _ _ _ _ _
  refine wseq ?_
  refine wreg fun K hK => ?_
  simp [C.laws_FnExactPowerLaurent, fO]
  refine hK _ ?_; clear hK K
  show AWp _ _ _ _ _
  refine wseq ?_
  refine wregI ([0, 1, 2] ++ ([3])) rfl fun K hK => ?_
  refine opsI_seg fun L hL => ?_
  simp [C.laws_FnExactPowerLaurent, fO]
  refine wcall (laws_szLaurent_calls f 1048576 (by omega) (by omega) hx hxe) (by simp) (by simp) (by simp) ?_
  rintro outs res ⟨rfl, r, rfl, hr⟩
  simp [C.laws_FnExactPowerLaurent, fO]
  refine hL _ ?_; clear hL L
  refine opsI_end fun L hL => ?_
  simp [C.laws_FnExactPowerLaurent, fO]
  refine hL _ ?_; clear hL L
  simp [C.laws_FnExactPowerLaurent, fO]
  refine hK _ ?_; clear hK K
  show AWp _ _ _ _ _
  refine wseq ?_
  refine wseq ?_
  refine wreg fun K hK => ?_
  simp [C.laws_FnExactPowerLaurent, fO]
  refine hK _ ?_; clear hK K
  show AWp _ _ _ _ _
  refine wcond _ rfl (fun hc1 => ?_) (fun hc1 => ?_)
  · refine wseq ?_
    refine wreg fun K hK => ?_
    simp [C.laws_FnExactPowerLaurent, fO]
    refine hK _ ?_; clear hK K
    show AWp _ _ _ _ _
    refine wret ?_
    simp [C.laws_FnExactPowerLaurent, fO]
  · have hr0 : 0 ≤ r := by have := d_f hc1; omega
    obtain ⟨hl, he⟩ := sz_small (ts := f.ts) hr0 (by omega)
    have hk : cntL cntT f.ts ≤ 1048576 := sz_cnt hr0 (by omega)
    refine wskip ?_
    show AWp _ _ _ _ _
    refine wseq ?_
    refine wregI ([0, 1] ++ ([2, 3] ++ ([4, 5, 6, 7, 8, 9]))) rfl fun K hK => ?_
    refine opsI_seg fun L hL => ?_
    simp [C.laws_FnExactPowerLaurent, fO]
    refine wcall1 (laws_toLaurent_calls f hl he) (by simp) (by simp) ?_
    simp [C.laws_FnExactPowerLaurent, fO]
    refine hL _ ?_; clear hL L
    refine opsI_seg fun L hL => ?_
    simp [C.laws_FnExactPowerLaurent, fO]
    refine wcall1 (hw) (by simp) (by simp) ?_
    simp [C.laws_FnExactPowerLaurent, fO]
    refine hL _ ?_; clear hL L
    refine opsI_end fun L hL => ?_
    simp [C.laws_FnExactPowerLaurent, fO]
    refine hL _ ?_; clear hL L
    simp [C.laws_FnExactPowerLaurent, fO]
    refine hK _ ?_; clear hK K
    show AWp _ _ _ _ _
    refine wseq ?_
    refine wregI ([0, 1] ++ ([2, 3])) rfl fun K hK => ?_
    refine opsI_seg fun L hL => ?_
    simp [C.laws_FnExactPowerLaurent, fO]
    refine wcall1 (laws_toLaurent_calls f hl he) (by simp) (by simp) ?_
    simp [C.laws_FnExactPowerLaurent, fO]
    refine hL _ ?_; clear hL L
    refine opsI_end fun L hL => ?_
    simp [C.laws_FnExactPowerLaurent, fO]
    refine hL _ ?_; clear hL L
    simp [C.laws_FnExactPowerLaurent, fO]
    refine hK _ ?_; clear hK K
    show AWp _ _ _ _ _
    refine wseq ?_
    refine wregI ([0, 1, 2] ++ ([3, 4, 5, 6, 7, 8])) rfl fun K hK => ?_
    refine opsI_seg fun L hL => ?_
    simp [C.laws_FnExactPowerLaurent, fO]
    refine wcall1 (hg) (by simp) (by simp) ?_
    simp [C.laws_FnExactPowerLaurent, fO]
    refine hL _ ?_; clear hL L
    refine opsI_end fun L hL => ?_
    simp [C.laws_FnExactPowerLaurent, fO]
    refine hL _ ?_; clear hL L
    simp [C.laws_FnExactPowerLaurent, fO]
    refine hK _ ?_; clear hK K
    show AWp _ _ _ _ _
    refine wseq ?_
    refine wseq ?_
    refine wregI ([0, 1, 2] ++ ([3, 4, 5, 6, 7, 8])) rfl fun K hK => ?_
    refine opsI_seg fun L hL => ?_
    simp [C.laws_FnExactPowerLaurent, fO]
    refine wcall1 (laws_eqLaurent_calls g g (by omega) (fun t ht => by have := hg2 t ht; omega)) (by simp) (by simp) ?_
    simp [C.laws_FnExactPowerLaurent, fO]
    refine hL _ ?_; clear hL L
    refine opsI_end fun L hL => ?_
    simp [C.laws_FnExactPowerLaurent, fO]
    refine hL _ ?_; clear hL L
    simp [C.laws_FnExactPowerLaurent, fO]
    refine hK _ ?_; clear hK K
    show AWp _ _ _ _ _
    refine wcond _ rfl (fun hc2 => ?_) (fun hc2 => ?_)
    · simp at hc2
    · refine wskip ?_
      show AWp _ _ _ _ _
      refine wseq ?_
      refine wseq ?_
      refine wdrawI [(true, 0), (true, 1), (false, 2), (false, 3), (true, 4)] ⟨by kernel_rfl, by kernel_rfl⟩ ([0, 1, 2] ++ ([3] ++ ([4]))) rfl fun K hK => ?_
      refine opsI_seg fun L hL => ?_
      simp [C.laws_FnExactPowerLaurent, fO]
      refine wcall1 (laws_toLaurent_calls f hl he) (by simp) (by simp) ?_
      simp [C.laws_FnExactPowerLaurent, fO]
      refine hL _ ?_; clear hL L
      refine opsI_seg fun L hL => ?_
      simp [C.laws_FnExactPowerLaurent, fO]
      refine wcall1 (laws_eqLaurent_calls f f hx hxe) (by simp) (by simp) ?_
      simp [C.laws_FnExactPowerLaurent, fO]
      refine hL _ ?_; clear hL L
      refine opsI_end fun L hL => ?_
      simp [C.laws_FnExactPowerLaurent, fO]
      refine hL _ ?_; clear hL L
      simp [C.laws_FnExactPowerLaurent, fO]
      refine hK _ ?_; clear hK K
      show AWp _ _ _ _ _
      refine wcond _ rfl (fun hc3 => ?_) (fun hc3 => ?_)
      · simp at hc3
      · refine wskip ?_
        show AWp _ _ _ _ _
        refine wseq ?_
        refine wreg fun K hK => ?_
        simp [C.laws_FnExactPowerLaurent, fO]
        refine hK _ ?_; clear hK K
        show AWp _ _ _ _ _
        refine wseq ?_
        refine wregI ([0, 1, 2] ++ ([3])) rfl fun K hK => ?_
        refine opsI_seg fun L hL => ?_
        simp [C.laws_FnExactPowerLaurent, fO]
        refine wcall1 (laws_markLaurent_calls f 1 (by omega) (by omega) hx) (by simp) (by simp) ?_
        simp [C.laws_FnExactPowerLaurent, fO]
        refine hL _ ?_; clear hL L
        refine opsI_end fun L hL => ?_
        simp [C.laws_FnExactPowerLaurent, fO]
        refine hL _ ?_; clear hL L
        simp [C.laws_FnExactPowerLaurent, fO]
        refine hK _ ?_; clear hK K
        show AWp _ _ _ _ _
        refine wseq ?_
        refine wseq ?_
        refine wregI ([0, 1, 2, 3, 4, 5] ++ ([6, 7, 8, 9, 10, 11, 12])) rfl fun K hK => ?_
        refine opsI_seg fun L hL => ?_
        simp [C.laws_FnExactPowerLaurent, fO, show (0 : Int) ≤ 1 + (cntL cntT f.ts : Nat) by omega, show ¬ ((1 : Int) + (cntL cntT f.ts : Nat) < 0) by omega]
        refine wcall1 (laws_eqLaurent_calls g g (by omega) (fun t ht => by have := hg2 t ht; omega)) (by simp) (by simp) ?_
        simp [C.laws_FnExactPowerLaurent, fO, show (0 : Int) ≤ 1 + (cntL cntT f.ts : Nat) by omega, show ¬ ((1 : Int) + (cntL cntT f.ts : Nat) < 0) by omega]
        refine hL _ ?_; clear hL L
        refine opsI_end fun L hL => ?_
        simp [C.laws_FnExactPowerLaurent, fO, show (0 : Int) ≤ 1 + (cntL cntT f.ts : Nat) by omega, show ¬ ((1 : Int) + (cntL cntT f.ts : Nat) < 0) by omega]
        refine hL _ ?_; clear hL L
        simp [C.laws_FnExactPowerLaurent, fO, show (0 : Int) ≤ 1 + (cntL cntT f.ts : Nat) by omega, show ¬ ((1 : Int) + (cntL cntT f.ts : Nat) < 0) by omega]
        refine hK _ ?_; clear hK K
        show AWp _ _ _ _ _
        refine wcond _ rfl (fun hc4 => ?_) (fun hc4 => ?_)
        · simp at hc4
        · refine wskip ?_
          show AWp _ _ _ _ _
          refine wseq ?_
          refine wreg fun K hK => ?_
          simp [C.laws_FnExactPowerLaurent, fO]
          refine hK _ ?_; clear hK K
          show AWp _ _ _ _ _
          refine wseq ?_
          refine wregI ([0, 1, 2] ++ ([3])) rfl fun K hK => ?_
          refine opsI_seg fun L hL => ?_
          simp [C.laws_FnExactPowerLaurent, fO]
          refine wcall1 (laws_markLaurent_calls g 1 (by omega) (by omega) (by omega)) (by simp) (by simp) ?_
          simp [C.laws_FnExactPowerLaurent, fO]
          refine hL _ ?_; clear hL L
          refine opsI_end fun L hL => ?_
          simp [C.laws_FnExactPowerLaurent, fO]
          refine hL _ ?_; clear hL L
          simp [C.laws_FnExactPowerLaurent, fO]
          refine hK _ ?_; clear hK K
          show AWp _ _ _ _ _
          refine wseq ?_
          refine wreg fun K hK => ?_
          simp [C.laws_FnExactPowerLaurent, fO]
          refine hK _ ?_; clear hK K
          show AWp _ _ _ _ _
          refine wseq ?_
          refine wregI ([0, 1, 2] ++ ([3])) rfl fun K hK => ?_
          refine opsI_seg fun L hL => ?_
          simp [C.laws_FnExactPowerLaurent, fO]
          refine wcall1 (laws_heldLaurent_calls g.v g.ts 1 (by omega) (by omega) (by omega)) (by simp) (by simp) ?_
          simp [C.laws_FnExactPowerLaurent, fO]
          refine hL _ ?_; clear hL L
          refine opsI_end fun L hL => ?_
          simp [C.laws_FnExactPowerLaurent, fO]
          refine hL _ ?_; clear hL L
          simp [C.laws_FnExactPowerLaurent, fO]
          refine hK _ ?_; clear hK K
          show AWp _ _ _ _ _
          refine wseq ?_
          refine wseq ?_
          refine wreg fun K hK => ?_
          simp [C.laws_FnExactPowerLaurent, fO]
          refine hK _ ?_; clear hK K
          show AWp _ _ _ _ _
          refine wcond _ rfl (fun hc5 => ?_) (fun hc5 => ?_)
          · have := d_t hc5; omega
          · refine wskip ?_
            show AWp _ _ _ _ _
            refine wseq ?_
            refine wseq ?_
            refine wreg fun K hK => ?_
            simp [C.laws_FnExactPowerLaurent, fO]
            refine hK _ ?_; clear hK K
            show AWp _ _ _ _ _
            refine wcond _ rfl (fun hc6 => ?_) (fun hc6 => ?_)
            · simp at hc6
            · refine wskip ?_
              show AWp _ _ _ _ _
              refine wseq ?_
              refine wregI ([0, 1] ++ ([2, 3] ++ ([4, 5, 6, 7, 8, 9]))) rfl fun K hK => ?_
              refine opsI_seg fun L hL => ?_
              simp [C.laws_FnExactPowerLaurent, fO]
              refine wcall1 (laws_toLaurent_calls f hl he) (by simp) (by simp) ?_
              simp [C.laws_FnExactPowerLaurent, fO]
              refine hL _ ?_; clear hL L
              refine opsI_seg fun L hL => ?_
              simp [C.laws_FnExactPowerLaurent, fO]
              refine wcall1 (hg) (by simp) (by simp) ?_
              simp [C.laws_FnExactPowerLaurent, fO]
              refine hL _ ?_; clear hL L
              refine opsI_end fun L hL => ?_
              simp [C.laws_FnExactPowerLaurent, fO]
              refine hL _ ?_; clear hL L
              simp [C.laws_FnExactPowerLaurent, fO]
              refine hK _ ?_; clear hK K
              show AWp _ _ _ _ _
              refine wseq ?_
              refine wseq ?_
              refine wregI ([0, 1, 2] ++ ([3, 4, 5, 6, 7, 8])) rfl fun K hK => ?_
              refine opsI_seg fun L hL => ?_
              simp [C.laws_FnExactPowerLaurent, fO]
              refine wcall1 (laws_eqLaurent_calls g g (by omega) (fun t ht => by have := hg2 t ht; omega)) (by simp) (by simp) ?_
              simp [C.laws_FnExactPowerLaurent, fO]
              refine hL _ ?_; clear hL L
              refine opsI_end fun L hL => ?_
              simp [C.laws_FnExactPowerLaurent, fO]
              refine hL _ ?_; clear hL L
              simp [C.laws_FnExactPowerLaurent, fO]
              refine hK _ ?_; clear hK K
              show AWp _ _ _ _ _
              refine wcond _ rfl (fun hc7 => ?_) (fun hc7 => ?_)
              · simp at hc7
              · refine wskip ?_
                show AWp _ _ _ _ _
                refine wseq ?_
                refine wreg fun K hK => ?_
                simp [C.laws_FnExactPowerLaurent, fO]
                refine hK _ ?_; clear hK K
                show AWp _ _ _ _ _
                refine wseq ?_
                refine wregI ([0, 1, 2] ++ ([3])) rfl fun K hK => ?_
                refine opsI_seg fun L hL => ?_
                simp [C.laws_FnExactPowerLaurent, fO]
                refine wcall1 (laws_heldLaurent_calls g.v g.ts 1 (by omega) (by omega) (by omega)) (by simp) (by simp) ?_
                simp [C.laws_FnExactPowerLaurent, fO]
                refine hL _ ?_; clear hL L
                refine opsI_end fun L hL => ?_
                simp [C.laws_FnExactPowerLaurent, fO]
                refine hL _ ?_; clear hL L
                simp [C.laws_FnExactPowerLaurent, fO]
                refine hK _ ?_; clear hK K
                show AWp _ _ _ _ _
                refine wseq ?_
                refine wseq ?_
                refine wreg fun K hK => ?_
                simp [C.laws_FnExactPowerLaurent, fO]
                refine hK _ ?_; clear hK K
                show AWp _ _ _ _ _
                refine wcond _ rfl (fun hc8 => ?_) (fun hc8 => ?_)
                · have := d_t hc8; omega
                · refine wskip ?_
                  show AWp _ _ _ _ _
                  refine wseq ?_
                  refine wseq ?_
                  refine wreg fun K hK => ?_
                  simp [C.laws_FnExactPowerLaurent, fO]
                  refine hK _ ?_; clear hK K
                  show AWp _ _ _ _ _
                  refine wcond _ rfl (fun hc9 => ?_) (fun hc9 => ?_)
                  · simp at hc9
                  · refine wskip ?_
                    show AWp _ _ _ _ _
                    refine wseq ?_
                    refine wreg fun K hK => ?_
                    simp [C.laws_FnExactPowerLaurent, fO]
                    refine hK _ ?_; clear hK K
                    show AWp _ _ _ _ _
                    refine wret ?_
                    simp [C.laws_FnExactPowerLaurent, fO]

end Go.Proofs.Ytdgeponcnlkaiaa.Ab
namespace Go.Proofs.Ytdgeponcnlkaiaa.Ab
open Go
theorem lawPower (f : Lau) (n : Int) (hx : f.ts.length < 4611686018427387904) (hxe : ∀ t ∈ f.ts, t.e.length < 4611686018427387904) : ACalls Try.prog F.laws_FnExactPowerLaurent [aF f, .int n] [] true (fun outs res => outs = [] ∧ res = [.one (D.bool true)]) := laws_FnExactPowerLaurent_calls mulOk f n hx hxe
end Go.Proofs.Ytdgeponcnlkaiaa.Ab
