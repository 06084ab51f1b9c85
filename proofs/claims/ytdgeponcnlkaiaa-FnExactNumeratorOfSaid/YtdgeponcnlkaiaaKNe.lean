/- The sort of terms by their exponents, greatest first, at this program. The program's sums: all contracts without a premise left. Powers of sums: the program's are the reference's, fresh at each call. Seeds and sessions: what is equal, marks. The first seed and the first session, on both sides. Least exponents, denominators, numerators. Numerators: the program's are the reference's, fresh at each call. Numerators: the law, without a premise left. No condition. -/
import Derived.Shelf.SlSortCmp.NoneTotal
import Derived.Test.YtdgeponcnlkaiaaKNc
import Derived.Test.YtdgeponcnlkaiaaKNd
namespace Go.Proofs.Ytdgeponcnlkaiaa.Ab
open Go
set_option linter.unusedSimpArgs false
set_option linter.unusedVariables false
theorem sfTerm : SfOk Try.prog F.slices_SortFunc_impl_Term_impl_Term 2 := by
  refine ⟨fun p cap fv w => ?_, fun α _ enc hk h1 cf hO g blk off cap d w eg hcmp hH hblk hsz => ?_⟩
  · have h := AnyF.slices_SortFunc_none sortTerm p cap fv w
    rw [sortTerm_f6] at h
    exact h
  · have h := AnyQ.slices_SortFunc sortTerm 2 sortTerm_agg sortTerm_size enc hk h1 cf hO g #[] blk off cap d w eg hcmp hH hblk hsz
    rw [sortTerm_f6] at h
    exact h
theorem lexlt_ntrans (a b c : List Int) (h1 : lexlt a b = false) (h2 : lexlt b c = false) : lexlt a c = false := by
  cases h : lexlt a c with
  | false => rfl
  | true =>
    exfalso
    rcases lexlt_tot a b with h3 | h3 | h3
    · rw [h1] at h3; simp at h3
    · subst h3
      rw [h2] at h; simp at h
    · have := lexlt_tr b a c h3 h
      rw [h2] at this; simp at this
theorem swoTerm : Go.Sort.SWO (ltOf fun x y : Trm => cmpL y.e x.e) where
  irrefl x := by unfold ltOf; rw [cmpL_neg]; exact lexlt_irr _
  trans x y z h1 h2 := by
    unfold ltOf at *
    rw [cmpL_neg] at *
    exact lexlt_tr _ _ _ h2 h1
  ntrans x y z h1 h2 := by
    unfold ltOf at *
    rw [cmpL_neg] at *
    exact lexlt_ntrans _ _ _ h2 h1
theorem sortOk : SortOk := by
  intro ts hts hnd hlen
  have h := sort_calls (P := Try.prog) (g := F.impl_building_done_1) ⟨Try.f189, _, Try.func189, rfl, by kernel_rfl⟩ sfTerm tO_two (by omega) (fun t => by simp [tO, noShL, noSh]) (fun l => by
    induction l with
    | nil => trivial
    | cons x l ih =>
      simp only [rows, tO, List.cons_append, List.nil_append, solidL]
      exact ⟨rfl, rfl, ih⟩) (fun x y : Trm => cmpL y.e x.e) swoTerm ts hlen (fun x hx y hy => by
    have := impl_building_done_1_calls x y (hts x hx) (hts y hy)
    simpa [tO, shareL, share, shareL_ints] using this)
  refine ACalls.mono h ?_
  rintro outs res ⟨r, h1, h2, h3, h4⟩
  refine ⟨r, h1, ?_, h3, h4⟩
  have hnr : (r.map (·.e)).Nodup := (h1.map (·.e)).nodup_iff.2 hnd
  unfold DescT
  rw [List.Nodup, List.pairwise_map] at hnr
  refine (h2.and hnr).imp ?_
  rintro a b ⟨h5, h6⟩
  have h7 : lexlt a.e b.e = false := by
    rw [← cmpL_neg]
    simpa using h5
  rcases lexlt_tot a.e b.e with h8 | h8 | h8
  · rw [h7] at h8; simp at h8
  · exact absurd h8 h6
  · exact h8
end Go.Proofs.Ytdgeponcnlkaiaa.Ab
namespace Go.Proofs.Ytdgeponcnlkaiaa.Ab
open Go
theorem doneOk : DoneOk := fun n es l hM hl h1 h8 hL => (impl_building_done_calls sortOk n es l hM hl h1 h8 hL).weak1
theorem mulOk : MulOk := iMul_calls doneOk
end Go.Proofs.Ytdgeponcnlkaiaa.Ab
namespace Go.Proofs.Ytdgeponcnlkaiaa.Ab
open Go
set_option linter.unusedSimpArgs false
set_option linter.unusedVariables false
set_option maxRecDepth 10000
set_option maxHeartbeats 2000000
theorem sz_small {ts : List Trm} {r : Int} (h0 : 0 ≤ r) (h : r + szT ts = 1048576) : ts.length ≤ 1048576 ∧ ∀ t ∈ ts, t.e.length ≤ 1048576 := by
  unfold szT at h
  refine ⟨by omega, fun t ht => ?_⟩
  have : t.e.length ≤ cntL (fun t : Trm => t.e.length) ts := by
    clear h
    induction ts with
    | nil => simp at ht
    | cons x ts ih =>
      simp only [cntL]
      rcases List.mem_cons.1 ht with rfl | ht
      · omega
      · have := ih ht; omega
  omega
theorem sz_cnt {ts : List Trm} {r : Int} (h0 : 0 ≤ r) (h : r + szT ts = 1048576) : cntL cntT ts ≤ 1048576 := by
  have : ∀ ts : List Trm, cntL cntT ts = szT ts := fun ts => by
    induction ts with
    | nil => rfl
    | cons x ts ih =>
      simp only [szT, cntL, cntT, List.length_cons] at ih ⊢
      omega
  rw [this]
  omega
def SmallF (g : Lau) : Prop := g.ts.length ≤ 600 ∧ (∀ t ∈ g.ts, t.e.length ≤ 8) ∧ cntL cntT g.ts ≤ 5400
theorem small_right {g : Lau} (h : Right g) : SmallF g := by
  have he : ∀ t ∈ g.ts, t.e.length ≤ 8 := fun t ht => by have := (h.2.2.1 t ht).1; have := h.1; omega
  refine ⟨h.2.1, he, ?_⟩
  have : ∀ ts : List Trm, (∀ t ∈ ts, t.e.length ≤ 8) → cntL cntT ts ≤ ts.length * 9 := fun ts => by
    induction ts with
    | nil => intro _; simp [cntL]
    | cons x ts ih =>
      intro h
      have h1 := h x (by simp)
      have h2 := ih fun y hy => h y (by simp [hy])
      simp only [cntL, cntT, List.length_cons]
      omega
  have h2 := this g.ts he
  have := h.2.1
  omega
theorem small_zero : SmallF zeroF := by simp [SmallF, zeroF, cntL]
theorem powF_right (f : Lau) (n : Int) : Right (powF f n).1 ∨ powF f n = (zeroF, false) := by
  unfold powF
  split
  · rename_i h
    split
    · rename_i g hg
      exact .inl (powL_right h.1 _ g hg)
    · exact .inr rfl
  · exact .inr rfl
theorem powF_small (f : Lau) (n : Int) : SmallF (powF f n).1 := by
  rcases powF_right f n with h | h
  · exact small_right h
  · rw [h]; exact small_zero
theorem laws_FnExactPowerLaurent_calls (hMul : MulOk) (f : Lau) (n : Int) (hx : f.ts.length < 4611686018427387904) (hxe : ∀ t ∈ f.ts, t.e.length < 4611686018427387904) : ACalls Try.prog F.laws_FnExactPowerLaurent [aF f, .int n] [] true (fun outs res => outs = [] ∧ res = [.one (D.bool true)]) := by
  have hgs := powF_small f n
  have hw := sPow_calls f n hx hxe
  have hg := iPow_calls hMul f n hx hxe
  generalize powF f n = g at hgs hw hg
  obtain ⟨g, b⟩ := g
  obtain ⟨hg1, hg2, hg3⟩ := hgs
  dsimp only at hg1 hg2 hg3 hw hg
  refine ACalls.of_body (C := C.laws_FnExactPowerLaurent) (n := Try.f8.ntmps) tabT folT Try.func8 rfl (by kernel_rfl) rfl (Nat.le_of_ble_eq_true rfl) (by decide) (by kernel_rfl) (by kernel_rfl) rfl (by simp) (by simp) ?_
  simp only [Try.f8]
  refine wseq ?_
  refine wreg fun K hK => ?_
  simp [C.laws_FnExactPowerLaurent, fO]
  refine hK _ ?_; clear hK K
  show AWp _ _ _ _ _
  refine wseq ?_
  refine wreg fun K hK => ?_
  simp [C.laws_FnExactPowerLaurent, fO]
  refine hK _ ?_; clear hK K
  show AWp _ _ _ _ _
  refine wseq ?_
  refine wregI ([0, 1, 2] ++ ([3])) rfl fun K hK => ?_
  refine opsI_seg fun L hL => ?_
  simp [C.laws_FnExactPowerLaurent, fO]
  refine wcall (laws_szLaurent_calls f 1048576 (by omega) (by omega) hx hxe) (by simp) (by simp) (by simp) ?_
  rintro outs res ⟨rfl, r, rfl, hr⟩
  simp [C.laws_FnExactPowerLaurent, fO]
  refine hL _ ?_; clear hL L
  refine opsI_end fun L hL => ?_
  simp [C.laws_FnExactPowerLaurent, fO]
  refine hL _ ?_; clear hL L
  simp [C.laws_FnExactPowerLaurent, fO]
  refine hK _ ?_; clear hK K
  show AWp _ _ _ _ _
  refine wseq ?_
  refine wseq ?_
  refine wreg fun K hK => ?_
  simp [C.laws_FnExactPowerLaurent, fO]
  refine hK _ ?_; clear hK K
  show AWp _ _ _ _ _
  refine wcond _ rfl (fun hc1 => ?_) (fun hc1 => ?_)
  · refine wseq ?_
    refine wreg fun K hK => ?_
    simp [C.laws_FnExactPowerLaurent, fO]
    refine hK _ ?_; clear hK K
    show AWp _ _ _ _ _
    refine wret ?_
    simp [C.laws_FnExactPowerLaurent, fO]
  · have hr0 : 0 ≤ r := by have := d_f hc1; omega
    obtain ⟨hl, he⟩ := sz_small (ts := f.ts) hr0 (by omega)
    have hk : cntL cntT f.ts ≤ 1048576 := sz_cnt hr0 (by omega)
    refine wskip ?_
    show AWp _ _ _ _ _
    refine wseq ?_
    refine wregI ([0, 1] ++ ([2, 3] ++ ([4, 5, 6, 7, 8, 9]))) rfl fun K hK => ?_
    refine opsI_seg fun L hL => ?_
    simp [C.laws_FnExactPowerLaurent, fO]
    refine wcall1 (laws_toLaurent_calls f hl he) (by simp) (by simp) ?_
    simp [C.laws_FnExactPowerLaurent, fO]
    refine hL _ ?_; clear hL L
    refine opsI_seg fun L hL => ?_
    simp [C.laws_FnExactPowerLaurent, fO]
    refine wcall1 (hw) (by simp) (by simp) ?_
    simp [C.laws_FnExactPowerLaurent, fO]
    refine hL _ ?_; clear hL L
    refine opsI_end fun L hL => ?_
    simp [C.laws_FnExactPowerLaurent, fO]
    refine hL _ ?_; clear hL L
    simp [C.laws_FnExactPowerLaurent, fO]
    refine hK _ ?_; clear hK K
    show AWp _ _ _ _ _
    refine wseq ?_
    refine wregI ([0, 1] ++ ([2, 3])) rfl fun K hK => ?_
    refine opsI_seg fun L hL => ?_
    simp [C.laws_FnExactPowerLaurent, fO]
    refine wcall1 (laws_toLaurent_calls f hl he) (by simp) (by simp) ?_
    simp [C.laws_FnExactPowerLaurent, fO]
    refine hL _ ?_; clear hL L
    refine opsI_end fun L hL => ?_
    simp [C.laws_FnExactPowerLaurent, fO]
    refine hL _ ?_; clear hL L
    simp [C.laws_FnExactPowerLaurent, fO]
    refine hK _ ?_; clear hK K
    show AWp _ _ _ _ _
    refine wseq ?_
    refine wregI ([0, 1, 2] ++ ([3, 4, 5, 6, 7, 8])) rfl fun K hK => ?_
    refine opsI_seg fun L hL => ?_
    simp [C.laws_FnExactPowerLaurent, fO]
    refine wcall1 (hg) (by simp) (by simp) ?_
    simp [C.laws_FnExactPowerLaurent, fO]
    refine hL _ ?_; clear hL L
    refine opsI_end fun L hL => ?_
    simp [C.laws_FnExactPowerLaurent, fO]
    refine hL _ ?_; clear hL L
    simp [C.laws_FnExactPowerLaurent, fO]
    refine hK _ ?_; clear hK K
    show AWp _ _ _ _ _
    refine wseq ?_
    refine wseq ?_
    refine wregI ([0, 1, 2] ++ ([3, 4, 5, 6, 7, 8])) rfl fun K hK => ?_
    refine opsI_seg fun L hL => ?_
    simp [C.laws_FnExactPowerLaurent, fO]
    refine wcall1 (laws_eqLaurent_calls g g (by omega) (fun t ht => by have := hg2 t ht; omega)) (by simp) (by simp) ?_
    simp [C.laws_FnExactPowerLaurent, fO]
    refine hL _ ?_; clear hL L
    refine opsI_end fun L hL => ?_
    simp [C.laws_FnExactPowerLaurent, fO]
    refine hL _ ?_; clear hL L
    simp [C.laws_FnExactPowerLaurent, fO]
    refine hK _ ?_; clear hK K
    show AWp _ _ _ _ _
    refine wcond _ rfl (fun hc2 => ?_) (fun hc2 => ?_)
    · simp at hc2
    · refine wskip ?_
      show AWp _ _ _ _ _
      refine wseq ?_
      refine wseq ?_
      refine wdrawI [(true, 0), (true, 1), (false, 2), (false, 3), (true, 4)] ⟨by kernel_rfl, by kernel_rfl⟩ ([0, 1, 2] ++ ([3] ++ ([4]))) rfl fun K hK => ?_
      refine opsI_seg fun L hL => ?_
      simp [C.laws_FnExactPowerLaurent, fO]
      refine wcall1 (laws_toLaurent_calls f hl he) (by simp) (by simp) ?_
      simp [C.laws_FnExactPowerLaurent, fO]
      refine hL _ ?_; clear hL L
      refine opsI_seg fun L hL => ?_
      simp [C.laws_FnExactPowerLaurent, fO]
      refine wcall1 (laws_eqLaurent_calls f f hx hxe) (by simp) (by simp) ?_
      simp [C.laws_FnExactPowerLaurent, fO]
      refine hL _ ?_; clear hL L
      refine opsI_end fun L hL => ?_
      simp [C.laws_FnExactPowerLaurent, fO]
      refine hL _ ?_; clear hL L
      simp [C.laws_FnExactPowerLaurent, fO]
      refine hK _ ?_; clear hK K
      show AWp _ _ _ _ _
      refine wcond _ rfl (fun hc3 => ?_) (fun hc3 => ?_)
      · simp at hc3
      · refine wskip ?_
        show AWp _ _ _ _ _
        refine wseq ?_
        refine wreg fun K hK => ?_
        simp [C.laws_FnExactPowerLaurent, fO]
        refine hK _ ?_; clear hK K
        show AWp _ _ _ _ _
        refine wseq ?_
        refine wregI ([0, 1, 2] ++ ([3])) rfl fun K hK => ?_
        refine opsI_seg fun L hL => ?_
        simp [C.laws_FnExactPowerLaurent, fO]
        refine wcall1 (laws_markLaurent_calls f 1 (by omega) (by omega) hx) (by simp) (by simp) ?_
        simp [C.laws_FnExactPowerLaurent, fO]
        refine hL _ ?_; clear hL L
        refine opsI_end fun L hL => ?_
        simp [C.laws_FnExactPowerLaurent, fO]
        refine hL _ ?_; clear hL L
        simp [C.laws_FnExactPowerLaurent, fO]
        refine hK _ ?_; clear hK K
        show AWp _ _ _ _ _
        refine wseq ?_
        refine wseq ?_
        refine wregI ([0, 1, 2, 3, 4, 5] ++ ([6, 7, 8, 9, 10, 11, 12])) rfl fun K hK => ?_
        refine opsI_seg fun L hL => ?_
        simp [C.laws_FnExactPowerLaurent, fO, show (0 : Int) ≤ 1 + (cntL cntT f.ts : Nat) by omega, show ¬ ((1 : Int) + (cntL cntT f.ts : Nat) < 0) by omega]
        refine wcall1 (laws_eqLaurent_calls g g (by omega) (fun t ht => by have := hg2 t ht; omega)) (by simp) (by simp) ?_
        simp [C.laws_FnExactPowerLaurent, fO, show (0 : Int) ≤ 1 + (cntL cntT f.ts : Nat) by omega, show ¬ ((1 : Int) + (cntL cntT f.ts : Nat) < 0) by omega]
        refine hL _ ?_; clear hL L
        refine opsI_end fun L hL => ?_
        simp [C.laws_FnExactPowerLaurent, fO, show (0 : Int) ≤ 1 + (cntL cntT f.ts : Nat) by omega, show ¬ ((1 : Int) + (cntL cntT f.ts : Nat) < 0) by omega]
        refine hL _ ?_; clear hL L
        simp [C.laws_FnExactPowerLaurent, fO, show (0 : Int) ≤ 1 + (cntL cntT f.ts : Nat) by omega, show ¬ ((1 : Int) + (cntL cntT f.ts : Nat) < 0) by omega]
        refine hK _ ?_; clear hK K
        show AWp _ _ _ _ _
        refine wcond _ rfl (fun hc4 => ?_) (fun hc4 => ?_)
        · simp at hc4
        · refine wskip ?_
          show AWp _ _ _ _ _
          refine wseq ?_
          refine wreg fun K hK => ?_
          simp [C.laws_FnExactPowerLaurent, fO]
          refine hK _ ?_; clear hK K
          show AWp _ _ _ _ _
          refine wseq ?_
          refine wregI ([0, 1, 2] ++ ([3])) rfl fun K hK => ?_
          refine opsI_seg fun L hL => ?_
          simp [C.laws_FnExactPowerLaurent, fO]
          refine wcall1 (laws_markLaurent_calls g 1 (by omega) (by omega) (by omega)) (by simp) (by simp) ?_
          simp [C.laws_FnExactPowerLaurent, fO]
          refine hL _ ?_; clear hL L
          refine opsI_end fun L hL => ?_
          simp [C.laws_FnExactPowerLaurent, fO]
          refine hL _ ?_; clear hL L
          simp [C.laws_FnExactPowerLaurent, fO]
          refine hK _ ?_; clear hK K
          show AWp _ _ _ _ _
          refine wseq ?_
          refine wreg fun K hK => ?_
          simp [C.laws_FnExactPowerLaurent, fO]
          refine hK _ ?_; clear hK K
          show AWp _ _ _ _ _
          refine wseq ?_
          refine wregI ([0, 1, 2] ++ ([3])) rfl fun K hK => ?_
          refine opsI_seg fun L hL => ?_
          simp [C.laws_FnExactPowerLaurent, fO]
          refine wcall1 (laws_heldLaurent_calls g.v g.ts 1 (by omega) (by omega) (by omega)) (by simp) (by simp) ?_
          simp [C.laws_FnExactPowerLaurent, fO]
          refine hL _ ?_; clear hL L
          refine opsI_end fun L hL => ?_
          simp [C.laws_FnExactPowerLaurent, fO]
          refine hL _ ?_; clear hL L
          simp [C.laws_FnExactPowerLaurent, fO]
          refine hK _ ?_; clear hK K
          show AWp _ _ _ _ _
          refine wseq ?_
          refine wseq ?_
          refine wreg fun K hK => ?_
          simp [C.laws_FnExactPowerLaurent, fO]
          refine hK _ ?_; clear hK K
          show AWp _ _ _ _ _
          refine wcond _ rfl (fun hc5 => ?_) (fun hc5 => ?_)
          · have := d_t hc5; omega
          · refine wskip ?_
            show AWp _ _ _ _ _
            refine wseq ?_
            refine wseq ?_
            refine wreg fun K hK => ?_
            simp [C.laws_FnExactPowerLaurent, fO]
            refine hK _ ?_; clear hK K
            show AWp _ _ _ _ _
            refine wcond _ rfl (fun hc6 => ?_) (fun hc6 => ?_)
            · simp at hc6
            · refine wskip ?_
              show AWp _ _ _ _ _
              refine wseq ?_
              refine wregI ([0, 1] ++ ([2, 3] ++ ([4, 5, 6, 7, 8, 9]))) rfl fun K hK => ?_
              refine opsI_seg fun L hL => ?_
              simp [C.laws_FnExactPowerLaurent, fO]
              refine wcall1 (laws_toLaurent_calls f hl he) (by simp) (by simp) ?_
              simp [C.laws_FnExactPowerLaurent, fO]
              refine hL _ ?_; clear hL L
              refine opsI_seg fun L hL => ?_
              simp [C.laws_FnExactPowerLaurent, fO]
              refine wcall1 (hg) (by simp) (by simp) ?_
              simp [C.laws_FnExactPowerLaurent, fO]
              refine hL _ ?_; clear hL L
              refine opsI_end fun L hL => ?_
              simp [C.laws_FnExactPowerLaurent, fO]
              refine hL _ ?_; clear hL L
              simp [C.laws_FnExactPowerLaurent, fO]
              refine hK _ ?_; clear hK K
              show AWp _ _ _ _ _
              refine wseq ?_
              refine wseq ?_
              refine wregI ([0, 1, 2] ++ ([3, 4, 5, 6, 7, 8])) rfl fun K hK => ?_
              refine opsI_seg fun L hL => ?_
              simp [C.laws_FnExactPowerLaurent, fO]
              refine wcall1 (laws_eqLaurent_calls g g (by omega) (fun t ht => by have := hg2 t ht; omega)) (by simp) (by simp) ?_
              simp [C.laws_FnExactPowerLaurent, fO]
              refine hL _ ?_; clear hL L
              refine opsI_end fun L hL => ?_
              simp [C.laws_FnExactPowerLaurent, fO]
              refine hL _ ?_; clear hL L
              simp [C.laws_FnExactPowerLaurent, fO]
              refine hK _ ?_; clear hK K
              show AWp _ _ _ _ _
              refine wcond _ rfl (fun hc7 => ?_) (fun hc7 => ?_)
              · simp at hc7
              · refine wskip ?_
                show AWp _ _ _ _ _
                refine wseq ?_
                refine wreg fun K hK => ?_
                simp [C.laws_FnExactPowerLaurent, fO]
                refine hK _ ?_; clear hK K
                show AWp _ _ _ _ _
                refine wseq ?_
                refine wregI ([0, 1, 2] ++ ([3])) rfl fun K hK => ?_
                refine opsI_seg fun L hL => ?_
                simp [C.laws_FnExactPowerLaurent, fO]
                refine wcall1 (laws_heldLaurent_calls g.v g.ts 1 (by omega) (by omega) (by omega)) (by simp) (by simp) ?_
                simp [C.laws_FnExactPowerLaurent, fO]
                refine hL _ ?_; clear hL L
                refine opsI_end fun L hL => ?_
                simp [C.laws_FnExactPowerLaurent, fO]
                refine hL _ ?_; clear hL L
                simp [C.laws_FnExactPowerLaurent, fO]
                refine hK _ ?_; clear hK K
                show AWp _ _ _ _ _
                refine wseq ?_
                refine wseq ?_
                refine wreg fun K hK => ?_
                simp [C.laws_FnExactPowerLaurent, fO]
                refine hK _ ?_; clear hK K
                show AWp _ _ _ _ _
                refine wcond _ rfl (fun hc8 => ?_) (fun hc8 => ?_)
                · have := d_t hc8; omega
                · refine wskip ?_
                  show AWp _ _ _ _ _
                  refine wseq ?_
                  refine wseq ?_
                  refine wreg fun K hK => ?_
                  simp [C.laws_FnExactPowerLaurent, fO]
                  refine hK _ ?_; clear hK K
                  show AWp _ _ _ _ _
                  refine wcond _ rfl (fun hc9 => ?_) (fun hc9 => ?_)
                  · simp at hc9
                  · refine wskip ?_
                    show AWp _ _ _ _ _
                    refine wseq ?_
                    refine wreg fun K hK => ?_
                    simp [C.laws_FnExactPowerLaurent, fO]
                    refine hK _ ?_; clear hK K
                    show AWp _ _ _ _ _
                    refine wret ?_
                    simp [C.laws_FnExactPowerLaurent, fO]

end Go.Proofs.Ytdgeponcnlkaiaa.Ab
namespace Go.Proofs.Ytdgeponcnlkaiaa.Ab
open Go
set_option linter.unusedSimpArgs false
set_option linter.unusedVariables false
set_option maxRecDepth 10000
set_option maxHeartbeats 1000000
abbrev aM (m : Mat) : FV := .ag [.int m.n, .int m.r, .d (shI m.d)]
abbrev aS (s : Sed) : FV := .ag [.int s.m.n, .int s.m.r, .d (shI s.m.d), .d (.sh 2 s.f.length (rows fS s.f))]
abbrev aZ (z : Ses) : FV := .ag [.int z.a.n, .int z.a.r, .d (shI z.a.d), .d (shI z.k), .int z.s.m.n, .int z.s.m.r, .d (shI z.s.m.d), .d (.sh 2 z.s.f.length (rows fS z.s.f))]
theorem mat_eq {a b : Mat} : a = b ↔ a.n = b.n ∧ a.r = b.r ∧ a.d = b.d := by
  cases a; cases b; simp
theorem sed_eq {a b : Sed} : a = b ↔ a.m = b.m ∧ a.f = b.f := by
  cases a; cases b; simp
theorem ses_eq {a b : Ses} : a = b ↔ a.a = b.a ∧ a.k = b.k ∧ a.s = b.s := by
  cases a; cases b; simp
def SmF (f : Lau) : Prop := f.ts.length < 4611686018427387904 ∧ ∀ t ∈ f.ts, t.e.length < 4611686018427387904
def SmS (s : Sed) : Prop := s.m.d.length < 4611686018427387904 ∧ s.f.length < 4611686018427387904 ∧ ∀ f ∈ s.f, SmF f
def SmZ (z : Ses) : Prop := z.a.d.length < 4611686018427387904 ∧ z.k.length < 4611686018427387904 ∧ SmS z.s
theorem laws_eqMatrix_calls (a b : Mat) (hx : a.d.length < 4611686018427387904) : ACalls Try.prog F.laws_eqMatrix [aM a, aM b] [] true (fun outs res => outs = [] ∧ res = [.one (D.bool (decide (a = b)))]) := by
  refine ACalls.of_body (C := C.laws_eqMatrix) (n := Try.f78.ntmps) tabT folT Try.func78 rfl (by kernel_rfl) rfl (Nat.le_of_ble_eq_true rfl) (by decide) (by kernel_rfl) (by kernel_rfl) rfl (by simp) (by simp) ?_
  simp only [Try.f78]
  refine wseq ?_
  refine wreg fun K hK => ?_
  simp [C.laws_eqMatrix]
  refine hK _ ?_; clear hK K
  show AWp _ _ _ _ _
  refine wseq ?_
  refine wseq ?_
  refine wreg fun K hK => ?_
  simp [C.laws_eqMatrix]
  refine hK _ ?_; clear hK K
  show AWp _ _ _ _ _
  refine wcond _ rfl (fun hc1 => ?_) (fun hc1 => ?_)
  · refine wseq ?_
    refine wreg fun K hK => ?_
    simp [C.laws_eqMatrix]
    refine hK _ ?_; clear hK K
    show AWp _ _ _ _ _
    refine wret ?_
    simp at hc1
    simp [C.laws_eqMatrix, mat_eq, hc1]
  · refine wskip ?_
    show AWp _ _ _ _ _
    refine wseq ?_
    refine wseq ?_
    refine wreg fun K hK => ?_
    simp [C.laws_eqMatrix]
    refine hK _ ?_; clear hK K
    show AWp _ _ _ _ _
    refine wcond _ rfl (fun hc2 => ?_) (fun hc2 => ?_)
    · refine wseq ?_
      refine wreg fun K hK => ?_
      simp [C.laws_eqMatrix]
      refine hK _ ?_; clear hK K
      show AWp _ _ _ _ _
      refine wret ?_
      simp at hc2
      simp [C.laws_eqMatrix, mat_eq, hc2]
    · refine wskip ?_
      show AWp _ _ _ _ _
      refine wseq ?_
      refine wseq ?_
      refine wregI ([0, 1, 2, 3, 4] ++ ([5])) rfl fun K hK => ?_
      refine opsI_seg fun L hL => ?_
      simp [C.laws_eqMatrix]
      refine wcall1 (laws_eqIntS_calls a.d b.d hx) (by simp) (by simp) ?_
      simp [C.laws_eqMatrix]
      refine hL _ ?_; clear hL L
      refine opsI_end fun L hL => ?_
      simp [C.laws_eqMatrix]
      refine hL _ ?_; clear hL L
      simp [C.laws_eqMatrix]
      refine hK _ ?_; clear hK K
      show AWp _ _ _ _ _
      refine wcond _ rfl (fun hc3 => ?_) (fun hc3 => ?_)
      · refine wseq ?_
        refine wreg fun K hK => ?_
        simp [C.laws_eqMatrix]
        refine hK _ ?_; clear hK K
        show AWp _ _ _ _ _
        refine wret ?_
        simp at hc3
        simp [C.laws_eqMatrix, mat_eq, hc3]
      · refine wskip ?_
        show AWp _ _ _ _ _
        refine wseq ?_
        refine wreg fun K hK => ?_
        simp [C.laws_eqMatrix]
        refine hK _ ?_; clear hK K
        show AWp _ _ _ _ _
        refine wret ?_
        simp at hc1 hc2 hc3
        simp [C.laws_eqMatrix, mat_eq, hc1, hc2, hc3]

theorem laws_eqLaurentS_calls (xs ys : List Lau) (hx : xs.length < 4611686018427387904) (hx2 : ∀ t ∈ xs, SmF t) : ACalls Try.prog F.laws_eqLaurentS [.d (.sh 2 xs.length (rows fS xs)), .d (.sh 2 ys.length (rows fS ys))] [] true (fun outs res => outs = [] ∧ res = [.one (D.bool (decide (xs = ys)))]) := by
  refine ACalls.of_body (C := C.laws_eqLaurentS) (n := Try.f170.ntmps) tabT folT Try.func170 rfl (by kernel_rfl) rfl (Nat.le_of_ble_eq_true rfl) (by decide) (by kernel_rfl) (by kernel_rfl) rfl (by simp) (by simp) ?_
  simp only [Try.f170]
  refine wseq ?_
  refine wreg fun K hK => ?_
  simp [C.laws_eqLaurentS]
  refine hK _ ?_; clear hK K
  show AWp _ _ _ _ _
  refine wseq ?_
  refine wseq ?_
  refine wreg fun K hK => ?_
  simp [C.laws_eqLaurentS]
  refine hK _ ?_; clear hK K
  show AWp _ _ _ _ _
  refine wcond _ rfl (fun hc1 => ?_) (fun hc1 => ?_)
  · refine wseq ?_
    refine wreg fun K hK => ?_
    simp [C.laws_eqLaurentS]
    refine hK _ ?_; clear hK K
    show AWp _ _ _ _ _
    refine wret ?_
    simp at hc1
    simp [C.laws_eqLaurentS]
    intro e; simp [e] at hc1
  · refine wskip ?_
    show AWp _ _ _ _ _
    refine wseq ?_
    refine wseq ?_
    refine wreg fun K hK => ?_
    simp [C.laws_eqLaurentS]
    refine hK _ ?_; clear hK K
    show AWp _ _ _ _ _
    refine wblock ?_
    have e : xs.length = ys.length := by simp at hc1; omega
    refine wloop (fun k : Nat => ⟨ofL [(0, .d (.sh 2 xs.length (rows fS xs))), (1, .d (.sh 2 ys.length (rows fS ys))), (5, FV.int k)], ofRO []⟩) (fun k => k ≤ xs.length ∧ xs.take k = ys.take k) (fun k => xs.length - k) 0 (by simp [C.laws_eqLaurentS]) (by simp) ?_
    intro x1 hx1 R1 hR1
    obtain ⟨hk, ht⟩ := hx1
    refine wseq ?_
    refine wseq ?_
    refine wreg fun K hK => ?_
    simp [C.laws_eqLaurentS]
    refine hK _ ?_; clear hK K
    show AWp _ _ _ _ _
    refine wcond _ rfl (fun hc2 => ?_) (fun hc2 => ?_)
    · refine wskip ?_
      show AWp _ _ _ _ _
      refine wseq ?_
      refine wblock ?_
      refine wseq ?_
      have h1 : x1 < xs.length := by simpa using hc2
      have h2 : x1 < ys.length := by omega
      refine wdrawI [(true, 0), (true, 1), (true, 2), (true, 3), (true, 4), (true, 5), (true, 6), (true, 7), (false, 8), (true, 9)] ⟨by kernel_rfl, by kernel_rfl⟩ ([0, 1, 2, 3, 4, 5, 6, 7, 8] ++ ([9])) rfl fun K hK => ?_
      refine opsI_seg fun L hL => ?_
      simp [C.laws_eqLaurentS, h1, h2, fS_0 h1, fS_1 h1, fS_0 h2, fS_1 h2]
      refine wcall1 (laws_eqLaurent_calls xs[x1] ys[x1] (hx2 _ (List.getElem_mem h1)).1 (hx2 _ (List.getElem_mem h1)).2) (by simp) (by simp) ?_
      simp [C.laws_eqLaurentS, h1, h2, fS_0 h1, fS_1 h1, fS_0 h2, fS_1 h2]
      refine hL _ ?_; clear hL L
      refine opsI_end fun L hL => ?_
      simp [C.laws_eqLaurentS, h1, h2, fS_0 h1, fS_1 h1, fS_0 h2, fS_1 h2]
      refine hL _ ?_; clear hL L
      simp [C.laws_eqLaurentS, h1, h2, fS_0 h1, fS_1 h1, fS_0 h2, fS_1 h2]
      refine hK _ ?_; clear hK K
      show AWp _ _ _ _ _
      refine wcond _ rfl (fun hc3 => ?_) (fun hc3 => ?_)
      · refine wseq ?_
        refine wreg fun K hK => ?_
        simp [C.laws_eqLaurentS]
        refine hK _ ?_; clear hK K
        show AWp _ _ _ _ _
        refine wret ?_
        simp at hc3
        simp [C.laws_eqLaurentS]
        intro e; simp [e] at hc3
      · refine wskip ?_
        show AWp _ _ _ _ _
        refine wreg fun K hK => ?_
        simp [C.laws_eqLaurentS, wrap_succ (show x1 < 4611686018427387904 by omega)]
        refine hK _ ?_; clear hK K
        simp [C.laws_eqLaurentS]
        simp at hc3
        refine hR1 (x1 + 1) ⟨h1, ?_⟩ (by omega)
        rw [List.take_succ_eq_append_getElem h1, List.take_succ_eq_append_getElem h2, ht, hc3]
    · refine wexit ?_
      show AWp _ _ _ _ _
      refine wseq ?_
      refine wreg fun K hK => ?_
      simp [C.laws_eqLaurentS]
      refine hK _ ?_; clear hK K
      show AWp _ _ _ _ _
      refine wret ?_
      have hk2 : x1 = xs.length := by simp at hc2; omega
      simp [C.laws_eqLaurentS]
      rw [hk2, List.take_length, e, List.take_length] at ht
      exact ht

theorem laws_eqSeed_calls (a b : Sed) (hx : SmS a) : ACalls Try.prog F.laws_eqSeed [aS a, aS b] [] true (fun outs res => outs = [] ∧ res = [.one (D.bool (decide (a = b)))]) := by
  refine ACalls.of_body (C := C.laws_eqSeed) (n := Try.f80.ntmps) tabT folT Try.func80 rfl (by kernel_rfl) rfl (Nat.le_of_ble_eq_true rfl) (by decide) (by kernel_rfl) (by kernel_rfl) rfl (by simp) (by simp) ?_
  simp only [Try.f80]
  refine wseq ?_
  refine wreg fun K hK => ?_
  simp [C.laws_eqSeed]
  refine hK _ ?_; clear hK K
  show AWp _ _ _ _ _
  refine wseq ?_
  refine wseq ?_
  refine wregI ([0, 1, 2, 3, 4] ++ ([5])) rfl fun K hK => ?_
  refine opsI_seg fun L hL => ?_
  simp [C.laws_eqSeed]
  refine wcall1 (laws_eqMatrix_calls a.m b.m hx.1) (by simp) (by simp) ?_
  simp [C.laws_eqSeed]
  refine hL _ ?_; clear hL L
  refine opsI_end fun L hL => ?_
  simp [C.laws_eqSeed]
  refine hL _ ?_; clear hL L
  simp [C.laws_eqSeed]
  refine hK _ ?_; clear hK K
  show AWp _ _ _ _ _
  refine wcond _ rfl (fun hc1 => ?_) (fun hc1 => ?_)
  · refine wseq ?_
    refine wreg fun K hK => ?_
    simp [C.laws_eqSeed]
    refine hK _ ?_; clear hK K
    show AWp _ _ _ _ _
    refine wret ?_
    simp at hc1
    simp [C.laws_eqSeed, sed_eq, hc1]
  · refine wskip ?_
    show AWp _ _ _ _ _
    refine wseq ?_
    refine wseq ?_
    refine wregI ([0, 1, 2, 3, 4] ++ ([5])) rfl fun K hK => ?_
    refine opsI_seg fun L hL => ?_
    simp [C.laws_eqSeed]
    refine wcall1 (laws_eqLaurentS_calls a.f b.f hx.2.1 hx.2.2) (by simp) (by simp) ?_
    simp [C.laws_eqSeed]
    refine hL _ ?_; clear hL L
    refine opsI_end fun L hL => ?_
    simp [C.laws_eqSeed]
    refine hL _ ?_; clear hL L
    simp [C.laws_eqSeed]
    refine hK _ ?_; clear hK K
    show AWp _ _ _ _ _
    refine wcond _ rfl (fun hc2 => ?_) (fun hc2 => ?_)
    · refine wseq ?_
      refine wreg fun K hK => ?_
      simp [C.laws_eqSeed]
      refine hK _ ?_; clear hK K
      show AWp _ _ _ _ _
      refine wret ?_
      simp at hc2
      simp [C.laws_eqSeed, sed_eq, hc2]
    · refine wskip ?_
      show AWp _ _ _ _ _
      refine wseq ?_
      refine wreg fun K hK => ?_
      simp [C.laws_eqSeed]
      refine hK _ ?_; clear hK K
      show AWp _ _ _ _ _
      refine wret ?_
      simp at hc1 hc2
      simp [C.laws_eqSeed, sed_eq, hc1, hc2]

theorem laws_eqSession_calls (a b : Ses) (hx : SmZ a) : ACalls Try.prog F.laws_eqSession [aZ a, aZ b] [] true (fun outs res => outs = [] ∧ res = [.one (D.bool (decide (a = b)))]) := by
  refine ACalls.of_body (C := C.laws_eqSession) (n := Try.f17.ntmps) tabT folT Try.func17 rfl (by kernel_rfl) rfl (Nat.le_of_ble_eq_true rfl) (by decide) (by kernel_rfl) (by kernel_rfl) rfl (by simp) (by simp) ?_
  simp only [Try.f17]
  refine wseq ?_
  refine wreg fun K hK => ?_
  simp [C.laws_eqSession]
  refine hK _ ?_; clear hK K
  show AWp _ _ _ _ _
  refine wseq ?_
  refine wseq ?_
  refine wregI ([0, 1, 2, 3, 4] ++ ([5])) rfl fun K hK => ?_
  refine opsI_seg fun L hL => ?_
  simp [C.laws_eqSession]
  refine wcall1 (laws_eqMatrix_calls a.a b.a hx.1) (by simp) (by simp) ?_
  simp [C.laws_eqSession]
  refine hL _ ?_; clear hL L
  refine opsI_end fun L hL => ?_
  simp [C.laws_eqSession]
  refine hL _ ?_; clear hL L
  simp [C.laws_eqSession]
  refine hK _ ?_; clear hK K
  show AWp _ _ _ _ _
  refine wcond _ rfl (fun hc1 => ?_) (fun hc1 => ?_)
  · refine wseq ?_
    refine wreg fun K hK => ?_
    simp [C.laws_eqSession]
    refine hK _ ?_; clear hK K
    show AWp _ _ _ _ _
    refine wret ?_
    simp at hc1
    simp [C.laws_eqSession, ses_eq, hc1]
  · refine wskip ?_
    show AWp _ _ _ _ _
    refine wseq ?_
    refine wseq ?_
    refine wregI ([0, 1, 2, 3, 4] ++ ([5])) rfl fun K hK => ?_
    refine opsI_seg fun L hL => ?_
    simp [C.laws_eqSession]
    refine wcall1 (laws_eqIntS_calls a.k b.k hx.2.1) (by simp) (by simp) ?_
    simp [C.laws_eqSession]
    refine hL _ ?_; clear hL L
    refine opsI_end fun L hL => ?_
    simp [C.laws_eqSession]
    refine hL _ ?_; clear hL L
    simp [C.laws_eqSession]
    refine hK _ ?_; clear hK K
    show AWp _ _ _ _ _
    refine wcond _ rfl (fun hc2 => ?_) (fun hc2 => ?_)
    · refine wseq ?_
      refine wreg fun K hK => ?_
      simp [C.laws_eqSession]
      refine hK _ ?_; clear hK K
      show AWp _ _ _ _ _
      refine wret ?_
      simp at hc2
      simp [C.laws_eqSession, ses_eq, hc2]
    · refine wskip ?_
      show AWp _ _ _ _ _
      refine wseq ?_
      refine wseq ?_
      refine wregI ([0, 1, 2, 3, 4] ++ ([5])) rfl fun K hK => ?_
      refine opsI_seg fun L hL => ?_
      simp [C.laws_eqSession]
      refine wcall1 (laws_eqSeed_calls a.s b.s hx.2.2) (by simp) (by simp) ?_
      simp [C.laws_eqSession]
      refine hL _ ?_; clear hL L
      refine opsI_end fun L hL => ?_
      simp [C.laws_eqSession]
      refine hL _ ?_; clear hL L
      simp [C.laws_eqSession]
      refine hK _ ?_; clear hK K
      show AWp _ _ _ _ _
      refine wcond _ rfl (fun hc3 => ?_) (fun hc3 => ?_)
      · refine wseq ?_
        refine wreg fun K hK => ?_
        simp [C.laws_eqSession]
        refine hK _ ?_; clear hK K
        show AWp _ _ _ _ _
        refine wret ?_
        simp at hc3
        simp [C.laws_eqSession, ses_eq, hc3]
      · refine wskip ?_
        show AWp _ _ _ _ _
        refine wseq ?_
        refine wreg fun K hK => ?_
        simp [C.laws_eqSession]
        refine hK _ ?_; clear hK K
        show AWp _ _ _ _ _
        refine wret ?_
        simp at hc1 hc2 hc3
        simp [C.laws_eqSession, ses_eq, hc1, hc2, hc3]

theorem laws_markMatrix_calls (m : Mat) (k : Int) (hk0 : 0 ≤ k) (hk : k + m.d.length < 4611686018427387904) : ACalls Try.prog F.laws_markMatrix [.ag [.int m.n, .int m.r, .al (0, 2) [] 0 m.d.length], .int k] [((0, 2), owI m.d)] true (fun outs res => outs = [.ow 1 m.d.length (ints (marks k m.d.length))] ∧ res = [.one (D.int (k + m.d.length))]) := by
  refine ACalls.of_body (C := C.laws_markMatrix) (n := Try.f81.ntmps) tabT folT Try.func81 rfl (by kernel_rfl) rfl (Nat.le_of_ble_eq_true rfl) (by decide) (by kernel_rfl) (by kernel_rfl) rfl (by simp) (by simp) ?_
  simp only [Try.f81]
  refine wseq ?_
  refine wreg fun K hK => ?_
  simp [C.laws_markMatrix]
  refine hK _ ?_; clear hK K
  show AWp _ _ _ _ _
  refine wseq ?_
  refine wregI ([0, 1, 2, 3] ++ ([4])) rfl fun K hK => ?_
  refine opsI_seg fun L hL => ?_
  simp [C.laws_markMatrix, modify_const]
  refine wcall1 (laws_markIntS_calls m.d k hk0 hk) (by simp) (by simp) ?_
  simp [C.laws_markMatrix, modify_const]
  refine hL _ ?_; clear hL L
  refine opsI_end fun L hL => ?_
  simp [C.laws_markMatrix, modify_const]
  refine hL _ ?_; clear hL L
  simp [C.laws_markMatrix, modify_const]
  refine hK _ ?_; clear hK K
  show AWp _ _ _ _ _
  refine wseq ?_
  refine wreg fun K hK => ?_
  simp [C.laws_markMatrix]
  refine hK _ ?_; clear hK K
  show AWp _ _ _ _ _
  refine wret ?_
  simp [C.laws_markMatrix]

theorem laws_markLaurentS_calls (fs : List Lau) (k : Int) (hk0 : 0 ≤ k) (hk : k + cntL cntF fs < 4611686018427387904) (hx : fs.length < 4611686018427387904) (hx2 : ∀ f ∈ fs, SmF f) : ACalls Try.prog F.laws_markLaurentS [.al (0, 0) [] 0 fs.length, .int k] [((0, 0), .ow 2 fs.length (rows fO fs))] true (fun outs res => outs = [.ow 2 fs.length (rows fO (mkL cntF mkF fs k))] ∧ res = [.one (D.int (k + cntL cntF fs))]) := by
  refine ACalls.of_body (C := C.laws_markLaurentS) (n := Try.f171.ntmps) tabT folT Try.func171 rfl (by kernel_rfl) rfl (Nat.le_of_ble_eq_true rfl) (by decide) (by kernel_rfl) (by kernel_rfl) rfl (by simp) (by simp) ?_
  simp only [Try.f171]
  refine wseq ?_
  refine wreg fun K hK => ?_
  simp [C.laws_markLaurentS]
  refine hK _ ?_; clear hK K
  show AWp _ _ _ _ _
  refine wseq ?_
  refine wseq ?_
  refine wreg fun K hK => ?_
  simp [C.laws_markLaurentS]
  refine hK _ ?_; clear hK K
  show AWp _ _ _ _ _
  refine wblock ?_
  refine wloop (fun x : Nat × List Lau × Int => ⟨ofL [(0, .al (0, 0) [] 0 fs.length), (1, .int x.2.2), (5, .int x.1), (1000, .al (0, 0) [] 0 fs.length)], ofRO [((0, 0), some (.ow 2 fs.length (rows fO x.2.1)))]⟩) (fun x => x.1 ≤ fs.length ∧ x.2.1 = mkL cntF mkF (fs.take x.1) k ++ fs.drop x.1 ∧ x.2.2 = k + cntL cntF (fs.take x.1)) (fun x => fs.length - x.1) (0, fs, k) (by simp [C.laws_markLaurentS]) (by simp [mkL, cntL]) ?_
  intro x1 hx1 R1 hR1
  obtain ⟨j, gs, kk⟩ := x1
  obtain ⟨h0, hg, he⟩ := hx1
  dsimp only at h0 hg he ⊢
  refine wseq ?_
  refine wseq ?_
  refine wreg fun K hK => ?_
  simp [C.laws_markLaurentS]
  refine hK _ ?_; clear hK K
  show AWp _ _ _ _ _
  refine wcond _ rfl (fun hc1 => ?_) (fun hc1 => ?_)
  · refine wskip ?_
    show AWp _ _ _ _ _
    refine wseq ?_
    refine wblock ?_
    refine wseq ?_
    have h1 : j < fs.length := by simpa using hc1
    have hl : gs.length = fs.length := by rw [hg]; simp; omega
    have h2 : j < gs.length := by omega
    have hge : gs[j] = fs[j] := by
      have := mkL_get2 cntF mkF fs k j h1
      rw [← hg, List.getElem?_eq_getElem h2] at this
      injection this
    have hb := cntL_le1 cntF fs j h1
    have hcj : cntF fs[j] = 1 + cntL cntT fs[j].ts := rfl
    refine wreg fun K hK => ?_
    simp [C.laws_markLaurentS, hl, h1, h2, hge, fO_0 h2, fO_1 h2]
    refine hK _ ?_; clear hK K
    show AWp _ _ _ _ _
    refine wseq ?_
    refine wreg fun K hK => ?_
    simp [C.laws_markLaurentS]
    rw [wrapOk (x := kk + 1) (by omega) (by omega)]
    refine hK _ ?_; clear hK K
    show AWp _ _ _ _ _
    refine wregI ([0, 1, 2, 3, 4, 5, 6] ++ ([7])) rfl fun K hK => ?_
    refine opsI_seg fun L hL => ?_
    simp [C.laws_markLaurentS, hl, h1, h2, hge, fO_0 h2, fO_1 h2, modify_const]
    refine wcall1 (laws_markTermS_calls fs[j].ts (kk + 1) (by omega) (by omega) (hx2 _ (List.getElem_mem h1)).1) (by simp) (by simp) ?_
    simp [C.laws_markLaurentS, hl, h1, h2, hge, fO_0 h2, fO_1 h2, modify_const]
    refine hL _ ?_; clear hL L
    refine opsI_end fun L hL => ?_
    simp [C.laws_markLaurentS, hl, h1, h2, hge, fO_0 h2, fO_1 h2, modify_const]
    refine hL _ ?_; clear hL L
    simp [C.laws_markLaurentS, hl, h1, h2, hge, fO_0 h2, fO_1 h2, modify_const]
    refine hK _ ?_; clear hK K
    show AWp _ _ _ _ _
    refine wreg fun K hK => ?_
    simp [C.laws_markLaurentS, wrap_succ (show j < 4611686018427387904 by omega)]
    refine hK _ ?_; clear hK K
    simp [C.laws_markLaurentS]
    rw [fO_set2 h2 _ _ (by simp)]
    refine hR1 (j + 1, _, _) ⟨h1, ?_, ?_⟩ (by dsimp only; omega)
    · dsimp only
      rw [hg, he]
      exact mkL_step cntF mkF fs k j h1
    · dsimp only
      rw [cntL_step _ _ _ h1]
      omega
  · refine wexit ?_
    show AWp _ _ _ _ _
    refine wseq ?_
    refine wreg fun K hK => ?_
    simp [C.laws_markLaurentS]
    refine hK _ ?_; clear hK K
    show AWp _ _ _ _ _
    refine wret ?_
    have hj2 : j = fs.length := by simp at hc1; omega
    simp [C.laws_markLaurentS, hj2, hg, he]

theorem laws_markSeed_calls (s : Sed) (k : Int) (hk0 : 0 ≤ k) (hk : k + cntS s < 4611686018427387904) (hx : SmS s) : ACalls Try.prog F.laws_markSeed [.ag [.int s.m.n, .int s.m.r, .al (0, 2) [] 0 s.m.d.length, .al (0, 3) [] 0 s.f.length], .int k] [((0, 2), owI s.m.d), ((0, 3), .ow 2 s.f.length (rows fO s.f))] true (fun outs res => outs = [.ow 1 s.m.d.length (ints (marks k s.m.d.length)), .ow 2 s.f.length (rows fO (mkL cntF mkF s.f (k + s.m.d.length)))] ∧ res = [.one (D.int (k + cntS s))]) := by
  refine ACalls.of_body (C := C.laws_markSeed) (n := Try.f83.ntmps) tabT folT Try.func83 rfl (by kernel_rfl) rfl (Nat.le_of_ble_eq_true rfl) (by decide) (by kernel_rfl) (by kernel_rfl) rfl (by simp) (by simp) ?_
  simp only [Try.f83]
  refine wseq ?_
  refine wreg fun K hK => ?_
  simp [C.laws_markSeed]
  refine hK _ ?_; clear hK K
  show AWp _ _ _ _ _
  refine wseq ?_
  have hcs : cntS s = s.m.d.length + cntL cntF s.f := rfl
  refine wregI ([0, 1, 2, 3] ++ ([4])) rfl fun K hK => ?_
  refine opsI_seg fun L hL => ?_
  simp [C.laws_markSeed, modify_const]
  refine wcall1 (laws_markMatrix_calls s.m k hk0 (by omega)) (by simp) (by simp) ?_
  simp [C.laws_markSeed, modify_const]
  refine hL _ ?_; clear hL L
  refine opsI_end fun L hL => ?_
  simp [C.laws_markSeed, modify_const]
  refine hL _ ?_; clear hL L
  simp [C.laws_markSeed, modify_const]
  refine hK _ ?_; clear hK K
  show AWp _ _ _ _ _
  refine wseq ?_
  refine wregI ([0, 1, 2, 3] ++ ([4])) rfl fun K hK => ?_
  refine opsI_seg fun L hL => ?_
  simp [C.laws_markSeed, modify_const]
  refine wcall1 (laws_markLaurentS_calls s.f (k + s.m.d.length) (by omega) (by omega) hx.2.1 hx.2.2) (by simp) (by simp) ?_
  simp [C.laws_markSeed, modify_const]
  refine hL _ ?_; clear hL L
  refine opsI_end fun L hL => ?_
  simp [C.laws_markSeed, modify_const]
  refine hL _ ?_; clear hL L
  simp [C.laws_markSeed, modify_const]
  refine hK _ ?_; clear hK K
  show AWp _ _ _ _ _
  refine wseq ?_
  refine wreg fun K hK => ?_
  simp [C.laws_markSeed]
  refine hK _ ?_; clear hK K
  show AWp _ _ _ _ _
  refine wret ?_
  simp [C.laws_markSeed]
  omega

theorem laws_markSession_calls (z : Ses) (k : Int) (hk0 : 0 ≤ k) (hk : k + cntZ z < 4611686018427387904) (hx : SmZ z) : ACalls Try.prog F.laws_markSession [.ag [.int z.a.n, .int z.a.r, .al (0, 2) [] 0 z.a.d.length, .al (0, 3) [] 0 z.k.length, .int z.s.m.n, .int z.s.m.r, .al (0, 6) [] 0 z.s.m.d.length, .al (0, 7) [] 0 z.s.f.length], .int k] [((0, 2), owI z.a.d), ((0, 3), owI z.k), ((0, 6), owI z.s.m.d), ((0, 7), .ow 2 z.s.f.length (rows fO z.s.f))] true (fun outs res => outs = [.ow 1 z.a.d.length (ints (marks k z.a.d.length)), .ow 1 z.k.length (ints (marks (k + z.a.d.length) z.k.length)), .ow 1 z.s.m.d.length (ints (marks (k + z.a.d.length + z.k.length) z.s.m.d.length)), .ow 2 z.s.f.length (rows fO (mkL cntF mkF z.s.f (k + z.a.d.length + z.k.length + z.s.m.d.length)))] ∧ res = [.one (D.int (k + cntZ z))]) := by
  refine ACalls.of_body (C := C.laws_markSession) (n := Try.f18.ntmps) tabT folT Try.func18 rfl (by kernel_rfl) rfl (Nat.le_of_ble_eq_true rfl) (by decide) (by kernel_rfl) (by kernel_rfl) rfl (by simp) (by simp) ?_
  simp only [Try.f18]
  refine wseq ?_
  refine wreg fun K hK => ?_
  simp [C.laws_markSession]
  refine hK _ ?_; clear hK K
  show AWp _ _ _ _ _
  refine wseq ?_
  have hcz : cntZ z = z.a.d.length + z.k.length + cntS z.s := rfl
  refine wregI ([0, 1, 2, 3] ++ ([4])) rfl fun K hK => ?_
  refine opsI_seg fun L hL => ?_
  simp [C.laws_markSession]
  refine wcall1 (laws_markMatrix_calls z.a k hk0 (by omega)) (by simp) (by simp) ?_
  simp [C.laws_markSession]
  refine hL _ ?_; clear hL L
  refine opsI_end fun L hL => ?_
  simp [C.laws_markSession]
  refine hL _ ?_; clear hL L
  simp [C.laws_markSession]
  refine hK _ ?_; clear hK K
  show AWp _ _ _ _ _
  refine wseq ?_
  refine wregI ([0, 1, 2, 3] ++ ([4])) rfl fun K hK => ?_
  refine opsI_seg fun L hL => ?_
  simp [C.laws_markSession]
  refine wcall1 (laws_markIntS_calls z.k (k + z.a.d.length) (by omega) (by omega)) (by simp) (by simp) ?_
  simp [C.laws_markSession]
  refine hL _ ?_; clear hL L
  refine opsI_end fun L hL => ?_
  simp [C.laws_markSession]
  refine hL _ ?_; clear hL L
  simp [C.laws_markSession]
  refine hK _ ?_; clear hK K
  show AWp _ _ _ _ _
  refine wseq ?_
  refine wregI ([0, 1, 2, 3] ++ ([4])) rfl fun K hK => ?_
  refine opsI_seg fun L hL => ?_
  simp [C.laws_markSession]
  refine wcall1 (laws_markSeed_calls z.s (k + z.a.d.length + z.k.length) (by omega) (by omega) hx.2.2) (by simp) (by simp) ?_
  simp [C.laws_markSession]
  refine hL _ ?_; clear hL L
  refine opsI_end fun L hL => ?_
  simp [C.laws_markSession]
  refine hL _ ?_; clear hL L
  simp [C.laws_markSession]
  refine hK _ ?_; clear hK K
  show AWp _ _ _ _ _
  refine wseq ?_
  refine wreg fun K hK => ?_
  simp [C.laws_markSession]
  refine hK _ ?_; clear hK K
  show AWp _ _ _ _ _
  refine wret ?_
  simp [C.laws_markSession]
  omega

theorem laws_heldMatrix_calls (n r : Int) (l : Nat) (k : Int) (hk0 : 0 ≤ k) (hk : k + l < 4611686018427387904) : ACalls Try.prog F.laws_heldMatrix [.ag [.int n, .int r, .d (.sh 1 l (ints (marks k l)))], .int k] [] true (fun outs res => outs = [] ∧ res = [.one (D.int (k + l))]) := by
  refine ACalls.of_body (C := C.laws_heldMatrix) (n := Try.f84.ntmps) tabT folT Try.func84 rfl (by kernel_rfl) rfl (Nat.le_of_ble_eq_true rfl) (by decide) (by kernel_rfl) (by kernel_rfl) rfl (by simp) (by simp) ?_
  simp only [Try.f84]
  refine wseq ?_
  refine wreg fun K hK => ?_
  simp [C.laws_heldMatrix]
  refine hK _ ?_; clear hK K
  show AWp _ _ _ _ _
  refine wseq ?_
  refine wregI ([0, 1, 2, 3] ++ ([4])) rfl fun K hK => ?_
  refine opsI_seg fun L hL => ?_
  simp [C.laws_heldMatrix]
  refine wcall1 (laws_heldIntS_calls l k hk0 hk) (by simp) (by simp) ?_
  simp [C.laws_heldMatrix]
  refine hL _ ?_; clear hL L
  refine opsI_end fun L hL => ?_
  simp [C.laws_heldMatrix]
  refine hL _ ?_; clear hL L
  simp [C.laws_heldMatrix]
  refine hK _ ?_; clear hK K
  show AWp _ _ _ _ _
  refine wseq ?_
  refine wseq ?_
  refine wreg fun K hK => ?_
  simp [C.laws_heldMatrix]
  refine hK _ ?_; clear hK K
  show AWp _ _ _ _ _
  refine wcond _ rfl (fun hc1 => ?_) (fun hc1 => ?_)
  · simp at hc1; omega
  · refine wskip ?_
    show AWp _ _ _ _ _
    refine wseq ?_
    refine wreg fun K hK => ?_
    simp [C.laws_heldMatrix]
    refine hK _ ?_; clear hK K
    show AWp _ _ _ _ _
    refine wret ?_
    simp [C.laws_heldMatrix]

theorem laws_heldLaurentS_calls (fs : List Lau) (k : Int) (hk0 : 0 ≤ k) (hk : k + cntL cntF fs < 4611686018427387904) (hx : fs.length < 4611686018427387904) (hx2 : ∀ f ∈ fs, SmF f) : ACalls Try.prog F.laws_heldLaurentS [.d (.sh 2 fs.length (rows fS (mkL cntF mkF fs k))), .int k] [] true (fun outs res => outs = [] ∧ res = [.one (D.int (k + cntL cntF fs))]) := by
  refine ACalls.of_body (C := C.laws_heldLaurentS) (n := Try.f172.ntmps) tabT folT Try.func172 rfl (by kernel_rfl) rfl (Nat.le_of_ble_eq_true rfl) (by decide) (by kernel_rfl) (by kernel_rfl) rfl (by simp) (by simp) ?_
  simp only [Try.f172]
  refine wseq ?_
  refine wreg fun K hK => ?_
  simp [C.laws_heldLaurentS]
  refine hK _ ?_; clear hK K
  show AWp _ _ _ _ _
  refine wseq ?_
  refine wseq ?_
  refine wreg fun K hK => ?_
  simp [C.laws_heldLaurentS]
  refine hK _ ?_; clear hK K
  show AWp _ _ _ _ _
  refine wblock ?_
  refine wloop (fun x : Nat × Int => ⟨ofL [(0, .d (.sh 2 fs.length (rows fS (mkL cntF mkF fs k)))), (1, .int x.2), (5, .int x.1)], ofRO []⟩) (fun x => x.1 ≤ fs.length ∧ x.2 = k + cntL cntF (fs.take x.1)) (fun x => fs.length - x.1) (0, k) (by simp [C.laws_heldLaurentS]) (by simp [cntL]) ?_
  intro x1 hx1 R1 hR1
  obtain ⟨j, kk⟩ := x1
  obtain ⟨h0, he⟩ := hx1
  dsimp only at h0 he ⊢
  refine wseq ?_
  refine wseq ?_
  refine wreg fun K hK => ?_
  simp [C.laws_heldLaurentS]
  refine hK _ ?_; clear hK K
  show AWp _ _ _ _ _
  refine wcond _ rfl (fun hc1 => ?_) (fun hc1 => ?_)
  · refine wskip ?_
    show AWp _ _ _ _ _
    refine wseq ?_
    refine wblock ?_
    refine wseq ?_
    refine wseq ?_
    have h1 : j < fs.length := by simpa using hc1
    have h2 : j < (mkL cntF mkF fs k).length := by simpa using h1
    have hge : (mkL cntF mkF fs k)[j] = ⟨kk, mkL cntT mkT fs[j].ts (kk + 1)⟩ := by
      rw [mkL_get1 _ _ _ _ _ h1, he]
      rfl
    have hb := cntL_le1 cntF fs j h1
    have hcj : cntF fs[j] = 1 + cntL cntT fs[j].ts := rfl
    refine wreg fun K hK => ?_
    simp [C.laws_heldLaurentS, h1, h2, hge, fS_0 h2, fS_1 h2]
    refine hK _ ?_; clear hK K
    show AWp _ _ _ _ _
    refine wcond _ rfl (fun hc2 => ?_) (fun hc2 => ?_)
    · simp at hc2
    · refine wskip ?_
      show AWp _ _ _ _ _
      refine wseq ?_
      refine wreg fun K hK => ?_
      simp [C.laws_heldLaurentS]
      rw [wrapOk (x := kk + 1) (by omega) (by omega)]
      refine hK _ ?_; clear hK K
      show AWp _ _ _ _ _
      refine wseq ?_
      refine wregI ([0, 1, 2, 3, 4, 5, 6] ++ ([7])) rfl fun K hK => ?_
      refine opsI_seg fun L hL => ?_
      simp [C.laws_heldLaurentS, h1, h2, hge, fS_0 h2, fS_1 h2]
      refine wcall1 (laws_heldTermS_calls fs[j].ts (kk + 1) (by omega) (by omega) (hx2 _ (List.getElem_mem h1)).1) (by simp) (by simp) ?_
      simp [C.laws_heldLaurentS, h1, h2, hge, fS_0 h2, fS_1 h2]
      refine hL _ ?_; clear hL L
      refine opsI_end fun L hL => ?_
      simp [C.laws_heldLaurentS, h1, h2, hge, fS_0 h2, fS_1 h2]
      refine hL _ ?_; clear hL L
      simp [C.laws_heldLaurentS, h1, h2, hge, fS_0 h2, fS_1 h2]
      refine hK _ ?_; clear hK K
      show AWp _ _ _ _ _
      refine wseq ?_
      refine wreg fun K hK => ?_
      simp [C.laws_heldLaurentS]
      refine hK _ ?_; clear hK K
      show AWp _ _ _ _ _
      refine wcond _ rfl (fun hc3 => ?_) (fun hc3 => ?_)
      · simp at hc3; omega
      · refine wskip ?_
        show AWp _ _ _ _ _
        refine wreg fun K hK => ?_
        simp [C.laws_heldLaurentS, wrap_succ (show j < 4611686018427387904 by omega)]
        refine hK _ ?_; clear hK K
        simp [C.laws_heldLaurentS]
        refine hR1 (j + 1, _) ⟨h1, ?_⟩ (by dsimp only; omega)
        dsimp only
        rw [cntL_step _ _ _ h1]
        omega
  · refine wexit ?_
    show AWp _ _ _ _ _
    refine wseq ?_
    refine wreg fun K hK => ?_
    simp [C.laws_heldLaurentS]
    refine hK _ ?_; clear hK K
    show AWp _ _ _ _ _
    refine wret ?_
    have hj2 : j = fs.length := by simp at hc1; omega
    simp [C.laws_heldLaurentS, hj2, he]

theorem laws_heldSeed_calls (s : Sed) (n r : Int) (k : Int) (hk0 : 0 ≤ k) (hk : k + cntS s < 4611686018427387904) (hx : SmS s) : ACalls Try.prog F.laws_heldSeed [.ag [.int n, .int r, .d (.sh 1 s.m.d.length (ints (marks k s.m.d.length))), .d (.sh 2 s.f.length (rows fS (mkL cntF mkF s.f (k + s.m.d.length))))], .int k] [] true (fun outs res => outs = [] ∧ res = [.one (D.int (k + cntS s))]) := by
  refine ACalls.of_body (C := C.laws_heldSeed) (n := Try.f86.ntmps) tabT folT Try.func86 rfl (by kernel_rfl) rfl (Nat.le_of_ble_eq_true rfl) (by decide) (by kernel_rfl) (by kernel_rfl) rfl (by simp) (by simp) ?_
  simp only [Try.f86]
  refine wseq ?_
  refine wreg fun K hK => ?_
  simp [C.laws_heldSeed]
  refine hK _ ?_; clear hK K
  show AWp _ _ _ _ _
  refine wseq ?_
  have hcs : cntS s = s.m.d.length + cntL cntF s.f := rfl
  refine wregI ([0, 1, 2, 3] ++ ([4])) rfl fun K hK => ?_
  refine opsI_seg fun L hL => ?_
  simp [C.laws_heldSeed]
  refine wcall1 (laws_heldMatrix_calls n r s.m.d.length k hk0 (by omega)) (by simp) (by simp) ?_
  simp [C.laws_heldSeed]
  refine hL _ ?_; clear hL L
  refine opsI_end fun L hL => ?_
  simp [C.laws_heldSeed]
  refine hL _ ?_; clear hL L
  simp [C.laws_heldSeed]
  refine hK _ ?_; clear hK K
  show AWp _ _ _ _ _
  refine wseq ?_
  refine wseq ?_
  refine wreg fun K hK => ?_
  simp [C.laws_heldSeed]
  refine hK _ ?_; clear hK K
  show AWp _ _ _ _ _
  refine wcond _ rfl (fun hc1 => ?_) (fun hc1 => ?_)
  · simp at hc1; omega
  · refine wskip ?_
    show AWp _ _ _ _ _
    refine wseq ?_
    refine wregI ([0, 1, 2, 3] ++ ([4])) rfl fun K hK => ?_
    refine opsI_seg fun L hL => ?_
    simp [C.laws_heldSeed]
    refine wcall1 (laws_heldLaurentS_calls s.f (k + s.m.d.length) (by omega) (by omega) hx.2.1 hx.2.2) (by simp) (by simp) ?_
    simp [C.laws_heldSeed]
    refine hL _ ?_; clear hL L
    refine opsI_end fun L hL => ?_
    simp [C.laws_heldSeed]
    refine hL _ ?_; clear hL L
    simp [C.laws_heldSeed]
    refine hK _ ?_; clear hK K
    show AWp _ _ _ _ _
    refine wseq ?_
    refine wseq ?_
    refine wreg fun K hK => ?_
    simp [C.laws_heldSeed]
    refine hK _ ?_; clear hK K
    show AWp _ _ _ _ _
    refine wcond _ rfl (fun hc2 => ?_) (fun hc2 => ?_)
    · simp at hc2; omega
    · refine wskip ?_
      show AWp _ _ _ _ _
      refine wseq ?_
      refine wreg fun K hK => ?_
      simp [C.laws_heldSeed]
      refine hK _ ?_; clear hK K
      show AWp _ _ _ _ _
      refine wret ?_
      simp [C.laws_heldSeed]
      omega

theorem laws_heldSession_calls (z : Ses) (n r n2 r2 : Int) (k : Int) (hk0 : 0 ≤ k) (hk : k + cntZ z < 4611686018427387904) (hx : SmZ z) : ACalls Try.prog F.laws_heldSession [.ag [.int n, .int r, .d (.sh 1 z.a.d.length (ints (marks k z.a.d.length))), .d (.sh 1 z.k.length (ints (marks (k + z.a.d.length) z.k.length))), .int n2, .int r2, .d (.sh 1 z.s.m.d.length (ints (marks (k + z.a.d.length + z.k.length) z.s.m.d.length))), .d (.sh 2 z.s.f.length (rows fS (mkL cntF mkF z.s.f (k + z.a.d.length + z.k.length + z.s.m.d.length))))], .int k] [] true (fun outs res => outs = [] ∧ res = [.one (D.int (k + cntZ z))]) := by
  refine ACalls.of_body (C := C.laws_heldSession) (n := Try.f19.ntmps) tabT folT Try.func19 rfl (by kernel_rfl) rfl (Nat.le_of_ble_eq_true rfl) (by decide) (by kernel_rfl) (by kernel_rfl) rfl (by simp) (by simp) ?_
  simp only [Try.f19]
  refine wseq ?_
  refine wreg fun K hK => ?_
  simp [C.laws_heldSession]
  refine hK _ ?_; clear hK K
  show AWp _ _ _ _ _
  refine wseq ?_
  have hcz : cntZ z = z.a.d.length + z.k.length + cntS z.s := rfl
  refine wregI ([0, 1, 2, 3] ++ ([4])) rfl fun K hK => ?_
  refine opsI_seg fun L hL => ?_
  simp [C.laws_heldSession]
  refine wcall1 (laws_heldMatrix_calls n r z.a.d.length k hk0 (by omega)) (by simp) (by simp) ?_
  simp [C.laws_heldSession]
  refine hL _ ?_; clear hL L
  refine opsI_end fun L hL => ?_
  simp [C.laws_heldSession]
  refine hL _ ?_; clear hL L
  simp [C.laws_heldSession]
  refine hK _ ?_; clear hK K
  show AWp _ _ _ _ _
  refine wseq ?_
  refine wseq ?_
  refine wreg fun K hK => ?_
  simp [C.laws_heldSession]
  refine hK _ ?_; clear hK K
  show AWp _ _ _ _ _
  refine wcond _ rfl (fun hc1 => ?_) (fun hc1 => ?_)
  · simp at hc1; omega
  · refine wskip ?_
    show AWp _ _ _ _ _
    refine wseq ?_
    refine wregI ([0, 1, 2, 3] ++ ([4])) rfl fun K hK => ?_
    refine opsI_seg fun L hL => ?_
    simp [C.laws_heldSession]
    refine wcall1 (laws_heldIntS_calls z.k.length (k + z.a.d.length) (by omega) (by omega)) (by simp) (by simp) ?_
    simp [C.laws_heldSession]
    refine hL _ ?_; clear hL L
    refine opsI_end fun L hL => ?_
    simp [C.laws_heldSession]
    refine hL _ ?_; clear hL L
    simp [C.laws_heldSession]
    refine hK _ ?_; clear hK K
    show AWp _ _ _ _ _
    refine wseq ?_
    refine wseq ?_
    refine wreg fun K hK => ?_
    simp [C.laws_heldSession]
    refine hK _ ?_; clear hK K
    show AWp _ _ _ _ _
    refine wcond _ rfl (fun hc2 => ?_) (fun hc2 => ?_)
    · simp at hc2; omega
    · refine wskip ?_
      show AWp _ _ _ _ _
      refine wseq ?_
      refine wregI ([0, 1, 2, 3] ++ ([4])) rfl fun K hK => ?_
      refine opsI_seg fun L hL => ?_
      simp [C.laws_heldSession]
      refine wcall1 (laws_heldSeed_calls z.s n2 r2 (k + z.a.d.length + z.k.length) (by omega) (by omega) hx.2.2) (by simp) (by simp) ?_
      simp [C.laws_heldSession]
      refine hL _ ?_; clear hL L
      refine opsI_end fun L hL => ?_
      simp [C.laws_heldSession]
      refine hL _ ?_; clear hL L
      simp [C.laws_heldSession]
      refine hK _ ?_; clear hK K
      show AWp _ _ _ _ _
      refine wseq ?_
      refine wseq ?_
      refine wreg fun K hK => ?_
      simp [C.laws_heldSession]
      refine hK _ ?_; clear hK K
      show AWp _ _ _ _ _
      refine wcond _ rfl (fun hc3 => ?_) (fun hc3 => ?_)
      · simp at hc3; omega
      · refine wskip ?_
        show AWp _ _ _ _ _
        refine wseq ?_
        refine wreg fun K hK => ?_
        simp [C.laws_heldSession]
        refine hK _ ?_; clear hK K
        show AWp _ _ _ _ _
        refine wret ?_
        simp [C.laws_heldSession]
        omega

end Go.Proofs.Ytdgeponcnlkaiaa.Ab
namespace Go.Proofs.Ytdgeponcnlkaiaa.Ab
open Go
set_option linter.unusedSimpArgs false
set_option linter.unusedVariables false
set_option maxRecDepth 10000
set_option maxHeartbeats 2000000
def unitL (n i : Nat) : List Int := (List.replicate n 0).set i 1
theorem unitL_length (n i : Nat) : (unitL n i).length = n := by simp [unitL]
noncomputable def monoF (e : List Int) : Lau := if Right ⟨e.length, [⟨e, 1⟩]⟩ then ⟨e.length, [⟨e, 1⟩]⟩ else zeroF
noncomputable def varsL (r : Nat) : List Lau := (List.range r).map fun i => monoF (unitL r i)
theorem fO_snoc (l : List Lau) (f : Lau) : rows fO l ++ [D.v (.int .i64 f.v), D.ow 2 f.ts.length (rows tO f.ts)] = rows fO (l ++ [f]) := by
  rw [rows_append]
  rfl
theorem mono_right {e : List Int} : Right ⟨e.length, [⟨e, 1⟩]⟩ ↔ (1 ≤ (e.length : Int) ∧ (e.length : Int) ≤ 8) ∧ okE e e.length = true := by
  rw [okE_iff]
  unfold Right Good DescT
  simp
theorem spec_l1CopyMatrix_calls (m : Mat) (hx : m.d.length < 17592186044416) : ACalls Try.prog F.spec_l1CopyMatrix [aM m] [] true (fun outs res => outs = [] ∧ res = [.ag (mO m)]) := by
  refine ACalls.of_body (C := C.spec_l1CopyMatrix) (n := Try.f166.ntmps) tabT folT Try.func166 rfl (by kernel_rfl) rfl (Nat.le_of_ble_eq_true rfl) (by decide) (by kernel_rfl) (by kernel_rfl) rfl (by simp) (by simp) ?_
  simp only [Try.f166]
  refine wseq ?_
  refine wreg fun K hK => ?_
  simp [C.spec_l1CopyMatrix]
  refine hK _ ?_; clear hK K
  show AWp _ _ _ _ _
  refine wseq ?_
  refine wdrawI [(true, 0), (true, 1), (true, 2), (true, 3), (true, 4), (true, 5), (false, 6), (true, 7), (false, 8)] ⟨by kernel_rfl, by kernel_rfl⟩ ([0, 1, 2, 3, 4, 5, 6] ++ ([7, 8])) rfl fun K hK => ?_
  refine opsI_seg fun L hL => ?_
  simp [C.spec_l1CopyMatrix]
  refine wcall1 (spec_l1Ints_calls m.d hx) (by simp) (by simp) ?_
  simp [C.spec_l1CopyMatrix]
  refine hL _ ?_; clear hL L
  refine opsI_end fun L hL => ?_
  simp [C.spec_l1CopyMatrix]
  refine hL _ ?_; clear hL L
  simp [C.spec_l1CopyMatrix]
  refine hK _ ?_; clear hK K
  show AWp _ _ _ _ _
  refine wret ?_
  simp [C.spec_l1CopyMatrix, mO]

theorem spec_l3Unit_calls (n i : Nat) (hn : n ≤ 8) (hi : i < n) : ACalls Try.prog F.spec_l3Unit [.int n, .int i] [] true (fun outs res => outs = [] ∧ res = [.one (owI (unitL n i))]) := by
  refine ACalls.of_body (C := C.spec_l3Unit) (n := Try.f167.ntmps) tabT folT Try.func167 rfl (by kernel_rfl) rfl (Nat.le_of_ble_eq_true rfl) (by decide) (by kernel_rfl) (by kernel_rfl) rfl (by simp) (by simp) ?_
  simp only [Try.f167]
  refine wseq ?_
  refine wreg fun K hK => ?_
  simp [C.spec_l3Unit]
  refine hK _ ?_; clear hK K
  show AWp _ _ _ _ _
  refine wseq ?_
  refine wreg fun K hK => ?_
  simp [C.spec_l3Unit, zeros_ints, show (8 : Int) * n ≤ 281474976710656 by omega, show (n : Int) ≤ 281474976710656 by omega]
  refine hK _ ?_; clear hK K
  show AWp _ _ _ _ _
  refine wseq ?_
  refine wreg fun K hK => ?_
  simp [C.spec_l3Unit, hi]
  refine hK _ ?_; clear hK K
  show AWp _ _ _ _ _
  refine wseq ?_
  refine wreg fun K hK => ?_
  simp [C.spec_l3Unit]
  refine hK _ ?_; clear hK K
  show AWp _ _ _ _ _
  refine wret ?_
  simp [C.spec_l3Unit, unitL]

theorem impl_unit_calls (n i : Nat) (hn : n ≤ 8) (hi : i < n) : ACalls Try.prog F.impl_unit [.int n, .int i] [] true (fun outs res => outs = [] ∧ res = [.one (owI (unitL n i))]) := by
  refine ACalls.of_body (C := C.impl_unit) (n := Try.f97.ntmps) tabT folT Try.func97 rfl (by kernel_rfl) rfl (Nat.le_of_ble_eq_true rfl) (by decide) (by kernel_rfl) (by kernel_rfl) rfl (by simp) (by simp) ?_
  simp only [Try.f97]
  refine wseq ?_
  refine wreg fun K hK => ?_
  simp [C.impl_unit]
  refine hK _ ?_; clear hK K
  show AWp _ _ _ _ _
  refine wseq ?_
  refine wreg fun K hK => ?_
  simp [C.impl_unit, zeros_ints, show (8 : Int) * n ≤ 281474976710656 by omega, show (n : Int) ≤ 281474976710656 by omega]
  refine hK _ ?_; clear hK K
  show AWp _ _ _ _ _
  refine wseq ?_
  refine wreg fun K hK => ?_
  simp [C.impl_unit, hi]
  refine hK _ ?_; clear hK K
  show AWp _ _ _ _ _
  refine wseq ?_
  refine wreg fun K hK => ?_
  simp [C.impl_unit]
  refine hK _ ?_; clear hK K
  show AWp _ _ _ _ _
  refine wret ?_
  simp [C.impl_unit, unitL]

theorem spec_MonomialLaurent_calls (e : List Int) (hx : e.length < 17592186044416) : ACalls Try.prog F.spec_MonomialLaurent [.d (shI e)] [] true (fun outs res => outs = [] ∧ WkRs res [.ag (fO (monoF e))]) := by
  refine ACalls.of_body (C := C.spec_MonomialLaurent) (n := Try.f151.ntmps) tabT folT Try.func151 rfl (by kernel_rfl) rfl (Nat.le_of_ble_eq_true rfl) (by decide) (by kernel_rfl) (by kernel_rfl) rfl (by simp) (by simp) ?_
  simp only [Try.f151]
  refine wseq ?_
  refine wreg fun K hK => ?_
  simp [C.spec_MonomialLaurent]
  refine hK _ ?_; clear hK K
  show AWp _ _ _ _ _
  refine wseq ?_
  refine wregI ([0, 1, 2, 3] ++ ([4, 5, 6, 7, 8])) rfl fun K hK => ?_
  refine opsI_seg fun L hL => ?_
  simp [C.spec_MonomialLaurent]
  refine wcall1 (spec_l1Ints_calls e hx) (by simp) (by simp) ?_
  simp [C.spec_MonomialLaurent]
  refine hL _ ?_; clear hL L
  refine opsI_end fun L hL => ?_
  simp [C.spec_MonomialLaurent]
  refine hL _ ?_; clear hL L
  simp [C.spec_MonomialLaurent]
  refine hK _ ?_; clear hK K
  show AWp _ _ _ _ _
  refine wseq ?_
  refine wseq ?_
  refine wregI ([0, 1] ++ ([2])) rfl fun K hK => ?_
  refine opsI_seg fun L hL => ?_
  simp [C.spec_MonomialLaurent, rows, tO, tS]
  refine wcall1 (spec_l2Right_calls ⟨e.length, [⟨e, 1⟩]⟩ (by simp) (by simp; omega)) (by simp [rows, tO, tS]) (by simp) ?_
  simp [C.spec_MonomialLaurent, rows, tO, tS]
  refine hL _ ?_; clear hL L
  refine opsI_end fun L hL => ?_
  simp [C.spec_MonomialLaurent, rows, tO, tS]
  refine hL _ ?_; clear hL L
  simp [C.spec_MonomialLaurent, rows, tO, tS]
  refine hK _ ?_; clear hK K
  show AWp _ _ _ _ _
  refine wcond _ rfl (fun hc1 => ?_) (fun hc1 => ?_)
  · have hr := nd_t hc1
    refine wseq ?_
    refine wreg fun K hK => ?_
    simp [C.spec_MonomialLaurent]
    refine hK _ ?_; clear hK K
    show AWp _ _ _ _ _
    refine wret ?_
    simp [C.spec_MonomialLaurent, monoF, hr, fO, zeroF, rows]
  · have hr := nd_f hc1
    refine wskip ?_
    show AWp _ _ _ _ _
    refine wseq ?_
    refine wreg fun K hK => ?_
    simp [C.spec_MonomialLaurent]
    refine hK _ ?_; clear hK K
    show AWp _ _ _ _ _
    refine wret ?_
    simp [C.spec_MonomialLaurent, monoF, hr, fO, rows, tO]
theorem sMono_calls (e : List Int) (hx : e.length < 17592186044416) : ACalls Try.prog F.spec_MonomialLaurent [.d (shI e)] [] true (fun outs res => outs = [] ∧ res = [.ag (fO (monoF e))]) := (spec_MonomialLaurent_calls e hx).weak1

theorem impl_MonomialLaurent_calls (e : List Int) (hx : e.length < 17592186044416) : ACalls Try.prog F.impl_MonomialLaurent [.d (shI e)] [] true (fun outs res => outs = [] ∧ WkRs res [.ag (fO (monoF e))]) := by
  refine ACalls.of_body (C := C.impl_MonomialLaurent) (n := Try.f153.ntmps) tabT folT Try.func153 rfl (by kernel_rfl) rfl (Nat.le_of_ble_eq_true rfl) (by decide) (by kernel_rfl) (by kernel_rfl) rfl (by simp) (by simp) ?_
  simp only [Try.f153]
  refine wseq ?_
  refine wreg fun K hK => ?_
  simp [C.impl_MonomialLaurent]
  refine hK _ ?_; clear hK K
  show AWp _ _ _ _ _
  refine wseq ?_
  refine wseq ?_
  refine wregI ([0, 1, 2] ++ ([3, 4, 5, 6, 7, 8] ++ ([9, 10]))) rfl fun K hK => ?_
  have hJ : K ⟨ofL [(0, .d (shI e)), (2, .pt (2, 0) [] 0), (13, .bool (!decide ((1 ≤ (e.length : Int) ∧ (e.length : Int) ≤ 8) ∧ okE e e.length = true)))], ofRO [((2, 0), some (.bx [D.int 0, .v (.slice none 0 0)]))]⟩ := by
    refine hK _ ?_; clear hK K
    show AWp _ _ _ _ _
    refine wcond _ rfl (fun hc1 => ?_) (fun hc1 => ?_)
    · have hr : ¬ Right ⟨e.length, [⟨e, 1⟩]⟩ := fun h => nd_t hc1 (mono_right.1 h)
      refine wseq ?_
      refine wreg fun K hK => ?_
      simp [C.impl_MonomialLaurent]
      refine hK _ ?_; clear hK K
      show AWp _ _ _ _ _
      refine wret ?_
      simp [C.impl_MonomialLaurent, monoF, hr, fO, zeroF, rows]
    · have hr : Right ⟨e.length, [⟨e, 1⟩]⟩ := mono_right.2 (nd_f hc1)
      refine wskip ?_
      show AWp _ _ _ _ _
      refine wseq ?_
      refine wregI ([0, 1, 2, 3] ++ ([4, 5, 6, 7])) rfl fun K hK => ?_
      refine opsI_seg fun L hL => ?_
      simp [C.impl_MonomialLaurent]
      refine wcall1 (clone_calls e hx) (by simp) (by simp) ?_
      simp [C.impl_MonomialLaurent]
      refine hL _ ?_; clear hL L
      refine opsI_end fun L hL => ?_
      simp [C.impl_MonomialLaurent]
      refine hL _ ?_; clear hL L
      simp [C.impl_MonomialLaurent]
      refine hK _ ?_; clear hK K
      show AWp _ _ _ _ _
      refine wret ?_
      simp [C.impl_MonomialLaurent, monoF, hr, fO, rows, tO]
  clear hK
  by_cases ha : 1 ≤ (e.length : Int) ∧ (e.length : Int) ≤ 8
  · refine opsI_seg fun L hL => ?_
    simp [C.impl_MonomialLaurent, ha]
    refine wcall1 (impl_within_calls e.length 1 8) (by simp) (by simp) ?_
    simp [C.impl_MonomialLaurent, ha]
    refine hL _ ?_; clear hL L
    refine opsI_seg fun L hL => ?_
    simp [C.impl_MonomialLaurent, ha]
    refine wcall1 (impl_expOk_calls e e.length (by omega)) (by simp) (by simp) ?_
    simp [C.impl_MonomialLaurent, ha]
    refine hL _ ?_; clear hL L
    refine opsI_end fun L hL => ?_
    simp [C.impl_MonomialLaurent, ha]
    refine hL _ ?_; clear hL L
    simp [C.impl_MonomialLaurent, ha]
    refine cast (congrArg K ?_) hJ
    simp [Bool.not_and, ha]
  · refine opsI_seg fun L hL => ?_
    simp [C.impl_MonomialLaurent, ha]
    refine wcall1 (impl_within_calls e.length 1 8) (by simp) (by simp) ?_
    simp [C.impl_MonomialLaurent, ha]
    refine hL _ ?_; clear hL L
    refine opsI_seg fun L hL => ?_
    simp [C.impl_MonomialLaurent, ha]
    refine hL _ ?_; clear hL L
    refine opsI_end fun L hL => ?_
    simp [C.impl_MonomialLaurent, ha]
    refine hL _ ?_; clear hL L
    simp [C.impl_MonomialLaurent, ha]
    refine cast (congrArg K ?_) hJ
    simp [Bool.not_and, ha]
theorem iMono_calls (e : List Int) (hx : e.length < 17592186044416) : ACalls Try.prog F.impl_MonomialLaurent [.d (shI e)] [] true (fun outs res => outs = [] ∧ res = [.ag (fO (monoF e))]) := (impl_MonomialLaurent_calls e hx).weak1

theorem spec_l3Initial_calls (n : Int) (r : Nat) (d : List Int) (hr : r ≤ 8) (hx : d.length < 17592186044416) : ACalls Try.prog F.spec_l3Initial [.ag [.int n, .int r, .d (shI d)]] [] true (fun outs res => outs = [] ∧ res = [.ag (sO ⟨⟨n, r, d⟩, varsL r⟩)]) := by
  refine ACalls.of_body (C := C.spec_l3Initial) (n := Try.f76.ntmps) tabT folT Try.func76 rfl (by kernel_rfl) rfl (Nat.le_of_ble_eq_true rfl) (by decide) (by kernel_rfl) (by kernel_rfl) rfl (by simp) (by simp) ?_
  simp only [Try.f76]
  refine wseq ?_
  refine wreg fun K hK => ?_
  simp [C.spec_l3Initial]
  refine hK _ ?_; clear hK K
  show AWp _ _ _ _ _
  refine wseq ?_
  refine wregI ([0, 1] ++ ([2, 3, 4])) rfl fun K hK => ?_
  refine opsI_seg fun L hL => ?_
  simp [C.spec_l3Initial, mO]
  refine wcall1 (spec_l1CopyMatrix_calls ⟨n, r, d⟩ hx) (by simp) (by simp) ?_
  simp [C.spec_l3Initial, mO]
  refine hL _ ?_; clear hL L
  refine opsI_end fun L hL => ?_
  simp [C.spec_l3Initial, mO]
  refine hL _ ?_; clear hL L
  simp [C.spec_l3Initial, mO]
  refine hK _ ?_; clear hK K
  show AWp _ _ _ _ _
  refine wseq ?_
  refine wseq ?_
  refine wreg fun K hK => ?_
  simp [C.spec_l3Initial]
  refine hK _ ?_; clear hK K
  show AWp _ _ _ _ _
  refine wblock ?_
  refine wloopW (fun x : Nat × List Lau => ⟨ofL [(1, .pt (1, 0) [] 0), (2, .pt (2, 0) [] 0), (3, .pt (3, 0) [] 0), (4, .int x.1)], ofRO [((1, 0), some (.bx [D.int n, D.int r, shI d])), ((2, 0), some (.bx [D.int 0, D.int 0, .v (.slice none 0 0), .v (.slice none 0 0)])), ((3, 0), some (.bx [D.int n, D.int r, owI d, .ow 2 x.1 (rows fO x.2)]))]⟩) (fun x => x.1 ≤ r ∧ x.2 = (List.range x.1).map fun i => monoF (unitL r i)) (fun x => r - x.1) (0, []) [.cell (3, 0) [] 3 2] (by simp [C.spec_l3Initial, rows]; (first | (constructor <;> funext t) | funext t) <;> simp only [ofL, ofRO] <;> (repeat' (first | rfl | split)) <;> simp_all) (by simp) ?_
  intro x1 hx1 R1 hR1
  obtain ⟨j, gs⟩ := x1
  obtain ⟨hj, hg⟩ := hx1
  dsimp only at hj hg ⊢
  refine wseq ?_
  refine wseq ?_
  refine wreg fun K hK => ?_
  simp [C.spec_l3Initial]
  refine hK _ ?_; clear hK K
  show AWp _ _ _ _ _
  refine wcond _ rfl (fun hc1 => ?_) (fun hc1 => ?_)
  · have h1 : j < r := by have := d_t hc1; omega
    have hgl : gs.length = j := by rw [hg]; simp
    refine wskip ?_
    show AWp _ _ _ _ _
    refine wseq ?_
    refine wblock ?_
    refine wdrawI [(true, 0), (true, 1), (true, 2), (true, 3), (true, 4), (false, 5), (false, 6), (false, 7), (false, 8), (true, 9), (false, 10)] ⟨by kernel_rfl, by kernel_rfl⟩ ([0, 1, 2, 3, 4, 5] ++ ([6] ++ ([7, 8, 9, 10]))) rfl fun K hK => ?_
    refine opsI_seg fun L hL => ?_
    simp [C.spec_l3Initial, fO, fO_snoc, show (j + 1) * 32 ≤ 140737488355328 by omega]
    refine wcall1 (spec_l3Unit_calls r j hr h1) (by simp) (by simp) ?_
    simp [C.spec_l3Initial, fO, fO_snoc, show (j + 1) * 32 ≤ 140737488355328 by omega]
    refine hL _ ?_; clear hL L
    refine opsI_seg fun L hL => ?_
    simp [C.spec_l3Initial, fO, fO_snoc, show (j + 1) * 32 ≤ 140737488355328 by omega]
    refine wcall1 (sMono_calls (unitL r j) (by rw [unitL_length]; omega)) (by simp) (by simp) ?_
    simp [C.spec_l3Initial, fO, fO_snoc, show (j + 1) * 32 ≤ 140737488355328 by omega]
    refine hL _ ?_; clear hL L
    refine opsI_end fun L hL => ?_
    simp [C.spec_l3Initial, fO, fO_snoc, show (j + 1) * 32 ≤ 140737488355328 by omega]
    refine hL _ ?_; clear hL L
    simp [C.spec_l3Initial, fO, fO_snoc, show (j + 1) * 32 ≤ 140737488355328 by omega]
    refine hK _ ?_; clear hK K
    show AWp _ _ _ _ _
    refine wreg fun K hK => ?_
    simp [C.spec_l3Initial, wrap_succ (show j < 4611686018427387904 by omega)]
    refine hK _ ?_; clear hK K
    simp [C.spec_l3Initial]
    refine hR1 (j + 1, _) ⟨h1, ?_⟩ (by dsimp only; omega)
    dsimp only
    rw [hg, List.range_succ, List.map_append]
    rfl
  · have h1 : j = r := by have := d_f hc1; omega
    subst h1
    refine wexit ?_
    show AWp _ _ _ _ _
    refine wseq ?_
    refine wreg fun K hK => ?_
    simp [C.spec_l3Initial]
    refine hK _ ?_; clear hK K
    show AWp _ _ _ _ _
    refine wret ?_
    simp [C.spec_l3Initial, hg, sO, varsL]

abbrev m0 : Mat := ⟨2, 2, [0, 1, -1, 0]⟩
noncomputable abbrev z0 : Ses := ⟨m0, [], ⟨m0, varsL 2⟩⟩
theorem ints0 : [D.v (.int .i64 0), D.v (.int .i64 1), D.v (.int .i64 (-1)), D.v (.int .i64 0)] = ints [0, 1, -1, 0] := rfl
theorem spec_NewSession_calls : ACalls Try.prog F.spec_NewSession [] [] true (fun outs res => outs = [] ∧ res = [.ag (zO z0)]) := by
  refine ACalls.of_body (C := C.spec_NewSession) (n := Try.f15.ntmps) tabT folT Try.func15 rfl (by kernel_rfl) rfl (Nat.le_of_ble_eq_true rfl) (by decide) (by kernel_rfl) (by kernel_rfl) rfl (by simp) (by simp) ?_
  simp only [Try.f15]
  refine wseq ?_
  refine wreg fun K hK => ?_
  simp [C.spec_NewSession]
  refine hK _ ?_; clear hK K
  show AWp _ _ _ _ _
  refine wseq ?_
  refine wreg fun K hK => ?_
  simp [C.spec_NewSession, ints0]
  refine hK _ ?_; clear hK K
  show AWp _ _ _ _ _
  refine wseq ?_
  refine wdraw (.take 0 (.take 2 (.all [(1, .all [(3, .take 4 (.all [(5, .done)]))]), (3, .all [(1, .take 4 (.all [(5, .done)]))])]))) ⟨by kernel_rfl, by kernel_rfl⟩ fun K hK => ?_
  have hJ : K ⟨ofL [(0, .pt (0, 0) [] 0)], ofRO [((0, 0), some (.bx (zO z0)))]⟩ := by
    refine hK _ ?_; clear hK K
    show AWp _ _ _ _ _
    refine wret ?_
    simp [C.spec_NewSession, zO]
  clear hK
  simp [C.spec_NewSession]
  refine ⟨?_, ?_⟩
  · refine wcall1 (spec_l3Initial_calls 2 2 [0, 1, -1, 0] (by omega) (by simp)) (by simp) (by simp) ?_
    simp [C.spec_NewSession, sO]
    refine cast (congrArg K ?_) hJ
    rfl
  · refine wcall1 (spec_l3Initial_calls 2 2 [0, 1, -1, 0] (by omega) (by simp)) (by simp) (by simp) ?_
    simp [C.spec_NewSession, sO]
    refine cast (congrArg K ?_) hJ
    rfl

theorem impl_InitialSeed_calls (n : Int) (r : Nat) (d : List Int) (hr : r ≤ 8) (hx : d.length < 17592186044416) (hok : ACalls Try.prog F.impl_MatrixOk [.ag [.int n, .int r, .d (shI d)]] [] true (fun outs res => outs = [] ∧ res = [.one (D.bool true)])) : ACalls Try.prog F.impl_InitialSeed [.ag [.int n, .int r, .d (shI d)]] [] true (fun outs res => outs = [] ∧ res = [.ag (sO ⟨⟨n, r, d⟩, varsL r⟩), .one (D.bool true)]) := by
  refine ACalls.of_body (C := C.impl_InitialSeed) (n := Try.f168.ntmps) tabT folT Try.func168 rfl (by kernel_rfl) rfl (Nat.le_of_ble_eq_true rfl) (by decide) (by kernel_rfl) (by kernel_rfl) rfl (by simp) (by simp) ?_
  simp only [Try.f168]
  refine wseq ?_
  refine wreg fun K hK => ?_
  simp [C.impl_InitialSeed]
  refine hK _ ?_; clear hK K
  show AWp _ _ _ _ _
  refine wseq ?_
  refine wseq ?_
  refine wregI ([0, 1] ++ ([2])) rfl fun K hK => ?_
  refine opsI_seg fun L hL => ?_
  simp [C.impl_InitialSeed]
  refine wcall1 (hok) (by simp) (by simp) ?_
  simp [C.impl_InitialSeed]
  refine hL _ ?_; clear hL L
  refine opsI_end fun L hL => ?_
  simp [C.impl_InitialSeed]
  refine hL _ ?_; clear hL L
  simp [C.impl_InitialSeed]
  refine hK _ ?_; clear hK K
  show AWp _ _ _ _ _
  refine wcond _ rfl (fun hc1 => ?_) (fun hc1 => ?_)
  · simp at hc1
  · refine wskip ?_
    show AWp _ _ _ _ _
    refine wseq ?_
    refine wdraw (.take 0 (.take 1 (.take 2 (.take 3 (.take 4 (.take 5 (.all [(6, .take 7 (.take 8 (.all [(9, .all [(10, .done)])]))), (9, .all [(6, .take 7 (.take 8 (.all [(10, .done)])))])]))))))) ⟨by kernel_rfl, by kernel_rfl⟩ fun K hK => ?_
    have hJ : K ⟨ofL [(1, .pt (1, 0) [] 0), (2, .pt (2, 0) [] 0), (4, .pt (4, 0) [] 0)], ofRO [((1, 0), some (.bx [D.int n, D.int r, shI d])), ((2, 0), some (.bx [D.int 0, D.int 0, .v (.slice none 0 0), .v (.slice none 0 0)])), ((4, 0), some (.bx [D.int n, D.int r, owI d, .v (.slice none 0 0)]))]⟩ := by
      refine hK _ ?_; clear hK K
      show AWp _ _ _ _ _
      refine wseq ?_
      refine wseq ?_
      refine wreg fun K hK => ?_
      simp [C.impl_InitialSeed]
      refine hK _ ?_; clear hK K
      show AWp _ _ _ _ _
      refine wblock ?_
      refine wloopW (fun x : Nat × List Lau => ⟨ofL [(1, .pt (1, 0) [] 0), (2, .pt (2, 0) [] 0), (4, .pt (4, 0) [] 0), (5, .int x.1)], ofRO [((1, 0), some (.bx [D.int n, D.int r, shI d])), ((2, 0), some (.bx [D.int 0, D.int 0, .v (.slice none 0 0), .v (.slice none 0 0)])), ((4, 0), some (.bx [D.int n, D.int r, owI d, .ow 2 x.1 (rows fO x.2)]))]⟩) (fun x => x.1 ≤ r ∧ x.2 = (List.range x.1).map fun i => monoF (unitL r i)) (fun x => r - x.1) (0, []) [.cell (4, 0) [] 3 2] (by simp [C.impl_InitialSeed, rows]; (first | (constructor <;> funext t) | funext t) <;> simp only [ofL, ofRO] <;> (repeat' (first | rfl | split)) <;> simp_all) (by simp) ?_
      intro x1 hx1 R1 hR1
      obtain ⟨j, gs⟩ := x1
      obtain ⟨hj, hg⟩ := hx1
      dsimp only at hj hg ⊢
      refine wseq ?_
      refine wseq ?_
      refine wreg fun K hK => ?_
      simp [C.impl_InitialSeed]
      refine hK _ ?_; clear hK K
      show AWp _ _ _ _ _
      refine wcond _ rfl (fun hc2 => ?_) (fun hc2 => ?_)
      · have h1 : j < r := by have := d_t hc2; omega
        have hgl : gs.length = j := by rw [hg]; simp
        refine wskip ?_
        show AWp _ _ _ _ _
        refine wseq ?_
        refine wblock ?_
        refine wdrawI [(true, 0), (true, 1), (true, 2), (true, 3), (true, 4), (false, 5), (false, 6), (false, 7), (false, 8), (true, 9), (false, 10)] ⟨by kernel_rfl, by kernel_rfl⟩ ([0, 1, 2, 3, 4, 5] ++ ([6] ++ ([7, 8, 9, 10]))) rfl fun K hK => ?_
        refine opsI_seg fun L hL => ?_
        simp [C.impl_InitialSeed, fO, fO_snoc, show (j + 1) * 32 ≤ 140737488355328 by omega]
        refine wcall1 (impl_unit_calls r j hr h1) (by simp) (by simp) ?_
        simp [C.impl_InitialSeed, fO, fO_snoc, show (j + 1) * 32 ≤ 140737488355328 by omega]
        refine hL _ ?_; clear hL L
        refine opsI_seg fun L hL => ?_
        simp [C.impl_InitialSeed, fO, fO_snoc, show (j + 1) * 32 ≤ 140737488355328 by omega]
        refine wcall1 (iMono_calls (unitL r j) (by rw [unitL_length]; omega)) (by simp) (by simp) ?_
        simp [C.impl_InitialSeed, fO, fO_snoc, show (j + 1) * 32 ≤ 140737488355328 by omega]
        refine hL _ ?_; clear hL L
        refine opsI_end fun L hL => ?_
        simp [C.impl_InitialSeed, fO, fO_snoc, show (j + 1) * 32 ≤ 140737488355328 by omega]
        refine hL _ ?_; clear hL L
        simp [C.impl_InitialSeed, fO, fO_snoc, show (j + 1) * 32 ≤ 140737488355328 by omega]
        refine hK _ ?_; clear hK K
        show AWp _ _ _ _ _
        refine wreg fun K hK => ?_
        simp [C.impl_InitialSeed, wrap_succ (show j < 4611686018427387904 by omega)]
        refine hK _ ?_; clear hK K
        simp [C.impl_InitialSeed]
        refine hR1 (j + 1, _) ⟨h1, ?_⟩ (by dsimp only; omega)
        dsimp only
        rw [hg, List.range_succ, List.map_append]
        rfl
      · have h1 : j = r := by have := d_f hc2; omega
        subst h1
        refine wexit ?_
        show AWp _ _ _ _ _
        refine wseq ?_
        refine wreg fun K hK => ?_
        simp [C.impl_InitialSeed]
        refine hK _ ?_; clear hK K
        show AWp _ _ _ _ _
        refine wret ?_
        simp [C.impl_InitialSeed, hg, sO, varsL]
    clear hK
    simp [C.impl_InitialSeed]
    refine ⟨?_, ?_⟩
    · refine wcall1 (clone_calls d hx) (by simp) (by simp) ?_
      simp [C.impl_InitialSeed]
      exact hJ
    · refine wcall1 (clone_calls d hx) (by simp) (by simp) ?_
      simp [C.impl_InitialSeed]
      exact hJ

theorem impl_copyLaurent_calls (f : Lau) (hl : f.ts.length ≤ 1000000) (he : ∀ t ∈ f.ts, t.e.length < 17592186044416) : ACalls Try.prog F.impl_copyLaurent [aF f] [] true (fun outs res => outs = [] ∧ res = [.ag (fO f)]) := by
  refine ACalls.of_body (C := C.impl_copyLaurent) (n := Try.f218.ntmps) tabT folT Try.func218 rfl (by kernel_rfl) rfl (Nat.le_of_ble_eq_true rfl) (by decide) (by kernel_rfl) (by kernel_rfl) rfl (by simp) (by simp) ?_
  simp only [Try.f218]
  refine wseq ?_
  refine wreg fun K hK => ?_
  simp [C.impl_copyLaurent]
  refine hK _ ?_; clear hK K
  show AWp _ _ _ _ _
  refine wseq ?_
  refine wreg fun K hK => ?_
  simp [C.impl_copyLaurent]
  refine hK _ ?_; clear hK K
  show AWp _ _ _ _ _
  refine wseq ?_
  refine wseq ?_
  refine wreg fun K hK => ?_
  simp [C.impl_copyLaurent]
  refine hK _ ?_; clear hK K
  show AWp _ _ _ _ _
  refine wblock ?_
  refine wloopW (fun x : Nat × List Trm => ⟨ofL [(2, .pt (2, 0) [] 0), (3, .pt (3, 0) [] 0), (10, .d (.sh 2 f.ts.length (rows tS f.ts))), (11, .int f.ts.length), (12, .int x.1)], ofRO [((2, 0), some (.bx [D.int 0, .v (.slice none 0 0)])), ((3, 0), some (.bx [D.int f.v, .ow 2 x.1 (rows tO x.2)]))]⟩) (fun x => x.1 ≤ f.ts.length ∧ x.2 = f.ts.take x.1) (fun x => f.ts.length - x.1) (0, []) [.cell (3, 0) [] 1 2] (by simp [C.impl_copyLaurent, rows]; (first | (constructor <;> funext t) | funext t) <;> simp only [ofL, ofRO] <;> (repeat' (first | rfl | split)) <;> simp_all) (by simp) ?_
  intro x1 hx1 R1 hR1
  obtain ⟨j, gs⟩ := x1
  obtain ⟨hj, hg⟩ := hx1
  dsimp only at hj hg ⊢
  refine wseq ?_
  refine wreg fun K hK => ?_
  simp [C.impl_copyLaurent]
  refine hK _ ?_; clear hK K
  show AWp _ _ _ _ _
  refine wseq ?_
  refine wcond _ rfl (fun hc1 => ?_) (fun hc1 => ?_)
  · have h1 : j < f.ts.length := by have := d_t hc1; omega
    have hgl : gs.length = j := by rw [hg]; simp; omega
    refine wskip ?_
    show AWp _ _ _ _ _
    refine wseq ?_
    refine wblock ?_
    refine wseq ?_
    refine wreg fun K hK => ?_
    simp [C.impl_copyLaurent, h1, tS_0 h1, tS_1 h1]
    refine hK _ ?_; clear hK K
    show AWp _ _ _ _ _
    refine wdrawI [(true, 0), (true, 1), (true, 2), (true, 3), (true, 5), (true, 6), (false, 4), (true, 7), (false, 8), (false, 9), (true, 10), (false, 11)] ⟨by kernel_rfl, by kernel_rfl⟩ ([0, 1, 2, 3, 5, 6, 4] ++ ([7, 8, 9, 10, 11])) rfl fun K hK => ?_
    refine opsI_seg fun L hL => ?_
    simp [C.impl_copyLaurent, h1, tO_snoc, show (j + 1) * 32 ≤ 140737488355328 by omega]
    refine wcall1 (clone_calls f.ts[j].e (he _ (List.getElem_mem h1))) (by simp) (by simp) ?_
    simp [C.impl_copyLaurent, h1, tO_snoc, show (j + 1) * 32 ≤ 140737488355328 by omega]
    refine hL _ ?_; clear hL L
    refine opsI_end fun L hL => ?_
    simp [C.impl_copyLaurent, h1, tO_snoc, show (j + 1) * 32 ≤ 140737488355328 by omega]
    refine hL _ ?_; clear hL L
    simp [C.impl_copyLaurent, h1, tO_snoc, show (j + 1) * 32 ≤ 140737488355328 by omega]
    refine hK _ ?_; clear hK K
    show AWp _ _ _ _ _
    refine wreg fun K hK => ?_
    simp [C.impl_copyLaurent, wrap_succ (show j < 4611686018427387904 by omega)]
    refine hK _ ?_; clear hK K
    simp [C.impl_copyLaurent]
    refine hR1 (j + 1, _) ⟨h1, ?_⟩ (by dsimp only; omega)
    dsimp only
    rw [hg, List.take_succ_eq_append_getElem h1]
  · have h1 : j = f.ts.length := by have := d_f hc1; omega
    refine wexit ?_
    show AWp _ _ _ _ _
    refine wseq ?_
    refine wreg fun K hK => ?_
    simp [C.impl_copyLaurent]
    refine hK _ ?_; clear hK K
    show AWp _ _ _ _ _
    refine wret ?_
    simp [C.impl_copyLaurent, hg, h1, fO]

theorem impl_copySeed_calls (s : Sed) (hx : s.m.d.length < 17592186044416) (hl : s.f.length ≤ 1000000) (hf : ∀ f ∈ s.f, f.ts.length ≤ 1000000 ∧ ∀ t ∈ f.ts, t.e.length < 17592186044416) : ACalls Try.prog F.impl_copySeed [aS s] [] true (fun outs res => outs = [] ∧ res = [.ag (sO s)]) := by
  refine ACalls.of_body (C := C.impl_copySeed) (n := Try.f169.ntmps) tabT folT Try.func169 rfl (by kernel_rfl) rfl (Nat.le_of_ble_eq_true rfl) (by decide) (by kernel_rfl) (by kernel_rfl) rfl (by simp) (by simp) ?_
  simp only [Try.f169]
  refine wseq ?_
  refine wreg fun K hK => ?_
  simp [C.impl_copySeed, sS]
  refine hK _ ?_; clear hK K
  show AWp _ _ _ _ _
  refine wseq ?_
  refine wdraw (.take 0 (.take 1 (.take 2 (.take 3 (.take 4 (.take 5 (.take 6 (.take 7 (.take 8 (.all [(9, .take 10 (.take 11 (.all [(12, .all [(13, .done)])]))), (12, .all [(9, .take 10 (.take 11 (.all [(13, .done)])))])])))))))))) ⟨by kernel_rfl, by kernel_rfl⟩ fun K hK => ?_
  have hJ : K ⟨ofL [(1, .pt (1, 0) [] 0), (2, .pt (2, 0) [] 0), (3, .pt (3, 0) [] 0)], ofRO [((1, 0), some (.bx (sS s))), ((2, 0), some (.bx [D.int 0, D.int 0, .v (.slice none 0 0), .v (.slice none 0 0)])), ((3, 0), some (.bx [D.int s.m.n, D.int s.m.r, owI s.m.d, .v (.slice none 0 0)]))]⟩ := by
    refine hK _ ?_; clear hK K
    show AWp _ _ _ _ _
    refine wseq ?_
    refine wseq ?_
    refine wreg fun K hK => ?_
    simp [C.impl_copySeed, sS]
    refine hK _ ?_; clear hK K
    show AWp _ _ _ _ _
    refine wblock ?_
    refine wloopW (fun x : Nat × List Lau => ⟨ofL [(2, .pt (2, 0) [] 0), (3, .pt (3, 0) [] 0), (19, .d (.sh 2 s.f.length (rows fS s.f))), (20, .int s.f.length), (21, .int x.1)], ofRO [((2, 0), some (.bx [D.int 0, D.int 0, .v (.slice none 0 0), .v (.slice none 0 0)])), ((3, 0), some (.bx [D.int s.m.n, D.int s.m.r, owI s.m.d, .ow 2 x.1 (rows fO x.2)]))]⟩) (fun x => x.1 ≤ s.f.length ∧ x.2 = s.f.take x.1) (fun x => s.f.length - x.1) (0, []) [.cell (3, 0) [] 3 2] (by simp [C.impl_copySeed, rows]; (first | (constructor <;> funext t) | funext t) <;> simp only [ofL, ofRO] <;> (repeat' (first | rfl | split)) <;> simp_all) (by simp) ?_
    intro x1 hx1 R1 hR1
    obtain ⟨j, gs⟩ := x1
    obtain ⟨hj, hg⟩ := hx1
    dsimp only at hj hg ⊢
    refine wseq ?_
    refine wreg fun K hK => ?_
    simp [C.impl_copySeed, sS]
    refine hK _ ?_; clear hK K
    show AWp _ _ _ _ _
    refine wseq ?_
    refine wcond _ rfl (fun hc1 => ?_) (fun hc1 => ?_)
    · have h1 : j < s.f.length := by have := d_t hc1; omega
      have hgl : gs.length = j := by rw [hg]; simp; omega
      refine wskip ?_
      show AWp _ _ _ _ _
      refine wseq ?_
      refine wblock ?_
      refine wseq ?_
      refine wreg fun K hK => ?_
      simp [C.impl_copySeed, sS, h1, fS_0 h1, fS_1 h1]
      refine hK _ ?_; clear hK K
      show AWp _ _ _ _ _
      refine wdrawI [(true, 0), (true, 1), (true, 2), (false, 3), (false, 4), (false, 5), (true, 6), (false, 7)] ⟨by kernel_rfl, by kernel_rfl⟩ ([0, 1, 2, 3] ++ ([4, 5, 6, 7])) rfl fun K hK => ?_
      refine opsI_seg fun L hL => ?_
      simp [C.impl_copySeed, sS, h1, fO, fO_snoc, show (j + 1) * 32 ≤ 140737488355328 by omega]
      refine wcall1 (impl_copyLaurent_calls s.f[j] (hf _ (List.getElem_mem h1)).1 (hf _ (List.getElem_mem h1)).2) (by simp) (by simp) ?_
      simp [C.impl_copySeed, sS, h1, fO, fO_snoc, show (j + 1) * 32 ≤ 140737488355328 by omega]
      refine hL _ ?_; clear hL L
      refine opsI_end fun L hL => ?_
      simp [C.impl_copySeed, sS, h1, fO, fO_snoc, show (j + 1) * 32 ≤ 140737488355328 by omega]
      refine hL _ ?_; clear hL L
      simp [C.impl_copySeed, sS, h1, fO, fO_snoc, show (j + 1) * 32 ≤ 140737488355328 by omega]
      refine hK _ ?_; clear hK K
      show AWp _ _ _ _ _
      refine wreg fun K hK => ?_
      simp [C.impl_copySeed, sS, wrap_succ (show j < 4611686018427387904 by omega)]
      refine hK _ ?_; clear hK K
      simp [C.impl_copySeed, sS]
      refine hR1 (j + 1, _) ⟨h1, ?_⟩ (by dsimp only; omega)
      dsimp only
      rw [hg, List.take_succ_eq_append_getElem h1]
    · have h1 : j = s.f.length := by have := d_f hc1; omega
      refine wexit ?_
      show AWp _ _ _ _ _
      refine wseq ?_
      refine wreg fun K hK => ?_
      simp [C.impl_copySeed, sS]
      refine hK _ ?_; clear hK K
      show AWp _ _ _ _ _
      refine wret ?_
      simp [C.impl_copySeed, sS, hg, h1, sO]
  clear hK
  simp [C.impl_copySeed]
  refine ⟨?_, ?_⟩
  · refine wcall1 (clone_calls s.m.d hx) (by simp) (by simp) ?_
    simp [C.impl_copySeed]
    exact hJ
  · refine wcall1 (clone_calls s.m.d hx) (by simp) (by simp) ?_
    simp [C.impl_copySeed]
    exact hJ

end Go.Proofs.Ytdgeponcnlkaiaa.Ab
namespace Go.Proofs.Ytdgeponcnlkaiaa.Ab
open Go
set_option linter.unusedSimpArgs false
set_option linter.unusedVariables false
set_option maxRecDepth 10000
set_option maxHeartbeats 2000000
def minF (x : Int) (ts : List Trm) (i : Nat) : Int := ts.foldl (fun m t => min m (t.e.getD i 0)) x
theorem minF_snoc (x : Int) (ts : List Trm) (t : Trm) (i : Nat) : minF x (ts ++ [t]) i = min (minF x ts i) (t.e.getD i 0) := by simp [minF, List.foldl_append]
theorem minF_le (x : Int) (i : Nat) : ∀ ts : List Trm, minF x ts i ≤ x ∧ (∀ t ∈ ts, minF x ts i ≤ t.e.getD i 0) ∧ (minF x ts i = x ∨ ∃ t ∈ ts, minF x ts i = t.e.getD i 0) := by
  intro ts
  induction ts generalizing x with
  | nil => simp [minF]
  | cons t ts ih =>
    obtain ⟨h1, h2, h3⟩ := ih (min x (t.e.getD i 0))
    have e : minF x (t :: ts) i = minF (min x (t.e.getD i 0)) ts i := rfl
    rw [e]
    refine ⟨by omega, fun u hu => ?_, ?_⟩
    · rcases List.mem_cons.1 hu with rfl | hu
      · omega
      · exact h2 u hu
    · rcases h3 with h3 | ⟨u, hu, h3⟩
      · by_cases hle : x ≤ t.e.getD i 0
        · exact .inl (by rw [h3]; omega)
        · exact .inr ⟨t, by simp, by rw [h3]; omega⟩
      · exact .inr ⟨u, by simp [hu], h3⟩
def lowA (x : Nat → Int) (ts : List Trm) (n : Nat) : List Int := (List.range n).map fun i => minF (x i) ts i
@[simp] theorem lowA_length (x : Nat → Int) (ts : List Trm) (n : Nat) : (lowA x ts n).length = n := by simp [lowA]
theorem lowA_get (x : Nat → Int) (ts : List Trm) (n i : Nat) (h : i < n) : (lowA x ts n)[i]'(by simpa using h) = minF (x i) ts i := by simp [lowA]
theorem getD_eq {l : List Int} {i : Nat} (h : i < l.length) : l.getD i 0 = l[i] := by simp [List.getD, h]
theorem mix_set {α : Type} (xs ys : List α) (i : Nat) (h : i < xs.length) (hl : xs.length = ys.length) : (xs.take i ++ ys.drop i).set i xs[i] = xs.take (i + 1) ++ ys.drop (i + 1) := by
  rw [List.set_append_right _ _ (by simp; omega), List.take_succ_eq_append_getElem h]
  simp only [List.length_take, Nat.min_eq_left (Nat.le_of_lt h), Nat.sub_self]
  rw [List.drop_eq_getElem_cons (by omega), List.set_cons_zero, List.append_assoc]
  rfl
theorem mix_get {α : Type} (xs ys : List α) (i : Nat) (h : i < ys.length) (hl : xs.length = ys.length) : (xs.take i ++ ys.drop i)[i]? = some ys[i] := by
  rw [List.getElem?_append_right (by simp; omega)]
  simp [Nat.min_eq_left (show i ≤ xs.length by omega), h]
def headE (ts : List Trm) (i : Nat) : Int := match ts with | [] => 0 | t :: _ => t.e.getD i 0
theorem lowA_start (ts : List Trm) (n : Nat) (h : 0 < ts.length) (he : ∀ t ∈ ts, t.e.length = n) : lowA (headE ts) [] n = (ts[0]'h).e := by
  match ts, h with
  | t :: ts, _ =>
    have h1 := he t (by simp)
    apply List.ext_getElem
    · simp [h1]
    · intro i h2 h3
      rw [lowA_get _ _ _ _ (by simpa using h2)]
      simp only [minF, List.foldl_nil, headE, List.getElem_cons_zero]
      exact getD_eq h3
def lowL (ts : List Trm) (n : Nat) : List Int := lowA (headE ts) ts n
theorem lowL_20 {ts : List Trm} {n : Nat} (h : 0 < ts.length) (he : ∀ t ∈ ts, t.e.length = n ∧ ∀ x ∈ t.e, -20 ≤ x ∧ x ≤ 20) : lowL ts n = lowA (fun _ => 20) ts n := by
  unfold lowL lowA
  apply List.map_congr_left
  intro i hi
  have hi2 : i < n := by simpa using hi
  match ts, h with
  | t :: ts, _ =>
    have h1 := he t (by simp)
    have h2 := h1.2 _ (List.getElem_mem (show i < t.e.length by omega))
    simp only [minF, List.foldl_cons, headE, getD_eq (show i < t.e.length by omega)]
    rw [show min (20 : Int) t.e[i] = t.e[i] by omega, show min t.e[i] t.e[i] = t.e[i] by omega]
theorem lowA_bd {ts : List Trm} {n : Nat} (he : ∀ t ∈ ts, t.e.length = n ∧ ∀ x ∈ t.e, -20 ≤ x ∧ x ≤ 20) : ∀ x ∈ lowA (fun _ => 20) ts n, -20 ≤ x ∧ x ≤ 20 := by
  intro x hx
  unfold lowA at hx
  obtain ⟨i, hi, rfl⟩ := List.mem_map.1 hx
  have hi2 : i < n := by simpa using hi
  obtain ⟨h1, _, h3⟩ := minF_le 20 i ts
  show -20 ≤ minF 20 ts i ∧ minF 20 ts i ≤ 20
  refine ⟨?_, h1⟩
  rcases h3 with h3 | ⟨t, ht, h3⟩
  · omega
  · have h4 := he t ht
    rw [h3, getD_eq (by omega)]
    exact (h4.2 _ (List.getElem_mem _)).1
theorem spec_l2Least_calls (f : Lau) (n : Nat) (hn : f.v = n) (hn8 : n ≤ 8) (h0 : 0 < f.ts.length) (hl : f.ts.length ≤ 600) (he : ∀ t ∈ f.ts, t.e.length = n) : ACalls Try.prog F.spec_l2Least [aF f] [] true (fun outs res => outs = [] ∧ res = [.one (owI (lowL f.ts n))]) := by
  have h0e := he _ (List.getElem_mem h0)
  refine ACalls.of_body (C := C.spec_l2Least) (n := Try.f195.ntmps) tabT folT Try.func195 rfl (by kernel_rfl) rfl (Nat.le_of_ble_eq_true rfl) (by decide) (by kernel_rfl) (by kernel_rfl) rfl (by simp) (by simp) ?_
  simp only [Try.f195]
  refine wseq ?_
  refine wreg fun K hK => ?_
  simp [C.spec_l2Least, fS, hn]
  refine hK _ ?_; clear hK K
  show AWp _ _ _ _ _
  refine wseq ?_
  refine wregI ([0, 1, 2, 3, 4, 5] ++ ([6])) rfl fun K hK => ?_
  refine opsI_seg fun L hL => ?_
  simp [C.spec_l2Least, fS, hn, h0, tS_0 h0]
  refine wcall1 (spec_l1Ints_calls f.ts[0].e (by omega)) (by simp) (by simp) ?_
  simp [C.spec_l2Least, fS, hn, h0, tS_0 h0]
  refine hL _ ?_; clear hL L
  refine opsI_end fun L hL => ?_
  simp [C.spec_l2Least, fS, hn, h0, tS_0 h0]
  refine hL _ ?_; clear hL L
  simp [C.spec_l2Least, fS, hn, h0, tS_0 h0]
  refine hK _ ?_; clear hK K
  show AWp _ _ _ _ _
  refine wseq ?_
  refine wseq ?_
  refine wreg fun K hK => ?_
  simp [C.spec_l2Least, fS, hn]
  refine hK _ ?_; clear hK K
  show AWp _ _ _ _ _
  refine wblock ?_
  refine wloop (fun x : Nat => ⟨ofL [(1, .pt (1, 0) [] 0), (3, .al (3, 0) [] 0 n), (4, .int x)], ofRO [((1, 0), some (.bx (fS f))), ((3, 0), some (.ow 1 n (ints (lowA (headE f.ts) (f.ts.take x) n))))]⟩) (fun x => x ≤ f.ts.length) (fun x => f.ts.length - x) 0 (by simp [C.spec_l2Least, fS, hn, lowA_start f.ts n h0 he, h0e]) (by simp) ?_
  intro x1 hx1 R1 hR1
  refine wseq ?_
  refine wseq ?_
  refine wreg fun K hK => ?_
  simp [C.spec_l2Least, fS, hn]
  refine hK _ ?_; clear hK K
  show AWp _ _ _ _ _
  refine wcond _ rfl (fun hc1 => ?_) (fun hc1 => ?_)
  · have h1 : x1 < f.ts.length := d_t hc1
    have h1e := he _ (List.getElem_mem h1)
    refine wskip ?_
    show AWp _ _ _ _ _
    refine wseq ?_
    refine wblock ?_
    refine wseq ?_
    refine wreg fun K hK => ?_
    simp [C.spec_l2Least, fS, hn]
    refine hK _ ?_; clear hK K
    show AWp _ _ _ _ _
    refine wblock ?_
    refine wloop (fun x : Nat => ⟨ofL [(1, .pt (1, 0) [] 0), (3, .al (3, 0) [] 0 n), (4, .int x1), (5, .int x)], ofRO [((1, 0), some (.bx (fS f))), ((3, 0), some (.ow 1 n (ints ((lowA (headE f.ts) (f.ts.take (x1 + 1)) n).take x ++ (lowA (headE f.ts) (f.ts.take x1) n).drop x))))]⟩) (fun x => x ≤ n) (fun x => n - x) 0 (by simp [C.spec_l2Least, fS, hn]) (by simp) ?_
    intro x2 hx2 R2 hR2
    refine wseq ?_
    refine wseq ?_
    refine wreg fun K hK => ?_
    simp [C.spec_l2Least, fS, hn]
    refine hK _ ?_; clear hK K
    show AWp _ _ _ _ _
    refine wcond _ rfl (fun hc2 => ?_) (fun hc2 => ?_)
    · have h2 : x2 < n := by have := d_t hc2; omega
      have hg1 := mix_get (lowA (headE f.ts) (f.ts.take (x1 + 1)) n) (lowA (headE f.ts) (f.ts.take x1) n) x2 (by simpa using h2) (by simp)
      have hg2 : minF (headE f.ts x2) (f.ts.take (x1 + 1)) x2 = min (minF (headE f.ts x2) (f.ts.take x1) x2) (f.ts[x1].e[x2]'(by omega)) := by
        rw [List.take_succ_eq_append_getElem h1, minF_snoc, getD_eq (by omega)]
      have hset := mix_set (lowA (headE f.ts) (f.ts.take (x1 + 1)) n) (lowA (headE f.ts) (f.ts.take x1) n) x2 (by simpa using h2) (by simp)
      rw [lowA_get _ _ _ _ h2] at hset hg1
      rw [hg2] at hset
      have hlen : ((lowA (headE f.ts) (f.ts.take (x1 + 1)) n).take x2 ++ (lowA (headE f.ts) (f.ts.take x1) n).drop x2).length = n := by simp; omega
      generalize hM : (lowA (headE f.ts) (f.ts.take (x1 + 1)) n).take x2 ++ (lowA (headE f.ts) (f.ts.take x1) n).drop x2 = M at hset hg1 hlen
      have h2M : x2 < M.length := by omega
      rw [List.getElem?_eq_getElem h2M] at hg1
      have hg3 : M[x2] = minF (headE f.ts x2) (f.ts.take x1) x2 := by injection hg1
      rw [← hg3] at hset
      refine wskip ?_
      show AWp _ _ _ _ _
      refine wseq ?_
      refine wblock ?_
      refine wdrawI [(true, 0), (true, 1), (true, 2), (true, 3), (true, 4), (true, 5), (true, 6), (true, 7), (true, 8), (true, 9), (true, 10), (true, 11), (true, 12), (true, 13), (true, 14), (true, 15), (true, 16), (false, 17)] ⟨by kernel_rfl, by kernel_rfl⟩ ([0, 1, 2, 3, 4, 5, 6, 7, 8, 9, 10, 11, 12, 13, 14, 15, 16, 17]) rfl fun K hK => ?_
      refine opsI_end fun L hL => ?_
      simp [C.spec_l2Least, fS, hn, h1, tS_0 h1, h1e, h2, hlen, get_ints, h2M]
      refine hL _ ?_; clear hL L
      simp [C.spec_l2Least, fS, hn, h1, tS_0 h1, h1e, h2, hlen, get_ints, h2M]
      refine hK _ ?_; clear hK K
      show AWp _ _ _ _ _
      refine wreg fun K hK => ?_
      simp [C.spec_l2Least, fS, hn, wrap_succ (show x2 < 4611686018427387904 by omega), hset, modify_const, ints_set]
      refine hK _ ?_; clear hK K
      simp [C.spec_l2Least, fS, hn]
      refine cast (congrArg R2 ?_) (hR2 (x2 + 1) h2 (by omega))
      simp [fS, hn]
    · have h2 : x2 = n := by have := d_f hc2; omega
      refine wexit ?_
      show AWp _ _ _ _ _
      refine wreg fun K hK => ?_
      simp [C.spec_l2Least, fS, hn, wrap_succ (show x1 < 4611686018427387904 by omega)]
      refine hK _ ?_; clear hK K
      simp [C.spec_l2Least, fS, hn]
      refine cast (congrArg R1 ?_) (hR1 (x1 + 1) h1 (by omega))
      simp [fS, hn, h2, List.take_of_length_le, List.drop_of_length_le]
  · have h1 : x1 = f.ts.length := by have := d_f hc1; omega
    refine wexit ?_
    show AWp _ _ _ _ _
    refine wseq ?_
    refine wreg fun K hK => ?_
    simp [C.spec_l2Least, fS, hn]
    refine hK _ ?_; clear hK K
    show AWp _ _ _ _ _
    refine wret ?_
    simp [C.spec_l2Least, fS, hn, h1, lowL]

def denL (f : Lau) : List Int := (lowL f.ts f.v.toNat).map fun x => -x
@[simp] theorem denL_length (f : Lau) : (denL f).length = f.v.toNat := by simp [denL, lowL]
noncomputable def denD (f : Lau) : D := if Right f ∧ f.ts ≠ [] then owI (denL f) else .v (.slice none 0 0)
theorem right_he {f : Lau} {n : Nat} (h : Right f) (hn : f.v = n) : ∀ t ∈ f.ts, t.e.length = n ∧ ∀ x ∈ t.e, -20 ≤ x ∧ x ≤ 20 := fun t ht => by
  have := h.2.2.1 t ht
  exact ⟨by have := this.1; omega, this.2.2.2⟩
theorem map_mix (xs : List Int) (i : Nat) (h : i < xs.length) : ((xs.map fun x => -x).take i ++ xs.drop i).set i (-xs[i]) = (xs.map fun x => -x).take (i + 1) ++ xs.drop (i + 1) := by
  have := mix_set (xs.map fun x => -x) xs i (by simpa using h) (by simp)
  simpa using this
theorem ieq0 (n : Nat) : ((n : Int) == 0) = decide (n = 0) := by
  rw [Bool.eq_iff_iff]; simp
theorem spec_DenominatorOf_calls (f : Lau) (hx : f.ts.length < 4611686018427387904) (hxe : ∀ t ∈ f.ts, t.e.length < 4611686018427387904) : ACalls Try.prog F.spec_DenominatorOf [aF f] [] true (fun outs res => outs = [] ∧ res = [.one (denD f)]) := by
  refine ACalls.of_body (C := C.spec_DenominatorOf) (n := Try.f150.ntmps) tabT folT Try.func150 rfl (by kernel_rfl) rfl (Nat.le_of_ble_eq_true rfl) (by decide) (by kernel_rfl) (by kernel_rfl) rfl (by simp) (by simp) ?_
  simp only [Try.f150]
  refine wseq ?_
  refine wreg fun K hK => ?_
  simp [C.spec_DenominatorOf, fS]
  refine hK _ ?_; clear hK K
  show AWp _ _ _ _ _
  refine wseq ?_
  refine wseq ?_
  refine wregI ([0, 1] ++ ([2, 3, 4, 5, 6, 7, 8])) rfl fun K hK => ?_
  have hJ : K ⟨ofL [(1, .pt (1, 0) [] 0), (13, .bool (!decide (Right f ∧ f.ts ≠ [])))], ofRO [((1, 0), some (.bx (fS f)))]⟩ := by
    refine hK _ ?_; clear hK K
    show AWp _ _ _ _ _
    refine wcond _ rfl (fun hc1 => ?_) (fun hc1 => ?_)
    · have hr := nd_t hc1
      have hm : denD f = .v (.slice none 0 0) := if_neg hr
      refine wseq ?_
      refine wreg fun K hK => ?_
      simp [C.spec_DenominatorOf, fS]
      refine hK _ ?_; clear hK K
      show AWp _ _ _ _ _
      refine wret ?_
      simp [C.spec_DenominatorOf, fS, hm]
    · obtain ⟨hf, hne⟩ := nd_f hc1
      obtain ⟨n, hn⟩ : ∃ n : Nat, f.v = n := ⟨f.v.toNat, by have := hf.1; omega⟩
      have hm : denD f = owI (denL f) := if_pos ⟨hf, hne⟩
      have hv := hf.1
      have hl := hf.2.1
      have he := right_he hf hn
      have h0 : 0 < f.ts.length := List.length_pos_iff.2 hne
      have hd : denL f = (lowL f.ts n).map fun x => -x := by unfold denL; rw [hn]; rfl
      have hll : (lowL f.ts n).length = n := by simp [lowL]
      have hlb := lowA_bd he
      rw [← lowL_20 h0 he] at hlb
      refine wskip ?_
      show AWp _ _ _ _ _
      refine wseq ?_
      refine wregI ([0, 1] ++ ([2])) rfl fun K hK => ?_
      refine opsI_seg fun L hL => ?_
      simp [C.spec_DenominatorOf, fS, hn]
      refine wcall1 (spec_l2Least_calls f n hn (by omega) h0 hl (fun t ht => (he t ht).1)) (by simp [fS, hn]) (by simp) ?_
      simp [C.spec_DenominatorOf, fS, hn]
      refine hL _ ?_; clear hL L
      refine opsI_end fun L hL => ?_
      simp [C.spec_DenominatorOf, fS, hn]
      refine hL _ ?_; clear hL L
      simp [C.spec_DenominatorOf, fS, hn]
      refine hK _ ?_; clear hK K
      show AWp _ _ _ _ _
      refine wseq ?_
      refine wseq ?_
      refine wreg fun K hK => ?_
      simp [C.spec_DenominatorOf, fS]
      refine hK _ ?_; clear hK K
      show AWp _ _ _ _ _
      refine wblock ?_
      refine wloop (fun x : Nat => ⟨ofL [(1, .pt (1, 0) [] 0), (3, .al (3, 0) [] 0 n), (4, .int x)], ofRO [((1, 0), some (.bx (fS f))), ((3, 0), some (.ow 1 n (ints (((lowL f.ts n).map fun x => -x).take x ++ (lowL f.ts n).drop x))))]⟩) (fun x => x ≤ n) (fun x => n - x) 0 (by simp [C.spec_DenominatorOf, fS, hn, hll]) (by simp) ?_
      intro x1 hx1 R1 hR1
      refine wseq ?_
      refine wseq ?_
      refine wreg fun K hK => ?_
      simp [C.spec_DenominatorOf, fS]
      refine hK _ ?_; clear hK K
      show AWp _ _ _ _ _
      refine wcond _ rfl (fun hc2 => ?_) (fun hc2 => ?_)
      · have h2 : x1 < n := by have := d_t hc2; omega
        have hx1l : x1 < (lowL f.ts n).length := by omega
        have hset := map_mix (lowL f.ts n) x1 hx1l
        have hg1 := mix_get ((lowL f.ts n).map fun x => -x) (lowL f.ts n) x1 hx1l (by simp)
        have hb := hlb _ (List.getElem_mem hx1l)
        have hlen : (((lowL f.ts n).map fun x => -x).take x1 ++ (lowL f.ts n).drop x1).length = n := by simp; omega
        generalize hM : ((lowL f.ts n).map fun x => -x).take x1 ++ (lowL f.ts n).drop x1 = M at hset hg1 hlen
        have h2M : x1 < M.length := by omega
        rw [List.getElem?_eq_getElem h2M] at hg1
        have hg3 : M[x1] = (lowL f.ts n)[x1]'hx1l := by injection hg1
        rw [← hg3] at hset hb
        refine wskip ?_
        show AWp _ _ _ _ _
        refine wseq ?_
        refine wblock ?_
        refine wreg fun K hK => ?_
        simp [C.spec_DenominatorOf, fS, h2, hlen, get_ints, h2M, wrapOk (x := -M[x1]) (by omega) (by omega), hset, modify_const, ints_set]
        refine hK _ ?_; clear hK K
        show AWp _ _ _ _ _
        refine wreg fun K hK => ?_
        simp [C.spec_DenominatorOf, fS, wrap_succ (show x1 < 4611686018427387904 by omega)]
        refine hK _ ?_; clear hK K
        simp [C.spec_DenominatorOf, fS]
        refine cast (congrArg R1 ?_) (hR1 (x1 + 1) h2 (by omega))
        simp [fS, hn]
      · have h2 : x1 = n := by have := d_f hc2; omega
        refine wexit ?_
        show AWp _ _ _ _ _
        refine wseq ?_
        refine wreg fun K hK => ?_
        simp [C.spec_DenominatorOf, fS]
        refine hK _ ?_; clear hK K
        show AWp _ _ _ _ _
        refine wret ?_
        simp [C.spec_DenominatorOf, fS, hm, h2, hd, hll, List.take_of_length_le, List.drop_of_length_le]
  clear hK
  by_cases ha : Right f
  · refine opsI_seg fun L hL => ?_
    simp [C.spec_DenominatorOf, fS, ha]
    refine wcall1 (spec_l2Right_calls f hx hxe) (by simp) (by simp) ?_
    simp [C.spec_DenominatorOf, fS, ha]
    refine hL _ ?_; clear hL L
    refine opsI_end fun L hL => ?_
    simp [C.spec_DenominatorOf, fS, ha]
    refine hL _ ?_; clear hL L
    simp [C.spec_DenominatorOf, fS, ha]
    refine cast (congrArg K ?_) hJ
    simp [ieq0, fS, ha]
  · refine opsI_seg fun L hL => ?_
    simp [C.spec_DenominatorOf, fS, ha]
    refine wcall1 (spec_l2Right_calls f hx hxe) (by simp) (by simp) ?_
    simp [C.spec_DenominatorOf, fS, ha]
    refine hL _ ?_; clear hL L
    refine opsI_end fun L hL => ?_
    simp [C.spec_DenominatorOf, fS, ha]
    refine hL _ ?_; clear hL L
    simp [C.spec_DenominatorOf, fS, ha]
    refine cast (congrArg K ?_) hJ
    simp [ieq0, fS, ha]

theorem impl_DenominatorOf_calls (f : Lau) (hx : f.ts.length < 4611686018427387904) (hxe : ∀ t ∈ f.ts, t.e.length < 4611686018427387904) : ACalls Try.prog F.impl_DenominatorOf [aF f] [] true (fun outs res => outs = [] ∧ res = [.one (denD f)]) := by
  refine ACalls.of_body (C := C.impl_DenominatorOf) (n := Try.f152.ntmps) tabT folT Try.func152 rfl (by kernel_rfl) rfl (Nat.le_of_ble_eq_true rfl) (by decide) (by kernel_rfl) (by kernel_rfl) rfl (by simp) (by simp) ?_
  simp only [Try.f152]
  refine wseq ?_
  refine wreg fun K hK => ?_
  simp [C.impl_DenominatorOf, fS]
  refine hK _ ?_; clear hK K
  show AWp _ _ _ _ _
  refine wseq ?_
  refine wseq ?_
  refine wregI ([0, 1] ++ ([2, 3, 4, 5, 6, 7, 8])) rfl fun K hK => ?_
  have hJ : K ⟨ofL [(1, .pt (1, 0) [] 0), (16, .bool (!decide (Right f ∧ f.ts ≠ [])))], ofRO [((1, 0), some (.bx (fS f)))]⟩ := by
    refine hK _ ?_; clear hK K
    show AWp _ _ _ _ _
    refine wcond _ rfl (fun hc1 => ?_) (fun hc1 => ?_)
    · have hr := nd_t hc1
      have hm : denD f = .v (.slice none 0 0) := if_neg hr
      refine wseq ?_
      refine wreg fun K hK => ?_
      simp [C.impl_DenominatorOf, fS]
      refine hK _ ?_; clear hK K
      show AWp _ _ _ _ _
      refine wret ?_
      simp [C.impl_DenominatorOf, fS, hm]
    · obtain ⟨hf, hne⟩ := nd_f hc1
      obtain ⟨n, hn⟩ : ∃ n : Nat, f.v = n := ⟨f.v.toNat, by have := hf.1; omega⟩
      have hm : denD f = owI (denL f) := if_pos ⟨hf, hne⟩
      have hv := hf.1
      have hl := hf.2.1
      have he := right_he hf hn
      have h0 : 0 < f.ts.length := List.length_pos_iff.2 hne
      have hd : denL f = (lowA (fun _ => 20) f.ts n).map fun x => -x := by unfold denL; rw [hn, ← lowL_20 h0 he]; rfl
      have hlb := lowA_bd he
      refine wskip ?_
      show AWp _ _ _ _ _
      refine wseq ?_
      refine wreg fun K hK => ?_
      simp [C.impl_DenominatorOf, fS, hn, show (8 : Int) * n ≤ 281474976710656 by omega, show (n : Int) ≤ 281474976710656 by omega, zeros_ints]
      refine hK _ ?_; clear hK K
      show AWp _ _ _ _ _
      refine wseq ?_
      refine wseq ?_
      refine wreg fun K hK => ?_
      simp [C.impl_DenominatorOf, fS]
      refine hK _ ?_; clear hK K
      show AWp _ _ _ _ _
      refine wblock ?_
      refine wloop (fun x : Nat => ⟨ofL [(1, .pt (1, 0) [] 0), (3, .al (3, 0) [] 0 n), (21, .int n), (22, .int x)], ofRO [((1, 0), some (.bx (fS f))), ((3, 0), some (.ow 1 n (ints (((lowA (fun _ => 20) f.ts n).map fun x => -x).take x ++ List.replicate (n - x) 0))))]⟩) (fun x => x ≤ n) (fun x => n - x) 0 (by simp [C.impl_DenominatorOf, fS, hn]) (by simp) ?_
      intro x1 hx1 R1 hR1
      refine wseq ?_
      refine wreg fun K hK => ?_
      simp [C.impl_DenominatorOf, fS]
      refine hK _ ?_; clear hK K
      show AWp _ _ _ _ _
      refine wseq ?_
      refine wcond _ rfl (fun hc2 => ?_) (fun hc2 => ?_)
      · have h2 : x1 < n := by have := d_t hc2; omega
        refine wskip ?_
        show AWp _ _ _ _ _
        refine wseq ?_
        refine wblock ?_
        refine wseq ?_
        refine wreg fun K hK => ?_
        simp [C.impl_DenominatorOf, fS]
        refine hK _ ?_; clear hK K
        show AWp _ _ _ _ _
        refine wseq ?_
        refine wreg fun K hK => ?_
        simp [C.impl_DenominatorOf, fS]
        refine hK _ ?_; clear hK K
        show AWp _ _ _ _ _
        refine wseq ?_
        refine wseq ?_
        refine wreg fun K hK => ?_
        simp [C.impl_DenominatorOf, fS]
        refine hK _ ?_; clear hK K
        show AWp _ _ _ _ _
        refine wblock ?_
        refine wloop (fun x : Nat => ⟨ofL [(1, .pt (1, 0) [] 0), (3, .al (3, 0) [] 0 n), (4, .int x1), (5, .int (minF 20 (f.ts.take x) x1)), (21, .int n), (22, .int x1), (26, .d (.sh 2 f.ts.length (rows tS f.ts))), (27, .int f.ts.length), (28, .int x)], ofRO [((1, 0), some (.bx (fS f))), ((3, 0), some (.ow 1 n (ints (((lowA (fun _ => 20) f.ts n).map fun x => -x).take x1 ++ List.replicate (n - x1) 0))))]⟩) (fun x => x ≤ f.ts.length) (fun x => f.ts.length - x) 0 (by simp [C.impl_DenominatorOf, fS, hn, minF]) (by simp) ?_
        intro x2 hx2 R2 hR2
        refine wseq ?_
        refine wreg fun K hK => ?_
        simp [C.impl_DenominatorOf, fS]
        refine hK _ ?_; clear hK K
        show AWp _ _ _ _ _
        refine wseq ?_
        refine wcond _ rfl (fun hc3 => ?_) (fun hc3 => ?_)
        · have h3 : x2 < f.ts.length := by have := d_t hc3; omega
          have h3e := (he _ (List.getElem_mem h3)).1
          have hmin : minF 20 (f.ts.take (x2 + 1)) x1 = min (minF 20 (f.ts.take x2) x1) (f.ts[x2].e[x1]'(by omega)) := by
            rw [List.take_succ_eq_append_getElem h3, minF_snoc, getD_eq (by omega)]
          refine wskip ?_
          show AWp _ _ _ _ _
          refine wseq ?_
          refine wblock ?_
          refine wseq ?_
          refine wreg fun K hK => ?_
          simp [C.impl_DenominatorOf, fS, h3, tS_0 h3, tS_1 h3]
          refine hK _ ?_; clear hK K
          show AWp _ _ _ _ _
          refine wreg fun K hK => ?_
          simp [C.impl_DenominatorOf, fS, get_ints, h3e, h2]
          refine hK _ ?_; clear hK K
          show AWp _ _ _ _ _
          refine wreg fun K hK => ?_
          simp [C.impl_DenominatorOf, fS, wrap_succ (show x2 < 4611686018427387904 by omega)]
          refine hK _ ?_; clear hK K
          simp [C.impl_DenominatorOf, fS]
          refine cast (congrArg R2 ?_) (hR2 (x2 + 1) h3 (by omega))
          simp [fS, hn, hmin]
        · have h3 : x2 = f.ts.length := by have := d_f hc3; omega
          subst h3
          have hgl : minF 20 f.ts x1 = (lowA (fun _ => 20) f.ts n)[x1]'(by simpa using h2) := (lowA_get (fun _ => 20) f.ts n x1 h2).symm
          have hb := hlb _ (List.getElem_mem (show x1 < (lowA (fun _ => 20) f.ts n).length by simpa using h2))
          rw [← hgl] at hb
          have hfs := fill_step ((lowA (fun _ => 20) f.ts n).map fun x => -x) x1 (by simpa using h2) 0
          simp only [List.length_map, lowA_length, List.getElem_map, ← hgl] at hfs
          have hlen : (((lowA (fun _ => 20) f.ts n).map fun x => -x).take x1 ++ List.replicate (n - x1) 0).length = n := by simp; omega
          refine wexit ?_
          show AWp _ _ _ _ _
          refine wreg fun K hK => ?_
          simp [C.impl_DenominatorOf, fS, List.take_length, wrapOk (x := -(minF 20 f.ts x1)) (by omega) (by omega), h2, hlen, hfs, modify_const, ints_set]
          refine hK _ ?_; clear hK K
          show AWp _ _ _ _ _
          refine wreg fun K hK => ?_
          simp [C.impl_DenominatorOf, fS, wrap_succ (show x1 < 4611686018427387904 by omega)]
          refine hK _ ?_; clear hK K
          simp [C.impl_DenominatorOf, fS]
          refine cast (congrArg R1 ?_) (hR1 (x1 + 1) h2 (by omega))
          simp [fS, hn]
      · have h2 : x1 = n := by have := d_f hc2; omega
        refine wexit ?_
        show AWp _ _ _ _ _
        refine wseq ?_
        refine wreg fun K hK => ?_
        simp [C.impl_DenominatorOf, fS]
        refine hK _ ?_; clear hK K
        show AWp _ _ _ _ _
        refine wret ?_
        simp [C.impl_DenominatorOf, fS, hm, h2, hd, List.take_of_length_le, List.drop_of_length_le]
  clear hK
  by_cases ha : Right f
  · refine opsI_seg fun L hL => ?_
    simp [C.impl_DenominatorOf, fS, ha]
    refine wcall1 (impl_LaurentOk_calls f hx hxe) (by simp) (by simp) ?_
    simp [C.impl_DenominatorOf, fS, ha]
    refine hL _ ?_; clear hL L
    refine opsI_end fun L hL => ?_
    simp [C.impl_DenominatorOf, fS, ha]
    refine hL _ ?_; clear hL L
    simp [C.impl_DenominatorOf, fS, ha]
    refine cast (congrArg K ?_) hJ
    simp [ieq0, fS, ha]
  · refine opsI_seg fun L hL => ?_
    simp [C.impl_DenominatorOf, fS, ha]
    refine wcall1 (impl_LaurentOk_calls f hx hxe) (by simp) (by simp) ?_
    simp [C.impl_DenominatorOf, fS, ha]
    refine hL _ ?_; clear hL L
    refine opsI_end fun L hL => ?_
    simp [C.impl_DenominatorOf, fS, ha]
    refine hL _ ?_; clear hL L
    simp [C.impl_DenominatorOf, fS, ha]
    refine cast (congrArg K ?_) hJ
    simp [ieq0, fS, ha]
theorem sDen_some (f : Lau) (hx : f.ts.length < 4611686018427387904) (hxe : ∀ t ∈ f.ts, t.e.length < 4611686018427387904) (h : Right f ∧ f.ts ≠ []) : ACalls Try.prog F.spec_DenominatorOf [aF f] [] true (fun outs res => outs = [] ∧ res = [.one (owI (denL f))]) := by
  have := spec_DenominatorOf_calls f hx hxe
  rwa [show denD f = owI (denL f) from if_pos h] at this
theorem sDen_none (f : Lau) (hx : f.ts.length < 4611686018427387904) (hxe : ∀ t ∈ f.ts, t.e.length < 4611686018427387904) (h : ¬ (Right f ∧ f.ts ≠ [])) : ACalls Try.prog F.spec_DenominatorOf [aF f] [] true (fun outs res => outs = [] ∧ res = [.one (.v (.slice none 0 0))]) := by
  have := spec_DenominatorOf_calls f hx hxe
  rwa [show denD f = .v (.slice none 0 0) from if_neg h] at this
theorem iDen_some (f : Lau) (hx : f.ts.length < 4611686018427387904) (hxe : ∀ t ∈ f.ts, t.e.length < 4611686018427387904) (h : Right f ∧ f.ts ≠ []) : ACalls Try.prog F.impl_DenominatorOf [aF f] [] true (fun outs res => outs = [] ∧ res = [.one (owI (denL f))]) := by
  have := impl_DenominatorOf_calls f hx hxe
  rwa [show denD f = owI (denL f) from if_pos h] at this
theorem iDen_none (f : Lau) (hx : f.ts.length < 4611686018427387904) (hxe : ∀ t ∈ f.ts, t.e.length < 4611686018427387904) (h : ¬ (Right f ∧ f.ts ≠ [])) : ACalls Try.prog F.impl_DenominatorOf [aF f] [] true (fun outs res => outs = [] ∧ res = [.one (.v (.slice none 0 0))]) := by
  have := impl_DenominatorOf_calls f hx hxe
  rwa [show denD f = .v (.slice none 0 0) from if_neg h] at this
theorem mono_sm (e : List Int) : (monoF e).ts.length ≤ 1 ∧ ∀ t ∈ (monoF e).ts, t.e.length ≤ e.length := by
  unfold monoF
  split
  · simp
  · simp [zeroF]
theorem denL_sm {f : Lau} (h : Right f) : (denL f).length ≤ 8 := by rw [denL_length]; have := h.1; omega
noncomputable def numF (f : Lau) : Lau × Bool := if Right f ∧ f.ts ≠ [] then mulF f (monoF (denL f)) else (zeroF, false)

theorem spec_NumeratorOf_calls (f : Lau) (hx : f.ts.length < 4611686018427387904) (hxe : ∀ t ∈ f.ts, t.e.length < 4611686018427387904) : ACalls Try.prog F.spec_NumeratorOf [aF f] [] true (fun outs res => outs = [] ∧ WkRs res [.ag (fO (numF f).1), .one (D.bool (numF f).2)]) := by
  refine ACalls.of_body (C := C.spec_NumeratorOf) (n := Try.f59.ntmps) tabT folT Try.func59 rfl (by kernel_rfl) rfl (Nat.le_of_ble_eq_true rfl) (by decide) (by kernel_rfl) (by kernel_rfl) rfl (by simp) (by simp) ?_
  simp only [Try.f59]
  refine wseq ?_
  refine wreg fun K hK => ?_
  simp [C.spec_NumeratorOf, fS]
  refine hK _ ?_; clear hK K
  show AWp _ _ _ _ _
  refine wseq ?_
  refine wregI ([0, 1] ++ ([2])) rfl fun K hK => ?_
  by_cases hr : Right f ∧ f.ts ≠ []
  · refine opsI_seg fun L hL => ?_
    simp [C.spec_NumeratorOf, fS, hr]
    refine wcall1 (sDen_some f hx hxe hr) (by simp) (by simp) ?_
    simp [C.spec_NumeratorOf, fS, hr]
    refine hL _ ?_; clear hL L
    refine opsI_end fun L hL => ?_
    simp [C.spec_NumeratorOf, fS, hr]
    refine hL _ ?_; clear hL L
    simp [C.spec_NumeratorOf, fS, hr]
    have hm : numF f = mulF f (monoF (denL f)) := if_pos hr
    have hv := hr.1.1
    have hd8 := denL_sm hr.1
    have hms := mono_sm (denL f)
    refine hK _ ?_; clear hK K
    show AWp _ _ _ _ _
    refine wseq ?_
    refine wseq ?_
    refine wreg fun K hK => ?_
    simp [C.spec_NumeratorOf, fS]
    refine hK _ ?_; clear hK K
    show AWp _ _ _ _ _
    refine wcond _ rfl (fun hc1 => ?_) (fun hc1 => ?_)
    · exfalso
      simp at hc1
      omega
    · refine wskip ?_
      show AWp _ _ _ _ _
      refine wseq ?_
      refine wdrawI [(true, 0), (true, 1), (false, 2), (false, 3), (true, 4), (true, 5), (false, 6), (true, 7)] ⟨by kernel_rfl, by kernel_rfl⟩ ([0, 1, 2] ++ ([3] ++ ([4, 5, 6, 7]))) rfl fun K hK => ?_
      refine opsI_seg fun L hL => ?_
      simp [C.spec_NumeratorOf, fS, denL_length]
      refine wcall1 (sMono_calls (denL f) (by omega)) (by simp [fS, denL_length]) (by simp) ?_
      simp [C.spec_NumeratorOf, fS, denL_length]
      refine hL _ ?_; clear hL L
      refine opsI_seg fun L hL => ?_
      simp [C.spec_NumeratorOf, fS, denL_length]
      refine wcall1 (sMul_calls f (monoF (denL f)) hx hxe (by omega) (fun t ht => by have := hms.2 t ht; omega)) (by simp) (by simp) ?_
      simp [C.spec_NumeratorOf, fS, denL_length]
      refine hL _ ?_; clear hL L
      refine opsI_end fun L hL => ?_
      simp [C.spec_NumeratorOf, fS, denL_length]
      refine hL _ ?_; clear hL L
      simp [C.spec_NumeratorOf, fS, denL_length]
      refine hK _ ?_; clear hK K
      show AWp _ _ _ _ _
      refine wret ?_
      simp [C.spec_NumeratorOf, fS, hm, fO]
  · refine opsI_seg fun L hL => ?_
    simp [C.spec_NumeratorOf, fS, hr]
    refine wcall1 (sDen_none f hx hxe hr) (by simp) (by simp) ?_
    simp [C.spec_NumeratorOf, fS, hr]
    refine hL _ ?_; clear hL L
    refine opsI_end fun L hL => ?_
    simp [C.spec_NumeratorOf, fS, hr]
    refine hL _ ?_; clear hL L
    simp [C.spec_NumeratorOf, fS, hr]
    have hm : numF f = (zeroF, false) := if_neg hr
    refine hK _ ?_; clear hK K
    show AWp _ _ _ _ _
    refine wseq ?_
    refine wseq ?_
    refine wreg fun K hK => ?_
    simp [C.spec_NumeratorOf, fS]
    refine hK _ ?_; clear hK K
    show AWp _ _ _ _ _
    refine wcond _ rfl (fun hc2 => ?_) (fun hc2 => ?_)
    · refine wseq ?_
      refine wreg fun K hK => ?_
      simp [C.spec_NumeratorOf, fS]
      refine hK _ ?_; clear hK K
      show AWp _ _ _ _ _
      refine wret ?_
      simp [C.spec_NumeratorOf, fS, hm, zeroF, fO, rows]
    · simp at hc2

theorem impl_NumeratorOf_calls (hMul : MulOk) (f : Lau) (hx : f.ts.length < 4611686018427387904) (hxe : ∀ t ∈ f.ts, t.e.length < 4611686018427387904) : ACalls Try.prog F.impl_NumeratorOf [aF f] [] true (fun outs res => outs = [] ∧ WkRs res [.ag (fO (numF f).1), .one (D.bool (numF f).2)]) := by
  refine ACalls.of_body (C := C.impl_NumeratorOf) (n := Try.f60.ntmps) tabT folT Try.func60 rfl (by kernel_rfl) rfl (Nat.le_of_ble_eq_true rfl) (by decide) (by kernel_rfl) (by kernel_rfl) rfl (by simp) (by simp) ?_
  simp only [Try.f60]
  refine wseq ?_
  refine wreg fun K hK => ?_
  simp [C.impl_NumeratorOf, fS]
  refine hK _ ?_; clear hK K
  show AWp _ _ _ _ _
  refine wseq ?_
  refine wregI ([0, 1] ++ ([2])) rfl fun K hK => ?_
  by_cases hr : Right f ∧ f.ts ≠ []
  · refine opsI_seg fun L hL => ?_
    simp [C.impl_NumeratorOf, fS, hr]
    refine wcall1 (iDen_some f hx hxe hr) (by simp) (by simp) ?_
    simp [C.impl_NumeratorOf, fS, hr]
    refine hL _ ?_; clear hL L
    refine opsI_end fun L hL => ?_
    simp [C.impl_NumeratorOf, fS, hr]
    refine hL _ ?_; clear hL L
    simp [C.impl_NumeratorOf, fS, hr]
    have hm : numF f = mulF f (monoF (denL f)) := if_pos hr
    have hv := hr.1.1
    have hd8 := denL_sm hr.1
    have hms := mono_sm (denL f)
    refine hK _ ?_; clear hK K
    show AWp _ _ _ _ _
    refine wseq ?_
    refine wseq ?_
    refine wreg fun K hK => ?_
    simp [C.impl_NumeratorOf, fS]
    refine ⟨?_, fun h9 => absurd h9 (by omega)⟩
    refine hK _ ?_; clear hK K
    show AWp _ _ _ _ _
    refine wcond _ rfl (fun hc1 => ?_) (fun hc1 => ?_)
    · simp at hc1
    · refine wskip ?_
      show AWp _ _ _ _ _
      refine wseq ?_
      refine wdrawI [(true, 0), (true, 1), (false, 2), (false, 3), (true, 4), (true, 5), (false, 6), (true, 7)] ⟨by kernel_rfl, by kernel_rfl⟩ ([0, 1, 2] ++ ([3] ++ ([4, 5, 6, 7]))) rfl fun K hK => ?_
      refine opsI_seg fun L hL => ?_
      simp [C.impl_NumeratorOf, fS, denL_length]
      refine wcall1 (iMono_calls (denL f) (by omega)) (by simp [fS, denL_length]) (by simp) ?_
      simp [C.impl_NumeratorOf, fS, denL_length]
      refine hL _ ?_; clear hL L
      refine opsI_seg fun L hL => ?_
      simp [C.impl_NumeratorOf, fS, denL_length]
      refine wcall1 (hMul f (monoF (denL f)) hx hxe (by omega) (fun t ht => by have := hms.2 t ht; omega)) (by simp) (by simp) ?_
      simp [C.impl_NumeratorOf, fS, denL_length]
      refine hL _ ?_; clear hL L
      refine opsI_end fun L hL => ?_
      simp [C.impl_NumeratorOf, fS, denL_length]
      refine hL _ ?_; clear hL L
      simp [C.impl_NumeratorOf, fS, denL_length]
      refine hK _ ?_; clear hK K
      show AWp _ _ _ _ _
      refine wret ?_
      simp [C.impl_NumeratorOf, fS, hm, fO]
  · refine opsI_seg fun L hL => ?_
    simp [C.impl_NumeratorOf, fS, hr]
    refine wcall1 (iDen_none f hx hxe hr) (by simp) (by simp) ?_
    simp [C.impl_NumeratorOf, fS, hr]
    refine hL _ ?_; clear hL L
    refine opsI_end fun L hL => ?_
    simp [C.impl_NumeratorOf, fS, hr]
    refine hL _ ?_; clear hL L
    simp [C.impl_NumeratorOf, fS, hr]
    have hm : numF f = (zeroF, false) := if_neg hr
    refine hK _ ?_; clear hK K
    show AWp _ _ _ _ _
    refine wseq ?_
    refine wseq ?_
    refine wreg fun K hK => ?_
    simp [C.impl_NumeratorOf, fS]
    refine hK _ ?_; clear hK K
    show AWp _ _ _ _ _
    refine wcond _ rfl (fun hc2 => ?_) (fun hc2 => ?_)
    · refine wseq ?_
      refine wreg fun K hK => ?_
      simp [C.impl_NumeratorOf, fS]
      refine hK _ ?_; clear hK K
      show AWp _ _ _ _ _
      refine wret ?_
      simp [C.impl_NumeratorOf, fS, hm, zeroF, fO, rows]
    · simp at hc2
theorem sNum_calls (f : Lau) (hx : f.ts.length < 4611686018427387904) (hxe : ∀ t ∈ f.ts, t.e.length < 4611686018427387904) : ACalls Try.prog F.spec_NumeratorOf [aF f] [] true (fun outs res => outs = [] ∧ res = [.ag (fO (numF f).1), .one (D.bool (numF f).2)]) := (spec_NumeratorOf_calls f hx hxe).weak1
theorem iNum_calls (hMul : MulOk) (f : Lau) (hx : f.ts.length < 4611686018427387904) (hxe : ∀ t ∈ f.ts, t.e.length < 4611686018427387904) : ACalls Try.prog F.impl_NumeratorOf [aF f] [] true (fun outs res => outs = [] ∧ res = [.ag (fO (numF f).1), .one (D.bool (numF f).2)]) := (impl_NumeratorOf_calls hMul f hx hxe).weak1
theorem numF_small (f : Lau) : SmallF (numF f).1 := by
  unfold numF
  split
  · rcases mulF_right f (monoF (denL f)) with h | h
    · exact small_right h
    · rw [h]; exact small_zero
  · exact small_zero

end Go.Proofs.Ytdgeponcnlkaiaa.Ab
namespace Go.Proofs.Ytdgeponcnlkaiaa.Ab
open Go
set_option linter.unusedSimpArgs false
set_option linter.unusedVariables false
set_option maxRecDepth 10000
set_option maxHeartbeats 2000000
theorem laws_FnExactNumeratorOf_calls (hMul : MulOk) (f : Lau) (hx : f.ts.length < 4611686018427387904) (hxe : ∀ t ∈ f.ts, t.e.length < 4611686018427387904) : ACalls Try.prog F.laws_FnExactNumeratorOf [aF f] [] true (fun outs res => outs = [] ∧ res = [.one (D.bool true)]) := by
  have hgs := numF_small f
  have hw := sNum_calls f hx hxe
  have hg := iNum_calls hMul f hx hxe
  generalize numF f = g at hgs hw hg
  obtain ⟨g, b⟩ := g
  obtain ⟨hg1, hg2, hg3⟩ := hgs
  dsimp only at hg1 hg2 hg3 hw hg
  refine ACalls.of_body (C := C.laws_FnExactNumeratorOf) (n := Try.f9.ntmps) tabT folT Try.func9 rfl (by kernel_rfl) rfl (Nat.le_of_ble_eq_true rfl) (by decide) (by kernel_rfl) (by kernel_rfl) rfl (by simp) (by simp) ?_
  simp only [Try.f9]
  refine wseq ?_
  refine wreg fun K hK => ?_
  simp [C.laws_FnExactNumeratorOf, fO]
  refine hK _ ?_; clear hK K
  show AWp _ _ _ _ _
  refine wseq ?_
  refine wreg fun K hK => ?_
  simp [C.laws_FnExactNumeratorOf, fO]
  refine hK _ ?_; clear hK K
  show AWp _ _ _ _ _
  refine wseq ?_
  refine wregI ([0, 1, 2] ++ ([3])) rfl fun K hK => ?_
  refine opsI_seg fun L hL => ?_
  simp [C.laws_FnExactNumeratorOf, fO]
  refine wcall (laws_szLaurent_calls f 1048576 (by omega) (by omega) hx hxe) (by simp) (by simp) (by simp) ?_
  rintro outs res ⟨rfl, r, rfl, hr⟩
  simp [C.laws_FnExactNumeratorOf, fO]
  refine hL _ ?_; clear hL L
  refine opsI_end fun L hL => ?_
  simp [C.laws_FnExactNumeratorOf, fO]
  refine hL _ ?_; clear hL L
  simp [C.laws_FnExactNumeratorOf, fO]
  refine hK _ ?_; clear hK K
  show AWp _ _ _ _ _
  refine wseq ?_
  refine wseq ?_
  refine wreg fun K hK => ?_
  simp [C.laws_FnExactNumeratorOf, fO]
  refine hK _ ?_; clear hK K
  show AWp _ _ _ _ _
  refine wcond _ rfl (fun hc1 => ?_) (fun hc1 => ?_)
  · refine wseq ?_
    refine wreg fun K hK => ?_
    simp [C.laws_FnExactNumeratorOf, fO]
    refine hK _ ?_; clear hK K
    show AWp _ _ _ _ _
    refine wret ?_
    simp [C.laws_FnExactNumeratorOf, fO]
  · have hr0 : 0 ≤ r := by have := d_f hc1; omega
    obtain ⟨hl, he⟩ := sz_small (ts := f.ts) hr0 (by omega)
    have hk : cntL cntT f.ts ≤ 1048576 := sz_cnt hr0 (by omega)
    refine wskip ?_
    show AWp _ _ _ _ _
    refine wseq ?_
    refine wregI ([0, 1] ++ ([2] ++ ([3, 4, 5, 6, 7, 8]))) rfl fun K hK => ?_
    refine opsI_seg fun L hL => ?_
    simp [C.laws_FnExactNumeratorOf, fO]
    refine wcall1 (laws_toLaurent_calls f hl he) (by simp) (by simp) ?_
    simp [C.laws_FnExactNumeratorOf, fO]
    refine hL _ ?_; clear hL L
    refine opsI_seg fun L hL => ?_
    simp [C.laws_FnExactNumeratorOf, fO]
    refine wcall1 (hw) (by simp) (by simp) ?_
    simp [C.laws_FnExactNumeratorOf, fO]
    refine hL _ ?_; clear hL L
    refine opsI_end fun L hL => ?_
    simp [C.laws_FnExactNumeratorOf, fO]
    refine hL _ ?_; clear hL L
    simp [C.laws_FnExactNumeratorOf, fO]
    refine hK _ ?_; clear hK K
    show AWp _ _ _ _ _
    refine wseq ?_
    refine wregI ([0, 1] ++ ([2, 3])) rfl fun K hK => ?_
    refine opsI_seg fun L hL => ?_
    simp [C.laws_FnExactNumeratorOf, fO]
    refine wcall1 (laws_toLaurent_calls f hl he) (by simp) (by simp) ?_
    simp [C.laws_FnExactNumeratorOf, fO]
    refine hL _ ?_; clear hL L
    refine opsI_end fun L hL => ?_
    simp [C.laws_FnExactNumeratorOf, fO]
    refine hL _ ?_; clear hL L
    simp [C.laws_FnExactNumeratorOf, fO]
    refine hK _ ?_; clear hK K
    show AWp _ _ _ _ _
    refine wseq ?_
    refine wregI ([0, 1] ++ ([2, 3, 4, 5, 6, 7])) rfl fun K hK => ?_
    refine opsI_seg fun L hL => ?_
    simp [C.laws_FnExactNumeratorOf, fO]
    refine wcall1 (hg) (by simp) (by simp) ?_
    simp [C.laws_FnExactNumeratorOf, fO]
    refine hL _ ?_; clear hL L
    refine opsI_end fun L hL => ?_
    simp [C.laws_FnExactNumeratorOf, fO]
    refine hL _ ?_; clear hL L
    simp [C.laws_FnExactNumeratorOf, fO]
    refine hK _ ?_; clear hK K
    show AWp _ _ _ _ _
    refine wseq ?_
    refine wseq ?_
    refine wregI ([0, 1, 2] ++ ([3, 4, 5, 6, 7, 8])) rfl fun K hK => ?_
    refine opsI_seg fun L hL => ?_
    simp [C.laws_FnExactNumeratorOf, fO]
    refine wcall1 (laws_eqLaurent_calls g g (by omega) (fun t ht => by have := hg2 t ht; omega)) (by simp) (by simp) ?_
    simp [C.laws_FnExactNumeratorOf, fO]
    refine hL _ ?_; clear hL L
    refine opsI_end fun L hL => ?_
    simp [C.laws_FnExactNumeratorOf, fO]
    refine hL _ ?_; clear hL L
    simp [C.laws_FnExactNumeratorOf, fO]
    refine hK _ ?_; clear hK K
    show AWp _ _ _ _ _
    refine wcond _ rfl (fun hc2 => ?_) (fun hc2 => ?_)
    · simp at hc2
    · refine wskip ?_
      show AWp _ _ _ _ _
      refine wseq ?_
      refine wseq ?_
      refine wdrawI [(true, 0), (true, 1), (false, 2), (false, 3), (true, 4)] ⟨by kernel_rfl, by kernel_rfl⟩ ([0, 1, 2] ++ ([3] ++ ([4]))) rfl fun K hK => ?_
      refine opsI_seg fun L hL => ?_
      simp [C.laws_FnExactNumeratorOf, fO]
      refine wcall1 (laws_toLaurent_calls f hl he) (by simp) (by simp) ?_
      simp [C.laws_FnExactNumeratorOf, fO]
      refine hL _ ?_; clear hL L
      refine opsI_seg fun L hL => ?_
      simp [C.laws_FnExactNumeratorOf, fO]
      refine wcall1 (laws_eqLaurent_calls f f hx hxe) (by simp) (by simp) ?_
      simp [C.laws_FnExactNumeratorOf, fO]
      refine hL _ ?_; clear hL L
      refine opsI_end fun L hL => ?_
      simp [C.laws_FnExactNumeratorOf, fO]
      refine hL _ ?_; clear hL L
      simp [C.laws_FnExactNumeratorOf, fO]
      refine hK _ ?_; clear hK K
      show AWp _ _ _ _ _
      refine wcond _ rfl (fun hc3 => ?_) (fun hc3 => ?_)
      · simp at hc3
      · refine wskip ?_
        show AWp _ _ _ _ _
        refine wseq ?_
        refine wreg fun K hK => ?_
        simp [C.laws_FnExactNumeratorOf, fO]
        refine hK _ ?_; clear hK K
        show AWp _ _ _ _ _
        refine wseq ?_
        refine wregI ([0, 1, 2] ++ ([3])) rfl fun K hK => ?_
        refine opsI_seg fun L hL => ?_
        simp [C.laws_FnExactNumeratorOf, fO]
        refine wcall1 (laws_markLaurent_calls f 1 (by omega) (by omega) hx) (by simp) (by simp) ?_
        simp [C.laws_FnExactNumeratorOf, fO]
        refine hL _ ?_; clear hL L
        refine opsI_end fun L hL => ?_
        simp [C.laws_FnExactNumeratorOf, fO]
        refine hL _ ?_; clear hL L
        simp [C.laws_FnExactNumeratorOf, fO]
        refine hK _ ?_; clear hK K
        show AWp _ _ _ _ _
        refine wseq ?_
        refine wseq ?_
        refine wregI ([0, 1, 2, 3, 4, 5] ++ ([6, 7, 8, 9, 10, 11, 12])) rfl fun K hK => ?_
        refine opsI_seg fun L hL => ?_
        simp [C.laws_FnExactNumeratorOf, fO, show (0 : Int) ≤ 1 + (cntL cntT f.ts : Nat) by omega, show ¬ ((1 : Int) + (cntL cntT f.ts : Nat) < 0) by omega]
        refine wcall1 (laws_eqLaurent_calls g g (by omega) (fun t ht => by have := hg2 t ht; omega)) (by simp) (by simp) ?_
        simp [C.laws_FnExactNumeratorOf, fO, show (0 : Int) ≤ 1 + (cntL cntT f.ts : Nat) by omega, show ¬ ((1 : Int) + (cntL cntT f.ts : Nat) < 0) by omega]
        refine hL _ ?_; clear hL L
        refine opsI_end fun L hL => ?_
        simp [C.laws_FnExactNumeratorOf, fO, show (0 : Int) ≤ 1 + (cntL cntT f.ts : Nat) by omega, show ¬ ((1 : Int) + (cntL cntT f.ts : Nat) < 0) by omega]
        refine hL _ ?_; clear hL L
        simp [C.laws_FnExactNumeratorOf, fO, show (0 : Int) ≤ 1 + (cntL cntT f.ts : Nat) by omega, show ¬ ((1 : Int) + (cntL cntT f.ts : Nat) < 0) by omega]
        refine hK _ ?_; clear hK K
        show AWp _ _ _ _ _
        refine wcond _ rfl (fun hc4 => ?_) (fun hc4 => ?_)
        · simp at hc4
        · refine wskip ?_
          show AWp _ _ _ _ _
          refine wseq ?_
          refine wreg fun K hK => ?_
          simp [C.laws_FnExactNumeratorOf, fO]
          refine hK _ ?_; clear hK K
          show AWp _ _ _ _ _
          refine wseq ?_
          refine wregI ([0, 1, 2] ++ ([3])) rfl fun K hK => ?_
          refine opsI_seg fun L hL => ?_
          simp [C.laws_FnExactNumeratorOf, fO]
          refine wcall1 (laws_markLaurent_calls g 1 (by omega) (by omega) (by omega)) (by simp) (by simp) ?_
          simp [C.laws_FnExactNumeratorOf, fO]
          refine hL _ ?_; clear hL L
          refine opsI_end fun L hL => ?_
          simp [C.laws_FnExactNumeratorOf, fO]
          refine hL _ ?_; clear hL L
          simp [C.laws_FnExactNumeratorOf, fO]
          refine hK _ ?_; clear hK K
          show AWp _ _ _ _ _
          refine wseq ?_
          refine wreg fun K hK => ?_
          simp [C.laws_FnExactNumeratorOf, fO]
          refine hK _ ?_; clear hK K
          show AWp _ _ _ _ _
          refine wseq ?_
          refine wregI ([0, 1, 2] ++ ([3])) rfl fun K hK => ?_
          refine opsI_seg fun L hL => ?_
          simp [C.laws_FnExactNumeratorOf, fO]
          refine wcall1 (laws_heldLaurent_calls g.v g.ts 1 (by omega) (by omega) (by omega)) (by simp) (by simp) ?_
          simp [C.laws_FnExactNumeratorOf, fO]
          refine hL _ ?_; clear hL L
          refine opsI_end fun L hL => ?_
          simp [C.laws_FnExactNumeratorOf, fO]
          refine hL _ ?_; clear hL L
          simp [C.laws_FnExactNumeratorOf, fO]
          refine hK _ ?_; clear hK K
          show AWp _ _ _ _ _
          refine wseq ?_
          refine wseq ?_
          refine wreg fun K hK => ?_
          simp [C.laws_FnExactNumeratorOf, fO]
          refine hK _ ?_; clear hK K
          show AWp _ _ _ _ _
          refine wcond _ rfl (fun hc5 => ?_) (fun hc5 => ?_)
          · have := d_t hc5; omega
          · refine wskip ?_
            show AWp _ _ _ _ _
            refine wseq ?_
            refine wseq ?_
            refine wreg fun K hK => ?_
            simp [C.laws_FnExactNumeratorOf, fO]
            refine hK _ ?_; clear hK K
            show AWp _ _ _ _ _
            refine wcond _ rfl (fun hc6 => ?_) (fun hc6 => ?_)
            · simp at hc6
            · refine wskip ?_
              show AWp _ _ _ _ _
              refine wseq ?_
              refine wregI ([0, 1] ++ ([2] ++ ([3, 4, 5, 6, 7, 8]))) rfl fun K hK => ?_
              refine opsI_seg fun L hL => ?_
              simp [C.laws_FnExactNumeratorOf, fO]
              refine wcall1 (laws_toLaurent_calls f hl he) (by simp) (by simp) ?_
              simp [C.laws_FnExactNumeratorOf, fO]
              refine hL _ ?_; clear hL L
              refine opsI_seg fun L hL => ?_
              simp [C.laws_FnExactNumeratorOf, fO]
              refine wcall1 (hg) (by simp) (by simp) ?_
              simp [C.laws_FnExactNumeratorOf, fO]
              refine hL _ ?_; clear hL L
              refine opsI_end fun L hL => ?_
              simp [C.laws_FnExactNumeratorOf, fO]
              refine hL _ ?_; clear hL L
              simp [C.laws_FnExactNumeratorOf, fO]
              refine hK _ ?_; clear hK K
              show AWp _ _ _ _ _
              refine wseq ?_
              refine wseq ?_
              refine wregI ([0, 1, 2] ++ ([3, 4, 5, 6, 7, 8])) rfl fun K hK => ?_
              refine opsI_seg fun L hL => ?_
              simp [C.laws_FnExactNumeratorOf, fO]
              refine wcall1 (laws_eqLaurent_calls g g (by omega) (fun t ht => by have := hg2 t ht; omega)) (by simp) (by simp) ?_
              simp [C.laws_FnExactNumeratorOf, fO]
              refine hL _ ?_; clear hL L
              refine opsI_end fun L hL => ?_
              simp [C.laws_FnExactNumeratorOf, fO]
              refine hL _ ?_; clear hL L
              simp [C.laws_FnExactNumeratorOf, fO]
              refine hK _ ?_; clear hK K
              show AWp _ _ _ _ _
              refine wcond _ rfl (fun hc7 => ?_) (fun hc7 => ?_)
              · simp at hc7
              · refine wskip ?_
                show AWp _ _ _ _ _
                refine wseq ?_
                refine wreg fun K hK => ?_
                simp [C.laws_FnExactNumeratorOf, fO]
                refine hK _ ?_; clear hK K
                show AWp _ _ _ _ _
                refine wseq ?_
                refine wregI ([0, 1, 2] ++ ([3])) rfl fun K hK => ?_
                refine opsI_seg fun L hL => ?_
                simp [C.laws_FnExactNumeratorOf, fO]
                refine wcall1 (laws_heldLaurent_calls g.v g.ts 1 (by omega) (by omega) (by omega)) (by simp) (by simp) ?_
                simp [C.laws_FnExactNumeratorOf, fO]
                refine hL _ ?_; clear hL L
                refine opsI_end fun L hL => ?_
                simp [C.laws_FnExactNumeratorOf, fO]
                refine hL _ ?_; clear hL L
                simp [C.laws_FnExactNumeratorOf, fO]
                refine hK _ ?_; clear hK K
                show AWp _ _ _ _ _
                refine wseq ?_
                refine wseq ?_
                refine wreg fun K hK => ?_
                simp [C.laws_FnExactNumeratorOf, fO]
                refine hK _ ?_; clear hK K
                show AWp _ _ _ _ _
                refine wcond _ rfl (fun hc8 => ?_) (fun hc8 => ?_)
                · have := d_t hc8; omega
                · refine wskip ?_
                  show AWp _ _ _ _ _
                  refine wseq ?_
                  refine wseq ?_
                  refine wreg fun K hK => ?_
                  simp [C.laws_FnExactNumeratorOf, fO]
                  refine hK _ ?_; clear hK K
                  show AWp _ _ _ _ _
                  refine wcond _ rfl (fun hc9 => ?_) (fun hc9 => ?_)
                  · simp at hc9
                  · refine wskip ?_
                    show AWp _ _ _ _ _
                    refine wseq ?_
                    refine wreg fun K hK => ?_
                    simp [C.laws_FnExactNumeratorOf, fO]
                    refine hK _ ?_; clear hK K
                    show AWp _ _ _ _ _
                    refine wret ?_
                    simp [C.laws_FnExactNumeratorOf, fO]

end Go.Proofs.Ytdgeponcnlkaiaa.Ab
namespace Go.Proofs.Ytdgeponcnlkaiaa.Ab
open Go
theorem lawNum (f : Lau) (hx : f.ts.length < 4611686018427387904) (hxe : ∀ t ∈ f.ts, t.e.length < 4611686018427387904) : ACalls Try.prog F.laws_FnExactNumeratorOf [aF f] [] true (fun outs res => outs = [] ∧ res = [.one (D.bool true)]) := laws_FnExactNumeratorOf_calls mulOk f hx hxe
end Go.Proofs.Ytdgeponcnlkaiaa.Ab
