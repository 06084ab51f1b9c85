/- Seeds and sessions: what is equal, marks. No condition. -/
import Derived.Test.YtdgeponcnlkaiaaFnC
namespace Go.Proofs.Ytdgeponcnlkaiaa.Ab
open Go
set_option linter.unusedSimpArgs false
set_option linter.unusedVariables false
set_option maxRecDepth 10000
set_option maxHeartbeats 1000000
abbrev aM (m : Mat) : FV := .ag [.int m.n, .int m.r, .d (shI m.d)]
abbrev aS (s : Sed) : FV := .ag [.int s.m.n, .int s.m.r, .d (shI s.m.d), .d (.sh 2 s.f.length (rows fS s.f))]
abbrev aZ (z : Ses) : FV := .ag [.int z.a.n, .int z.a.r, .d (shI z.a.d), .d (shI z.k), .int z.s.m.n, .int z.s.m.r, .d (shI z.s.m.d), .d (.sh 2 z.s.f.length (rows fS z.s.f))]
theorem mat_eq {a b : Mat} : a = b ↔ a.n = b.n ∧ a.r = b.r ∧ a.d = b.d := by
  cases a; cases b; simp
theorem sed_eq {a b : Sed} : a = b ↔ a.m = b.m ∧ a.f = b.f := by
  cases a; cases b; simp
theorem ses_eq {a b : Ses} : a = b ↔ a.a = b.a ∧ a.k = b.k ∧ a.s = b.s := by
  cases a; cases b; simp
def SmF (f : Lau) : Prop := f.ts.length < 4611686018427387904 ∧ ∀ t ∈ f.ts, t.e.length < 4611686018427387904
def SmS (s : Sed) : Prop := s.m.d.length < 4611686018427387904 ∧ s.f.length < 4611686018427387904 ∧ ∀ f ∈ s.f, SmF f
def SmZ (z : Ses) : Prop := z.a.d.length < 4611686018427387904 ∧ z.k.length < 4611686018427387904 ∧ SmS z.s
theorem laws_eqMatrix_calls (a b : Mat) (hx : a.d.length < 4611686018427387904) : ACalls Try.prog F.laws_eqMatrix [aM a, aM b] [] true (fun outs res => outs = [] ∧ res = [.one (D.bool (decide (a = b)))]) := by
  refine ACalls.of_body (C := C.laws_eqMatrix) (n := Try.f78.ntmps) tabT folT Try.func78 rfl (by kernel_rfl) rfl (Nat.le_of_ble_eq_true rfl) (by decide) (by kernel_rfl) (by kernel_rfl) rfl (by simp) (by simp) ?_
  simp only [Try.f78]
  refine wseq ?_
  refine wreg fun K hK => ?_
  simp [C.laws_eqMatrix]
  refine hK _ ?_; clear hK K
  show AWp _ _ _ _ _
  refine wseq ?_
  refine wseq ?_
  refine wreg fun K hK => ?_
  simp [C.laws_eqMatrix]
  refine hK _ ?_; clear hK K
  show AWp _ _ _ _ _
  refine wcond _ rfl (fun hc1 => ?_) (fun hc1 => ?_)
  · refine wseq ?_
    refine wreg fun K hK => ?_
    simp [C.laws_eqMatrix]
    refine hK _ ?_; clear hK K
    show AWp _ _ _ _ _
    refine wret ?_
    simp at hc1
    simp [C.laws_eqMatrix, mat_eq, hc1]
  · refine wskip ?_
    show AWp _ _ _ _ _
    refine wseq ?_
    refine wseq ?_
    refine wreg fun K hK => ?_
    simp [C.laws_eqMatrix]
    refine hK _ ?_; clear hK K
    show AWp _ _ _ _ _
    refine wcond _ rfl (fun hc2 => ?_) (fun hc2 => ?_)
    · refine wseq ?_
      refine wreg fun K hK => ?_
      simp [C.laws_eqMatrix]
      refine hK _ ?_; clear hK K
      show AWp _ _ _ _ _
      refine wret ?_
      simp at hc2
      simp [C.laws_eqMatrix, mat_eq, hc2]
    · refine wskip ?_
      show AWp _ _ _ _ _
      refine wseq ?_
      refine wseq ?_
      refine wregI ([0, 1, 2, 3, 4] ++ ([5])) rfl fun K hK => ?_
      refine opsI_seg fun L hL => ?_
      simp [C.laws_eqMatrix]
      refine wcall1 (laws_eqIntS_calls a.d b.d hx) (by simp) (by simp) ?_
      simp [C.laws_eqMatrix]
      refine hL _ ?_; clear hL L
      refine opsI_end fun L hL => ?_
      simp [C.laws_eqMatrix]
      refine hL _ ?_; clear hL L
      simp [C.laws_eqMatrix]
      refine hK _ ?_; clear hK K
      show AWp _ _ _ _ _
      refine wcond _ rfl (fun hc3 => ?_) (fun hc3 => ?_)
      · refine wseq ?_
        refine wreg fun K hK => ?_
        simp [C.laws_eqMatrix]
        refine hK _ ?_; clear hK K
        show AWp _ _ _ _ _
        refine wret ?_
        simp at hc3
        simp [C.laws_eqMatrix, mat_eq, hc3]
      · refine wskip ?_
        show AWp _ _ _ _ _
        refine wseq ?_
        refine wreg fun K hK => ?_
        simp [C.laws_eqMatrix]
        refine hK _ ?_; clear hK K
        show AWp _ _ _ _ _
        refine wret ?_
        simp at hc1 hc2 hc3
        simp [C.laws_eqMatrix, mat_eq, hc1, hc2, hc3]

theorem laws_eqLaurentS_calls (xs ys : List Lau) (hx : xs.length < 4611686018427387904) (hx2 : ∀ t ∈ xs, SmF t) : ACalls Try.prog F.laws_eqLaurentS [.d (.sh 2 xs.length (rows fS xs)), .d (.sh 2 ys.length (rows fS ys))] [] true (fun outs res => outs = [] ∧ res = [.one (D.bool (decide (xs = ys)))]) := by
  refine ACalls.of_body (C := C.laws_eqLaurentS) (n := Try.f170.ntmps) tabT folT Try.func170 rfl (by kernel_rfl) rfl (Nat.le_of_ble_eq_true rfl) (by decide) (by kernel_rfl) (by kernel_rfl) rfl (by simp) (by simp) ?_
  simp only [Try.f170]
  refine wseq ?_
  refine wreg fun K hK => ?_
  simp [C.laws_eqLaurentS]
  refine hK _ ?_; clear hK K
  show AWp _ _ _ _ _
  refine wseq ?_
  refine wseq ?_
  refine wreg fun K hK => ?_
  simp [C.laws_eqLaurentS]
  refine hK _ ?_; clear hK K
  show AWp _ _ _ _ _
  refine wcond _ rfl (fun hc1 => ?_) (fun hc1 => ?_)
  · refine wseq ?_
    refine wreg fun K hK => ?_
    simp [C.laws_eqLaurentS]
    refine hK _ ?_; clear hK K
    show AWp _ _ _ _ _
    refine wret ?_
    simp at hc1
    simp [C.laws_eqLaurentS]
    intro e; simp [e] at hc1
  · refine wskip ?_
    show AWp _ _ _ _ _
    refine wseq ?_
    refine wseq ?_
    refine wreg fun K hK => ?_
    simp [C.laws_eqLaurentS]
    refine hK _ ?_; clear hK K
    show AWp _ _ _ _ _
    refine wblock ?_
    have e : xs.length = ys.length := by simp at hc1; omega
    refine wloop (fun k : Nat => ⟨ofL [(0, .d (.sh 2 xs.length (rows fS xs))), (1, .d (.sh 2 ys.length (rows fS ys))), (5, FV.int k)], ofRO []⟩) (fun k => k ≤ xs.length ∧ xs.take k = ys.take k) (fun k => xs.length - k) 0 (by simp [C.laws_eqLaurentS]) (by simp) ?_
    intro x1 hx1 R1 hR1
    obtain ⟨hk, ht⟩ := hx1
    refine wseq ?_
    refine wseq ?_
    refine wreg fun K hK => ?_
    simp [C.laws_eqLaurentS]
    refine hK _ ?_; clear hK K
    show AWp _ _ _ _ _
    refine wcond _ rfl (fun hc2 => ?_) (fun hc2 => ?_)
    · refine wskip ?_
      show AWp _ _ _ _ _
      refine wseq ?_
      refine wblock ?_
      refine wseq ?_
      have h1 : x1 < xs.length := by simpa using hc2
      have h2 : x1 < ys.length := by omega
      refine wdrawI [(true, 0), (true, 1), (true, 2), (true, 3), (true, 4), (true, 5), (true, 6), (true, 7), (false, 8), (true, 9)] ⟨by kernel_rfl, by kernel_rfl⟩ ([0, 1, 2, 3, 4, 5, 6, 7, 8] ++ ([9])) rfl fun K hK => ?_
      refine opsI_seg fun L hL => ?_
      simp [C.laws_eqLaurentS, h1, h2, fS_0 h1, fS_1 h1, fS_0 h2, fS_1 h2]
      refine wcall1 (laws_eqLaurent_calls xs[x1] ys[x1] (hx2 _ (List.getElem_mem h1)).1 (hx2 _ (List.getElem_mem h1)).2) (by simp) (by simp) ?_
      simp [C.laws_eqLaurentS, h1, h2, fS_0 h1, fS_1 h1, fS_0 h2, fS_1 h2]
      refine hL _ ?_; clear hL L
      refine opsI_end fun L hL => ?_
      simp [C.laws_eqLaurentS, h1, h2, fS_0 h1, fS_1 h1, fS_0 h2, fS_1 h2]
      refine hL _ ?_; clear hL L
      simp [C.laws_eqLaurentS, h1, h2, fS_0 h1, fS_1 h1, fS_0 h2, fS_1 h2]
      refine hK _ ?_; clear hK K
      show AWp _ _ _ _ _
      refine wcond _ rfl (fun hc3 => ?_) (fun hc3 => ?_)
      · refine wseq ?_
        refine wreg fun K hK => ?_
        simp [C.laws_eqLaurentS]
        refine hK _ ?_; clear hK K
        show AWp _ _ _ _ _
        refine wret ?_
        simp at hc3
        simp [C.laws_eqLaurentS]
        intro e; simp [e] at hc3
      · refine wskip ?_
        show AWp _ _ _ _ _
        refine wreg fun K hK => ?_
        simp [C.laws_eqLaurentS, wrap_succ (show x1 < 4611686018427387904 by omega)]
        refine hK _ ?_; clear hK K
        simp [C.laws_eqLaurentS]
        simp at hc3
        refine hR1 (x1 + 1) ⟨h1, ?_⟩ (by omega)
        rw [List.take_succ_eq_append_getElem h1, List.take_succ_eq_append_getElem h2, ht, hc3]
    · refine wexit ?_
      show AWp _ _ _ _ _
      refine wseq ?_
      refine wreg fun K hK => ?_
      simp [C.laws_eqLaurentS]
      refine hK _ ?_; clear hK K
      show AWp _ _ _ _ _
      refine wret ?_
      have hk2 : x1 = xs.length := by simp at hc2; omega
      simp [C.laws_eqLaurentS]
      rw [hk2, List.take_length, e, List.take_length] at ht
      exact ht

theorem laws_eqSeed_calls (a b : Sed) (hx : SmS a) : ACalls Try.prog F.laws_eqSeed [aS a, aS b] [] true (fun outs res => outs = [] ∧ res = [.one (D.bool (decide (a = b)))]) := by
  refine ACalls.of_body (C := C.laws_eqSeed) (n := Try.f80.ntmps) tabT folT Try.func80 rfl (by kernel_rfl) rfl (Nat.le_of_ble_eq_true rfl) (by decide) (by kernel_rfl) (by kernel_rfl) rfl (by simp) (by simp) ?_
  simp only [Try.f80]
  refine wseq ?_
  refine wreg fun K hK => ?_
  simp [C.laws_eqSeed]
  refine hK _ ?_; clear hK K
  show AWp _ _ _ _ _
  refine wseq ?_
  refine wseq ?_
  refine wregI ([0, 1, 2, 3, 4] ++ ([5])) rfl fun K hK => ?_
  refine opsI_seg fun L hL => ?_
  simp [C.laws_eqSeed]
  refine wcall1 (laws_eqMatrix_calls a.m b.m hx.1) (by simp) (by simp) ?_
  simp [C.laws_eqSeed]
  refine hL _ ?_; clear hL L
  refine opsI_end fun L hL => ?_
  simp [C.laws_eqSeed]
  refine hL _ ?_; clear hL L
  simp [C.laws_eqSeed]
  refine hK _ ?_; clear hK K
  show AWp _ _ _ _ _
  refine wcond _ rfl (fun hc1 => ?_) (fun hc1 => ?_)
  · refine wseq ?_
    refine wreg fun K hK => ?_
    simp [C.laws_eqSeed]
    refine hK _ ?_; clear hK K
    show AWp _ _ _ _ _
    refine wret ?_
    simp at hc1
    simp [C.laws_eqSeed, sed_eq, hc1]
  · refine wskip ?_
    show AWp _ _ _ _ _
    refine wseq ?_
    refine wseq ?_
    refine wregI ([0, 1, 2, 3, 4] ++ ([5])) rfl fun K hK => ?_
    refine opsI_seg fun L hL => ?_
    simp [C.laws_eqSeed]
    refine wcall1 (laws_eqLaurentS_calls a.f b.f hx.2.1 hx.2.2) (by simp) (by simp) ?_
    simp [C.laws_eqSeed]
    refine hL _ ?_; clear hL L
    refine opsI_end fun L hL => ?_
    simp [C.laws_eqSeed]
    refine hL _ ?_; clear hL L
    simp [C.laws_eqSeed]
    refine hK _ ?_; clear hK K
    show AWp _ _ _ _ _
    refine wcond _ rfl (fun hc2 => ?_) (fun hc2 => ?_)
    · refine wseq ?_
      refine wreg fun K hK => ?_
      simp [C.laws_eqSeed]
      refine hK _ ?_; clear hK K
      show AWp _ _ _ _ _
      refine wret ?_
      simp at hc2
      simp [C.laws_eqSeed, sed_eq, hc2]
    · refine wskip ?_
      show AWp _ _ _ _ _
      refine wseq ?_
      refine wreg fun K hK => ?_
      simp [C.laws_eqSeed]
      refine hK _ ?_; clear hK K
      show AWp _ _ _ _ _
      refine wret ?_
      simp at hc1 hc2
      simp [C.laws_eqSeed, sed_eq, hc1, hc2]

theorem laws_eqSession_calls (a b : Ses) (hx : SmZ a) : ACalls Try.prog F.laws_eqSession [aZ a, aZ b] [] true (fun outs res => outs = [] ∧ res = [.one (D.bool (decide (a = b)))]) := by
  refine ACalls.of_body (C := C.laws_eqSession) (n := Try.f17.ntmps) tabT folT Try.func17 rfl (by kernel_rfl) rfl (Nat.le_of_ble_eq_true rfl) (by decide) (by kernel_rfl) (by kernel_rfl) rfl (by simp) (by simp) ?_
  simp only [Try.f17]
  refine wseq ?_
  refine wreg fun K hK => ?_
  simp [C.laws_eqSession]
  refine hK _ ?_; clear hK K
  show AWp _ _ _ _ _
  refine wseq ?_
  refine wseq ?_
  refine wregI ([0, 1, 2, 3, 4] ++ ([5])) rfl fun K hK => ?_
  refine opsI_seg fun L hL => ?_
  simp [C.laws_eqSession]
  refine wcall1 (laws_eqMatrix_calls a.a b.a hx.1) (by simp) (by simp) ?_
  simp [C.laws_eqSession]
  refine hL _ ?_; clear hL L
  refine opsI_end fun L hL => ?_
  simp [C.laws_eqSession]
  refine hL _ ?_; clear hL L
  simp [C.laws_eqSession]
  refine hK _ ?_; clear hK K
  show AWp _ _ _ _ _
  refine wcond _ rfl (fun hc1 => ?_) (fun hc1 => ?_)
  · refine wseq ?_
    refine wreg fun K hK => ?_
    simp [C.laws_eqSession]
    refine hK _ ?_; clear hK K
    show AWp _ _ _ _ _
    refine wret ?_
    simp at hc1
    simp [C.laws_eqSession, ses_eq, hc1]
  · refine wskip ?_
    show AWp _ _ _ _ _
    refine wseq ?_
    refine wseq ?_
    refine wregI ([0, 1, 2, 3, 4] ++ ([5])) rfl fun K hK => ?_
    refine opsI_seg fun L hL => ?_
    simp [C.laws_eqSession]
    refine wcall1 (laws_eqIntS_calls a.k b.k hx.2.1) (by simp) (by simp) ?_
    simp [C.laws_eqSession]
    refine hL _ ?_; clear hL L
    refine opsI_end fun L hL => ?_
    simp [C.laws_eqSession]
    refine hL _ ?_; clear hL L
    simp [C.laws_eqSession]
    refine hK _ ?_; clear hK K
    show AWp _ _ _ _ _
    refine wcond _ rfl (fun hc2 => ?_) (fun hc2 => ?_)
    · refine wseq ?_
      refine wreg fun K hK => ?_
      simp [C.laws_eqSession]
      refine hK _ ?_; clear hK K
      show AWp _ _ _ _ _
      refine wret ?_
      simp at hc2
      simp [C.laws_eqSession, ses_eq, hc2]
    · refine wskip ?_
      show AWp _ _ _ _ _
      refine wseq ?_
      refine wseq ?_
      refine wregI ([0, 1, 2, 3, 4] ++ ([5])) rfl fun K hK => ?_
      refine opsI_seg fun L hL => ?_
      simp [C.laws_eqSession]
      refine wcall1 (laws_eqSeed_calls a.s b.s hx.2.2) (by simp) (by simp) ?_
      simp [C.laws_eqSession]
      refine hL _ ?_; clear hL L
      refine opsI_end fun L hL => ?_
      simp [C.laws_eqSession]
      refine hL _ ?_; clear hL L
      simp [C.laws_eqSession]
      refine hK _ ?_; clear hK K
      show AWp _ _ _ _ _
      refine wcond _ rfl (fun hc3 => ?_) (fun hc3 => ?_)
      · refine wseq ?_
        refine wreg fun K hK => ?_
        simp [C.laws_eqSession]
        refine hK _ ?_; clear hK K
        show AWp _ _ _ _ _
        refine wret ?_
        simp at hc3
        simp [C.laws_eqSession, ses_eq, hc3]
      · refine wskip ?_
        show AWp _ _ _ _ _
        refine wseq ?_
        refine wreg fun K hK => ?_
        simp [C.laws_eqSession]
        refine hK _ ?_; clear hK K
        show AWp _ _ _ _ _
        refine wret ?_
        simp at hc1 hc2 hc3
        simp [C.laws_eqSession, ses_eq, hc1, hc2, hc3]

theorem laws_markMatrix_calls (m : Mat) (k : Int) (hk0 : 0 ≤ k) (hk : k + m.d.length < 4611686018427387904) : ACalls Try.prog F.laws_markMatrix [.ag [.int m.n, .int m.r, .al (0, 2) [] 0 m.d.length], .int k] [((0, 2), owI m.d)] true (fun outs res => outs = [.ow 1 m.d.length (ints (marks k m.d.length))] ∧ res = [.one (D.int (k + m.d.length))]) := by
  refine ACalls.of_body (C := C.laws_markMatrix) (n := Try.f81.ntmps) tabT folT Try.func81 rfl (by kernel_rfl) rfl (Nat.le_of_ble_eq_true rfl) (by decide) (by kernel_rfl) (by kernel_rfl) rfl (by simp) (by simp) ?_
  simp only [Try.f81]
  refine wseq ?_
  refine wreg fun K hK => ?_
  simp [C.laws_markMatrix]
  refine hK _ ?_; clear hK K
  show AWp _ _ _ _ _
  refine wseq ?_
  refine wregI ([0, 1, 2, 3] ++ ([4])) rfl fun K hK => ?_
  refine opsI_seg fun L hL => ?_
  simp [C.laws_markMatrix, modify_const]
  refine wcall1 (laws_markIntS_calls m.d k hk0 hk) (by simp) (by simp) ?_
  simp [C.laws_markMatrix, modify_const]
  refine hL _ ?_; clear hL L
  refine opsI_end fun L hL => ?_
  simp [C.laws_markMatrix, modify_const]
  refine hL _ ?_; clear hL L
  simp [C.laws_markMatrix, modify_const]
  refine hK _ ?_; clear hK K
  show AWp _ _ _ _ _
  refine wseq ?_
  refine wreg fun K hK => ?_
  simp [C.laws_markMatrix]
  refine hK _ ?_; clear hK K
  show AWp _ _ _ _ _
  refine wret ?_
  simp [C.laws_markMatrix]

theorem laws_markLaurentS_calls (fs : List Lau) (k : Int) (hk0 : 0 ≤ k) (hk : k + cntL cntF fs < 4611686018427387904) (hx : fs.length < 4611686018427387904) (hx2 : ∀ f ∈ fs, SmF f) : ACalls Try.prog F.laws_markLaurentS [.al (0, 0) [] 0 fs.length, .int k] [((0, 0), .ow 2 fs.length (rows fO fs))] true (fun outs res => outs = [.ow 2 fs.length (rows fO (mkL cntF mkF fs k))] ∧ res = [.one (D.int (k + cntL cntF fs))]) := by
  refine ACalls.of_body (C := C.laws_markLaurentS) (n := Try.f171.ntmps) tabT folT Try.func171 rfl (by kernel_rfl) rfl (Nat.le_of_ble_eq_true rfl) (by decide) (by kernel_rfl) (by kernel_rfl) rfl (by simp) (by simp) ?_
  simp only [Try.f171]
  refine wseq ?_
  refine wreg fun K hK => ?_
  simp [C.laws_markLaurentS]
  refine hK _ ?_; clear hK K
  show AWp _ _ _ _ _
  refine wseq ?_
  refine wseq ?_
  refine wreg fun K hK => ?_
  simp [C.laws_markLaurentS]
  refine hK _ ?_; clear hK K
  show AWp _ _ _ _ _
  refine wblock ?_
  refine wloop (fun x : Nat × List Lau × Int => ⟨ofL [(0, .al (0, 0) [] 0 fs.length), (1, .int x.2.2), (5, .int x.1), (1000, .al (0, 0) [] 0 fs.length)], ofRO [((0, 0), some (.ow 2 fs.length (rows fO x.2.1)))]⟩) (fun x => x.1 ≤ fs.length ∧ x.2.1 = mkL cntF mkF (fs.take x.1) k ++ fs.drop x.1 ∧ x.2.2 = k + cntL cntF (fs.take x.1)) (fun x => fs.length - x.1) (0, fs, k) (by simp [C.laws_markLaurentS]) (by simp [mkL, cntL]) ?_
  intro x1 hx1 R1 hR1
  obtain ⟨j, gs, kk⟩ := x1
  obtain ⟨h0, hg, he⟩ := hx1
  dsimp only at h0 hg he ⊢
  refine wseq ?_
  refine wseq ?_
  refine wreg fun K hK => ?_
  simp [C.laws_markLaurentS]
  refine hK _ ?_; clear hK K
  show AWp _ _ _ _ _
  refine wcond _ rfl (fun hc1 => ?_) (fun hc1 => ?_)
  · refine wskip ?_
    show AWp _ _ _ _ _
    refine wseq ?_
    refine wblock ?_
    refine wseq ?_
    have h1 : j < fs.length := by simpa using hc1
    have hl : gs.length = fs.length := by rw [hg]; simp; omega
    have h2 : j < gs.length := by omega
    have hge : gs[j] = fs[j] := by
      have := mkL_get2 cntF mkF fs k j h1
      rw [← hg, List.getElem?_eq_getElem h2] at this
      injection this
    have hb := cntL_le1 cntF fs j h1
    have hcj : cntF fs[j] = 1 + cntL cntT fs[j].ts := rfl
    refine wreg fun K hK => ?_
    simp [C.laws_markLaurentS, hl, h1, h2, hge, fO_0 h2, fO_1 h2]
    refine hK _ ?_; clear hK K
    show AWp _ _ _ _ _
    refine wseq ?_
    refine wreg fun K hK => ?_
    simp [C.laws_markLaurentS]
    rw [wrapOk (x := kk + 1) (by omega) (by omega)]
    refine hK _ ?_; clear hK K
    show AWp _ _ _ _ _
    refine wregI ([0, 1, 2, 3, 4, 5, 6] ++ ([7])) rfl fun K hK => ?_
    refine opsI_seg fun L hL => ?_
    simp [C.laws_markLaurentS, hl, h1, h2, hge, fO_0 h2, fO_1 h2, modify_const]
    refine wcall1 (laws_markTermS_calls fs[j].ts (kk + 1) (by omega) (by omega) (hx2 _ (List.getElem_mem h1)).1) (by simp) (by simp) ?_
    simp [C.laws_markLaurentS, hl, h1, h2, hge, fO_0 h2, fO_1 h2, modify_const]
    refine hL _ ?_; clear hL L
    refine opsI_end fun L hL => ?_
    simp [C.laws_markLaurentS, hl, h1, h2, hge, fO_0 h2, fO_1 h2, modify_const]
    refine hL _ ?_; clear hL L
    simp [C.laws_markLaurentS, hl, h1, h2, hge, fO_0 h2, fO_1 h2, modify_const]
    refine hK _ ?_; clear hK K
    show AWp _ _ _ _ _
    refine wreg fun K hK => ?_
    simp [C.laws_markLaurentS, wrap_succ (show j < 4611686018427387904 by omega)]
    refine hK _ ?_; clear hK K
    simp [C.laws_markLaurentS]
    rw [fO_set2 h2 _ _ (by simp)]
    refine hR1 (j + 1, _, _) ⟨h1, ?_, ?_⟩ (by dsimp only; omega)
    · dsimp only
      rw [hg, he]
      exact mkL_step cntF mkF fs k j h1
    · dsimp only
      rw [cntL_step _ _ _ h1]
      omega
  · refine wexit ?_
    show AWp _ _ _ _ _
    refine wseq ?_
    refine wreg fun K hK => ?_
    simp [C.laws_markLaurentS]
    refine hK _ ?_; clear hK K
    show AWp _ _ _ _ _
    refine wret ?_
    have hj2 : j = fs.length := by simp at hc1; omega
    simp [C.laws_markLaurentS, hj2, hg, he]

theorem laws_markSeed_calls (s : Sed) (k : Int) (hk0 : 0 ≤ k) (hk : k + cntS s < 4611686018427387904) (hx : SmS s) : ACalls Try.prog F.laws_markSeed [.ag [.int s.m.n, .int s.m.r, .al (0, 2) [] 0 s.m.d.length, .al (0, 3) [] 0 s.f.length], .int k] [((0, 2), owI s.m.d), ((0, 3), .ow 2 s.f.length (rows fO s.f))] true (fun outs res => outs = [.ow 1 s.m.d.length (ints (marks k s.m.d.length)), .ow 2 s.f.length (rows fO (mkL cntF mkF s.f (k + s.m.d.length)))] ∧ res = [.one (D.int (k + cntS s))]) := by
  refine ACalls.of_body (C := C.laws_markSeed) (n := Try.f83.ntmps) tabT folT Try.func83 rfl (by kernel_rfl) rfl (Nat.le_of_ble_eq_true rfl) (by decide) (by kernel_rfl) (by kernel_rfl) rfl (by simp) (by simp) ?_
  simp only [Try.f83]
  refine wseq ?_
  refine wreg fun K hK => ?_
  simp [C.laws_markSeed]
  refine hK _ ?_; clear hK K
  show AWp _ _ _ _ _
  refine wseq ?_
  have hcs : cntS s = s.m.d.length + cntL cntF s.f := rfl
  refine wregI ([0, 1, 2, 3] ++ ([4])) rfl fun K hK => ?_
  refine opsI_seg fun L hL => ?_
  simp [C.laws_markSeed, modify_const]
  refine wcall1 (laws_markMatrix_calls s.m k hk0 (by omega)) (by simp) (by simp) ?_
  simp [C.laws_markSeed, modify_const]
  refine hL _ ?_; clear hL L
  refine opsI_end fun L hL => ?_
  simp [C.laws_markSeed, modify_const]
  refine hL _ ?_; clear hL L
  simp [C.laws_markSeed, modify_const]
  refine hK _ ?_; clear hK K
  show AWp _ _ _ _ _
  refine wseq ?_
  refine wregI ([0, 1, 2, 3] ++ ([4])) rfl fun K hK => ?_
  refine opsI_seg fun L hL => ?_
  simp [C.laws_markSeed, modify_const]
  refine wcall1 (laws_markLaurentS_calls s.f (k + s.m.d.length) (by omega) (by omega) hx.2.1 hx.2.2) (by simp) (by simp) ?_
  simp [C.laws_markSeed, modify_const]
  refine hL _ ?_; clear hL L
  refine opsI_end fun L hL => ?_
  simp [C.laws_markSeed, modify_const]
  refine hL _ ?_; clear hL L
  simp [C.laws_markSeed, modify_const]
  refine hK _ ?_; clear hK K
  show AWp _ _ _ _ _
  refine wseq ?_
  refine wreg fun K hK => ?_
  simp [C.laws_markSeed]
  refine hK _ ?_; clear hK K
  show AWp _ _ _ _ _
  refine wret ?_
  simp [C.laws_markSeed]
  omega

theorem laws_markSession_calls (z : Ses) (k : Int) (hk0 : 0 ≤ k) (hk : k + cntZ z < 4611686018427387904) (hx : SmZ z) : ACalls Try.prog F.laws_markSession [.ag [.int z.a.n, .int z.a.r, .al (0, 2) [] 0 z.a.d.length, .al (0, 3) [] 0 z.k.length, .int z.s.m.n, .int z.s.m.r, .al (0, 6) [] 0 z.s.m.d.length, .al (0, 7) [] 0 z.s.f.length], .int k] [((0, 2), owI z.a.d), ((0, 3), owI z.k), ((0, 6), owI z.s.m.d), ((0, 7), .ow 2 z.s.f.length (rows fO z.s.f))] true (fun outs res => outs = [.ow 1 z.a.d.length (ints (marks k z.a.d.length)), .ow 1 z.k.length (ints (marks (k + z.a.d.length) z.k.length)), .ow 1 z.s.m.d.length (ints (marks (k + z.a.d.length + z.k.length) z.s.m.d.length)), .ow 2 z.s.f.length (rows fO (mkL cntF mkF z.s.f (k + z.a.d.length + z.k.length + z.s.m.d.length)))] ∧ res = [.one (D.int (k + cntZ z))]) := by
  refine ACalls.of_body (C := C.laws_markSession) (n := Try.f18.ntmps) tabT folT Try.func18 rfl (by kernel_rfl) rfl (Nat.le_of_ble_eq_true rfl) (by decide) (by kernel_rfl) (by kernel_rfl) rfl (by simp) (by simp) ?_
  simp only [Try.f18]
  refine wseq ?_
  refine wreg fun K hK => ?_
  simp [C.laws_markSession]
  refine hK _ ?_; clear hK K
  show AWp _ _ _ _ _
  refine wseq ?_
  have hcz : cntZ z = z.a.d.length + z.k.length + cntS z.s := rfl
  refine wregI ([0, 1, 2, 3] ++ ([4])) rfl fun K hK => ?_
  refine opsI_seg fun L hL => ?_
  simp [C.laws_markSession]
  refine wcall1 (laws_markMatrix_calls z.a k hk0 (by omega)) (by simp) (by simp) ?_
  simp [C.laws_markSession]
  refine hL _ ?_; clear hL L
  refine opsI_end fun L hL => ?_
  simp [C.laws_markSession]
  refine hL _ ?_; clear hL L
  simp [C.laws_markSession]
  refine hK _ ?_; clear hK K
  show AWp _ _ _ _ _
  refine wseq ?_
  refine wregI ([0, 1, 2, 3] ++ ([4])) rfl fun K hK => ?_
  refine opsI_seg fun L hL => ?_
  simp [C.laws_markSession]
  refine wcall1 (laws_markIntS_calls z.k (k + z.a.d.length) (by omega) (by omega)) (by simp) (by simp) ?_
  simp [C.laws_markSession]
  refine hL _ ?_; clear hL L
  refine opsI_end fun L hL => ?_
  simp [C.laws_markSession]
  refine hL _ ?_; clear hL L
  simp [C.laws_markSession]
  refine hK _ ?_; clear hK K
  show AWp _ _ _ _ _
  refine wseq ?_
  refine wregI ([0, 1, 2, 3] ++ ([4])) rfl fun K hK => ?_
  refine opsI_seg fun L hL => ?_
  simp [C.laws_markSession]
  refine wcall1 (laws_markSeed_calls z.s (k + z.a.d.length + z.k.length) (by omega) (by omega) hx.2.2) (by simp) (by simp) ?_
  simp [C.laws_markSession]
  refine hL _ ?_; clear hL L
  refine opsI_end fun L hL => ?_
  simp [C.laws_markSession]
  refine hL _ ?_; clear hL L
  simp [C.laws_markSession]
  refine hK _ ?_; clear hK K
  show AWp _ _ _ _ _
  refine wseq ?_
  refine wreg fun K hK => ?_
  simp [C.laws_markSession]
  refine hK _ ?_; clear hK K
  show AWp _ _ _ _ _
  refine wret ?_
  simp [C.laws_markSession]
  omega

theorem laws_heldMatrix_calls (n r : Int) (l : Nat) (k : Int) (hk0 : 0 ≤ k) (hk : k + l < 4611686018427387904) : ACalls Try.prog F.laws_heldMatrix [.ag [.int n, .int r, .d (.sh 1 l (ints (marks k l)))], .int k] [] true (fun outs res => outs = [] ∧ res = [.one (D.int (k + l))]) := by
  refine ACalls.of_body (C := C.laws_heldMatrix) (n := Try.f84.ntmps) tabT folT Try.func84 rfl (by kernel_rfl) rfl (Nat.le_of_ble_eq_true rfl) (by decide) (by kernel_rfl) (by kernel_rfl) rfl (by simp) (by simp) ?_
  simp only [Try.f84]
  refine wseq ?_
  refine wreg fun K hK => ?_
  simp [C.laws_heldMatrix]
  refine hK _ ?_; clear hK K
  show AWp _ _ _ _ _
  refine wseq ?_
  refine wregI ([0, 1, 2, 3] ++ ([4])) rfl fun K hK => ?_
  refine opsI_seg fun L hL => ?_
  simp [C.laws_heldMatrix]
  refine wcall1 (laws_heldIntS_calls l k hk0 hk) (by simp) (by simp) ?_
  simp [C.laws_heldMatrix]
  refine hL _ ?_; clear hL L
  refine opsI_end fun L hL => ?_
  simp [C.laws_heldMatrix]
  refine hL _ ?_; clear hL L
  simp [C.laws_heldMatrix]
  refine hK _ ?_; clear hK K
  show AWp _ _ _ _ _
  refine wseq ?_
  refine wseq ?_
  refine wreg fun K hK => ?_
  simp [C.laws_heldMatrix]
  refine hK _ ?_; clear hK K
  show AWp _ _ _ _ _
  refine wcond _ rfl (fun hc1 => ?_) (fun hc1 => ?_)
  · simp at hc1; omega
  · refine wskip ?_
    show AWp _ _ _ _ _
    refine wseq ?_
    refine wreg fun K hK => ?_
    simp [C.laws_heldMatrix]
    refine hK _ ?_; clear hK K
    show AWp _ _ _ _ _
    refine wret ?_
    simp [C.laws_heldMatrix]

theorem laws_heldLaurentS_calls (fs : List Lau) (k : Int) (hk0 : 0 ≤ k) (hk : k + cntL cntF fs < 4611686018427387904) (hx : fs.length < 4611686018427387904) (hx2 : ∀ f ∈ fs, SmF f) : ACalls Try.prog F.laws_heldLaurentS [.d (.sh 2 fs.length (rows fS (mkL cntF mkF fs k))), .int k] [] true (fun outs res => outs = [] ∧ res = [.one (D.int (k + cntL cntF fs))]) := by
  refine ACalls.of_body (C := C.laws_heldLaurentS) (n := Try.f172.ntmps) tabT folT Try.func172 rfl (by kernel_rfl) rfl (Nat.le_of_ble_eq_true rfl) (by decide) (by kernel_rfl) (by kernel_rfl) rfl (by simp) (by simp) ?_
  simp only [Try.f172]
  refine wseq ?_
  refine wreg fun K hK => ?_
  simp [C.laws_heldLaurentS]
  refine hK _ ?_; clear hK K
  show AWp _ _ _ _ _
  refine wseq ?_
  refine wseq ?_
  refine wreg fun K hK => ?_
  simp [C.laws_heldLaurentS]
  refine hK _ ?_; clear hK K
  show AWp _ _ _ _ _
  refine wblock ?_
  refine wloop (fun x : Nat × Int => ⟨ofL [(0, .d (.sh 2 fs.length (rows fS (mkL cntF mkF fs k)))), (1, .int x.2), (5, .int x.1)], ofRO []⟩) (fun x => x.1 ≤ fs.length ∧ x.2 = k + cntL cntF (fs.take x.1)) (fun x => fs.length - x.1) (0, k) (by simp [C.laws_heldLaurentS]) (by simp [cntL]) ?_
  intro x1 hx1 R1 hR1
  obtain ⟨j, kk⟩ := x1
  obtain ⟨h0, he⟩ := hx1
  dsimp only at h0 he ⊢
  refine wseq ?_
  refine wseq ?_
  refine wreg fun K hK => ?_
  simp [C.laws_heldLaurentS]
  refine hK _ ?_; clear hK K
  show AWp _ _ _ _ _
  refine wcond _ rfl (fun hc1 => ?_) (fun hc1 => ?_)
  · refine wskip ?_
    show AWp _ _ _ _ _
    refine wseq ?_
    refine wblock ?_
    refine wseq ?_
    refine wseq ?_
    have h1 : j < fs.length := by simpa using hc1
    have h2 : j < (mkL cntF mkF fs k).length := by simpa using h1
    have hge : (mkL cntF mkF fs k)[j] = ⟨kk, mkL cntT mkT fs[j].ts (kk + 1)⟩ := by
      rw [mkL_get1 _ _ _ _ _ h1, he]
      rfl
    have hb := cntL_le1 cntF fs j h1
    have hcj : cntF fs[j] = 1 + cntL cntT fs[j].ts := rfl
    refine wreg fun K hK => ?_
    simp [C.laws_heldLaurentS, h1, h2, hge, fS_0 h2, fS_1 h2]
    refine hK _ ?_; clear hK K
    show AWp _ _ _ _ _
    refine wcond _ rfl (fun hc2 => ?_) (fun hc2 => ?_)
    · simp at hc2
    · refine wskip ?_
      show AWp _ _ _ _ _
      refine wseq ?_
      refine wreg fun K hK => ?_
      simp [C.laws_heldLaurentS]
      rw [wrapOk (x := kk + 1) (by omega) (by omega)]
      refine hK _ ?_; clear hK K
      show AWp _ _ _ _ _
      refine wseq ?_
      refine wregI ([0, 1, 2, 3, 4, 5, 6] ++ ([7])) rfl fun K hK => ?_
      refine opsI_seg fun L hL => ?_
      simp [C.laws_heldLaurentS, h1, h2, hge, fS_0 h2, fS_1 h2]
      refine wcall1 (laws_heldTermS_calls fs[j].ts (kk + 1) (by omega) (by omega) (hx2 _ (List.getElem_mem h1)).1) (by simp) (by simp) ?_
      simp [C.laws_heldLaurentS, h1, h2, hge, fS_0 h2, fS_1 h2]
      refine hL _ ?_; clear hL L
      refine opsI_end fun L hL => ?_
      simp [C.laws_heldLaurentS, h1, h2, hge, fS_0 h2, fS_1 h2]
      refine hL _ ?_; clear hL L
      simp [C.laws_heldLaurentS, h1, h2, hge, fS_0 h2, fS_1 h2]
      refine hK _ ?_; clear hK K
      show AWp _ _ _ _ _
      refine wseq ?_
      refine wreg fun K hK => ?_
      simp [C.laws_heldLaurentS]
      refine hK _ ?_; clear hK K
      show AWp _ _ _ _ _
      refine wcond _ rfl (fun hc3 => ?_) (fun hc3 => ?_)
      · simp at hc3; omega
      · refine wskip ?_
        show AWp _ _ _ _ _
        refine wreg fun K hK => ?_
        simp [C.laws_heldLaurentS, wrap_succ (show j < 4611686018427387904 by omega)]
        refine hK _ ?_; clear hK K
        simp [C.laws_heldLaurentS]
        refine hR1 (j + 1, _) ⟨h1, ?_⟩ (by dsimp only; omega)
        dsimp only
        rw [cntL_step _ _ _ h1]
        omega
  · refine wexit ?_
    show AWp _ _ _ _ _
    refine wseq ?_
    refine wreg fun K hK => ?_
    simp [C.laws_heldLaurentS]
    refine hK _ ?_; clear hK K
    show AWp _ _ _ _ _
    refine wret ?_
    have hj2 : j = fs.length := by simp at hc1; omega
    simp [C.laws_heldLaurentS, hj2, he]

theorem laws_heldSeed_calls (s : Sed) (n r : Int) (k : Int) (hk0 : 0 ≤ k) (hk : k + cntS s < 4611686018427387904) (hx : SmS s) : ACalls Try.prog F.laws_heldSeed [.ag [.int n, .int r, .d (.sh 1 s.m.d.length (ints (marks k s.m.d.length))), .d (.sh 2 s.f.length (rows fS (mkL cntF mkF s.f (k + s.m.d.length))))], .int k] [] true (fun outs res => outs = [] ∧ res = [.one (D.int (k + cntS s))]) := by
  refine ACalls.of_body (C := C.laws_heldSeed) (n := Try.f86.ntmps) tabT folT Try.func86 rfl (by kernel_rfl) rfl (Nat.le_of_ble_eq_true rfl) (by decide) (by kernel_rfl) (by kernel_rfl) rfl (by simp) (by simp) ?_
  simp only [Try.f86]
  refine wseq ?_
  refine wreg fun K hK => ?_
  simp [C.laws_heldSeed]
  refine hK _ ?_; clear hK K
  show AWp _ _ _ _ _
  refine wseq ?_
  have hcs : cntS s = s.m.d.length + cntL cntF s.f := rfl
  refine wregI ([0, 1, 2, 3] ++ ([4])) rfl fun K hK => ?_
  refine opsI_seg fun L hL => ?_
  simp [C.laws_heldSeed]
  refine wcall1 (laws_heldMatrix_calls n r s.m.d.length k hk0 (by omega)) (by simp) (by simp) ?_
  simp [C.laws_heldSeed]
  refine hL _ ?_; clear hL L
  refine opsI_end fun L hL => ?_
  simp [C.laws_heldSeed]
  refine hL _ ?_; clear hL L
  simp [C.laws_heldSeed]
  refine hK _ ?_; clear hK K
  show AWp _ _ _ _ _
  refine wseq ?_
  refine wseq ?_
  refine wreg fun K hK => ?_
  simp [C.laws_heldSeed]
  refine hK _ ?_; clear hK K
  show AWp _ _ _ _ _
  refine wcond _ rfl (fun hc1 => ?_) (fun hc1 => ?_)
  · simp at hc1; omega
  · refine wskip ?_
    show AWp _ _ _ _ _
    refine wseq ?_
    refine wregI ([0, 1, 2, 3] ++ ([4])) rfl fun K hK => ?_
    refine opsI_seg fun L hL => ?_
    simp [C.laws_heldSeed]
    refine wcall1 (laws_heldLaurentS_calls s.f (k + s.m.d.length) (by omega) (by omega) hx.2.1 hx.2.2) (by simp) (by simp) ?_
    simp [C.laws_heldSeed]
    refine hL _ ?_; clear hL L
    refine opsI_end fun L hL => ?_
    simp [C.laws_heldSeed]
    refine hL _ ?_; clear hL L
    simp [C.laws_heldSeed]
    refine hK _ ?_; clear hK K
    show AWp _ _ _ _ _
    refine wseq ?_
    refine wseq ?_
    refine wreg fun K hK => ?_
    simp [C.laws_heldSeed]
    refine hK _ ?_; clear hK K
    show AWp _ _ _ _ _
    refine wcond _ rfl (fun hc2 => ?_) (fun hc2 => ?_)
    · simp at hc2; omega
    · refine wskip ?_
      show AWp _ _ _ _ _
      refine wseq ?_
      refine wreg fun K hK => ?_
      simp [C.laws_heldSeed]
      refine hK _ ?_; clear hK K
      show AWp _ _ _ _ _
      refine wret ?_
      simp [C.laws_heldSeed]
      omega

theorem laws_heldSession_calls (z : Ses) (n r n2 r2 : Int) (k : Int) (hk0 : 0 ≤ k) (hk : k + cntZ z < 4611686018427387904) (hx : SmZ z) : ACalls Try.prog F.laws_heldSession [.ag [.int n, .int r, .d (.sh 1 z.a.d.length (ints (marks k z.a.d.length))), .d (.sh 1 z.k.length (ints (marks (k + z.a.d.length) z.k.length))), .int n2, .int r2, .d (.sh 1 z.s.m.d.length (ints (marks (k + z.a.d.length + z.k.length) z.s.m.d.length))), .d (.sh 2 z.s.f.length (rows fS (mkL cntF mkF z.s.f (k + z.a.d.length + z.k.length + z.s.m.d.length))))], .int k] [] true (fun outs res => outs = [] ∧ res = [.one (D.int (k + cntZ z))]) := by
  refine ACalls.of_body (C := C.laws_heldSession) (n := Try.f19.ntmps) tabT folT Try.func19 rfl (by kernel_rfl) rfl (Nat.le_of_ble_eq_true rfl) (by decide) (by kernel_rfl) (by kernel_rfl) rfl (by simp) (by simp) ?_
  simp only [Try.f19]
  refine wseq ?_
  refine wreg fun K hK => ?_
  simp [C.laws_heldSession]
  refine hK _ ?_; clear hK K
  show AWp _ _ _ _ _
  refine wseq ?_
  have hcz : cntZ z = z.a.d.length + z.k.length + cntS z.s := rfl
  refine wregI ([0, 1, 2, 3] ++ ([4])) rfl fun K hK => ?_
  refine opsI_seg fun L hL => ?_
  simp [C.laws_heldSession]
  refine wcall1 (laws_heldMatrix_calls n r z.a.d.length k hk0 (by omega)) (by simp) (by simp) ?_
  simp [C.laws_heldSession]
  refine hL _ ?_; clear hL L
  refine opsI_end fun L hL => ?_
  simp [C.laws_heldSession]
  refine hL _ ?_; clear hL L
  simp [C.laws_heldSession]
  refine hK _ ?_; clear hK K
  show AWp _ _ _ _ _
  refine wseq ?_
  refine wseq ?_
  refine wreg fun K hK => ?_
  simp [C.laws_heldSession]
  refine hK _ ?_; clear hK K
  show AWp _ _ _ _ _
  refine wcond _ rfl (fun hc1 => ?_) (fun hc1 => ?_)
  · simp at hc1; omega
  · refine wskip ?_
    show AWp _ _ _ _ _
    refine wseq ?_
    refine wregI ([0, 1, 2, 3] ++ ([4])) rfl fun K hK => ?_
    refine opsI_seg fun L hL => ?_
    simp [C.laws_heldSession]
    refine wcall1 (laws_heldIntS_calls z.k.length (k + z.a.d.length) (by omega) (by omega)) (by simp) (by simp) ?_
    simp [C.laws_heldSession]
    refine hL _ ?_; clear hL L
    refine opsI_end fun L hL => ?_
    simp [C.laws_heldSession]
    refine hL _ ?_; clear hL L
    simp [C.laws_heldSession]
    refine hK _ ?_; clear hK K
    show AWp _ _ _ _ _
    refine wseq ?_
    refine wseq ?_
    refine wreg fun K hK => ?_
    simp [C.laws_heldSession]
    refine hK _ ?_; clear hK K
    show AWp _ _ _ _ _
    refine wcond _ rfl (fun hc2 => ?_) (fun hc2 => ?_)
    · simp at hc2; omega
    · refine wskip ?_
      show AWp _ _ _ _ _
      refine wseq ?_
      refine wregI ([0, 1, 2, 3] ++ ([4])) rfl fun K hK => ?_
      refine opsI_seg fun L hL => ?_
      simp [C.laws_heldSession]
      refine wcall1 (laws_heldSeed_calls z.s n2 r2 (k + z.a.d.length + z.k.length) (by omega) (by omega) hx.2.2) (by simp) (by simp) ?_
      simp [C.laws_heldSession]
      refine hL _ ?_; clear hL L
      refine opsI_end fun L hL => ?_
      simp [C.laws_heldSession]
      refine hL _ ?_; clear hL L
      simp [C.laws_heldSession]
      refine hK _ ?_; clear hK K
      show AWp _ _ _ _ _
      refine wseq ?_
      refine wseq ?_
      refine wreg fun K hK => ?_
      simp [C.laws_heldSession]
      refine hK _ ?_; clear hK K
      show AWp _ _ _ _ _
      refine wcond _ rfl (fun hc3 => ?_) (fun hc3 => ?_)
      · simp at hc3; omega
      · refine wskip ?_
        show AWp _ _ _ _ _
        refine wseq ?_
        refine wreg fun K hK => ?_
        simp [C.laws_heldSession]
        refine hK _ ?_; clear hK K
        show AWp _ _ _ _ _
        refine wret ?_
        simp [C.laws_heldSession]
        omega

end Go.Proofs.Ytdgeponcnlkaiaa.Ab
