/- Sums: their size, copies, what is equal, marks. No condition. -/
import Derived.Test.YtdgeponcnlkaiaaFnB
namespace Go.Proofs.Ytdgeponcnlkaiaa.Ab
open Go
set_option linter.unusedSimpArgs false
set_option linter.unusedVariables false
set_option maxRecDepth 10000
abbrev aT (t : Trm) : FV := .ag [.d (shI t.e), .int t.c]
abbrev aF (f : Lau) : FV := .ag [.int f.v, .d (.sh 2 f.ts.length (rows tS f.ts))]
theorem trm_eq {a b : Trm} : a = b ↔ a.e = b.e ∧ a.c = b.c := by
  cases a; cases b; simp
theorem lau_eq {a b : Lau} : a = b ↔ a.v = b.v ∧ a.ts = b.ts := by
  cases a; cases b; simp
theorem laws_szIntS_calls (xs : List Int) (left : Int) (h0 : 0 ≤ left) (h1 : left ≤ 1048576) (hx : xs.length < 4611686018427387904) : ACalls Try.prog F.laws_szIntS [.d (shI xs), .int left] [] true (fun outs res => outs = [] ∧ ∃ r : Int, res = [.one (D.int r)] ∧ (r = -1 ∨ (0 ≤ r ∧ r + xs.length = left))) := by
  refine ACalls.of_body (C := C.laws_szIntS) (n := Try.f163.ntmps) tabT folT Try.func163 rfl (by kernel_rfl) rfl (Nat.le_of_ble_eq_true rfl) (by decide) (by kernel_rfl) (by kernel_rfl) rfl (by simp) (by simp) ?_
  simp only [Try.f163]
  refine wseq ?_
  refine wreg fun K hK => ?_
  simp [C.laws_szIntS]
  refine hK _ ?_; clear hK K
  show AWp _ _ _ _ _
  refine wseq ?_
  refine wreg fun K hK => ?_
  simp [C.laws_szIntS]
  rw [wrapOk (x := left - xs.length) (by omega) (by omega)]
  refine hK _ ?_; clear hK K
  show AWp _ _ _ _ _
  refine wseq ?_
  refine wseq ?_
  refine wreg fun K hK => ?_
  simp [C.laws_szIntS]
  refine hK _ ?_; clear hK K
  show AWp _ _ _ _ _
  refine wcond _ rfl (fun hc1 => ?_) (fun hc1 => ?_)
  · refine wseq ?_
    refine wreg fun K hK => ?_
    simp [C.laws_szIntS]
    refine hK _ ?_; clear hK K
    show AWp _ _ _ _ _
    refine wret ?_
    simp [C.laws_szIntS]
  · refine wskip ?_
    show AWp _ _ _ _ _
    refine wseq ?_
    refine wreg fun K hK => ?_
    simp [C.laws_szIntS]
    refine hK _ ?_; clear hK K
    show AWp _ _ _ _ _
    refine wret ?_
    simp at hc1
    simp [C.laws_szIntS]
    right; omega

theorem laws_szTerm_calls (t : Trm) (left : Int) (h0 : 0 ≤ left) (h1 : left ≤ 1048576) (hx : t.e.length < 4611686018427387904) : ACalls Try.prog F.laws_szTerm [aT t, .int left] [] true (fun outs res => outs = [] ∧ ∃ r : Int, res = [.one (D.int r)] ∧ (r = -1 ∨ (0 ≤ r ∧ r + t.e.length = left))) := by
  refine ACalls.of_body (C := C.laws_szTerm) (n := Try.f213.ntmps) tabT folT Try.func213 rfl (by kernel_rfl) rfl (Nat.le_of_ble_eq_true rfl) (by decide) (by kernel_rfl) (by kernel_rfl) rfl (by simp) (by simp) ?_
  simp only [Try.f213]
  refine wseq ?_
  refine wreg fun K hK => ?_
  simp [C.laws_szTerm]
  refine hK _ ?_; clear hK K
  show AWp _ _ _ _ _
  refine wseq ?_
  refine wreg fun K hK => ?_
  simp [C.laws_szTerm]
  refine wcall (laws_szIntS_calls t.e left h0 h1 hx) (by simp) (by simp) (by simp) ?_
  rintro outs res ⟨rfl, r, rfl, hr⟩
  simp [C.laws_szTerm]
  refine hK _ ?_; clear hK K
  show AWp _ _ _ _ _
  refine wseq ?_
  refine wseq ?_
  refine wreg fun K hK => ?_
  simp [C.laws_szTerm]
  refine hK _ ?_; clear hK K
  show AWp _ _ _ _ _
  refine wcond _ rfl (fun hc1 => ?_) (fun hc1 => ?_)
  · refine wseq ?_
    refine wreg fun K hK => ?_
    simp [C.laws_szTerm]
    refine hK _ ?_; clear hK K
    show AWp _ _ _ _ _
    refine wret ?_
    simp [C.laws_szTerm]
  · refine wskip ?_
    show AWp _ _ _ _ _
    refine wseq ?_
    refine wreg fun K hK => ?_
    simp [C.laws_szTerm]
    refine hK _ ?_; clear hK K
    show AWp _ _ _ _ _
    refine wret ?_
    simp at hc1
    simp [C.laws_szTerm]
    omega

theorem laws_szTermS_calls (ts : List Trm) (left : Int) (h0 : 0 ≤ left) (h1 : left ≤ 1048576) (hx : ts.length < 4611686018427387904) (hx2 : ∀ t ∈ ts, t.e.length < 4611686018427387904) : ACalls Try.prog F.laws_szTermS [.d (.sh 2 ts.length (rows tS ts)), .int left] [] true (fun outs res => outs = [] ∧ ∃ r : Int, res = [.one (D.int r)] ∧ (r = -1 ∨ (0 ≤ r ∧ r + szT ts = left))) := by
  refine ACalls.of_body (C := C.laws_szTermS) (n := Try.f143.ntmps) tabT folT Try.func143 rfl (by kernel_rfl) rfl (Nat.le_of_ble_eq_true rfl) (by decide) (by kernel_rfl) (by kernel_rfl) rfl (by simp) (by simp) ?_
  simp only [Try.f143]
  refine wseq ?_
  refine wreg fun K hK => ?_
  simp [C.laws_szTermS]
  refine hK _ ?_; clear hK K
  show AWp _ _ _ _ _
  refine wseq ?_
  refine wreg fun K hK => ?_
  simp [C.laws_szTermS]
  rw [wrapOk (x := left - ts.length) (by omega) (by omega)]
  refine hK _ ?_; clear hK K
  show AWp _ _ _ _ _
  refine wseq ?_
  refine wseq ?_
  refine wreg fun K hK => ?_
  simp [C.laws_szTermS]
  refine hK _ ?_; clear hK K
  show AWp _ _ _ _ _
  refine wcond _ rfl (fun hc1 => ?_) (fun hc1 => ?_)
  · refine wseq ?_
    refine wreg fun K hK => ?_
    simp [C.laws_szTermS]
    refine hK _ ?_; clear hK K
    show AWp _ _ _ _ _
    refine wret ?_
    simp [C.laws_szTermS]
  · refine wskip ?_
    show AWp _ _ _ _ _
    refine wseq ?_
    refine wseq ?_
    refine wreg fun K hK => ?_
    simp [C.laws_szTermS]
    refine hK _ ?_; clear hK K
    show AWp _ _ _ _ _
    refine wblock ?_
    refine wloop (fun x : Nat × Int => ⟨ofL [(0, .d (.sh 2 ts.length (rows tS ts))), (1, .int x.2), (5, .int x.1)], ofRO []⟩) (fun x => x.1 ≤ ts.length ∧ 0 ≤ x.2 ∧ x.2 + ts.length + cntL (fun t : Trm => t.e.length) (ts.take x.1) = left) (fun x => ts.length - x.1) (0, left - ts.length) (by simp [C.laws_szTermS]) (by simp at hc1; simp [cntL]; omega) ?_
    intro x1 hx1 R1 hR1
    obtain ⟨j, r⟩ := x1
    obtain ⟨hj, hr0, hr⟩ := hx1
    dsimp only at hj hr0 hr ⊢
    refine wseq ?_
    refine wseq ?_
    refine wreg fun K hK => ?_
    simp [C.laws_szTermS]
    refine hK _ ?_; clear hK K
    show AWp _ _ _ _ _
    refine wcond _ rfl (fun hc2 => ?_) (fun hc2 => ?_)
    · refine wskip ?_
      show AWp _ _ _ _ _
      refine wseq ?_
      refine wblock ?_
      refine wseq ?_
      have h2 : j < ts.length := by simpa using hc2
      refine wreg fun K hK => ?_
      simp [C.laws_szTermS, h2, tS_0 h2, tS_1 h2]
      refine wcall (laws_szTerm_calls ts[j] r (by omega) (by omega) (hx2 _ (List.getElem_mem h2))) (by simp) (by simp) (by simp) ?_
      rintro outs res ⟨rfl, r2, rfl, hr2⟩
      simp [C.laws_szTermS, h2, tS_0 h2, tS_1 h2]
      refine hK _ ?_; clear hK K
      show AWp _ _ _ _ _
      refine wseq ?_
      refine wreg fun K hK => ?_
      simp [C.laws_szTermS]
      refine hK _ ?_; clear hK K
      show AWp _ _ _ _ _
      refine wcond _ rfl (fun hc3 => ?_) (fun hc3 => ?_)
      · refine wseq ?_
        refine wreg fun K hK => ?_
        simp [C.laws_szTermS]
        refine hK _ ?_; clear hK K
        show AWp _ _ _ _ _
        refine wret ?_
        simp [C.laws_szTermS]
      · refine wskip ?_
        show AWp _ _ _ _ _
        refine wreg fun K hK => ?_
        simp [C.laws_szTermS, wrap_succ (show j < 4611686018427387904 by omega)]
        refine hK _ ?_; clear hK K
        simp [C.laws_szTermS]
        have hc3' : 0 ≤ r2 := by simpa using hc3
        refine hR1 (j + 1, r2) ⟨h2, hc3', ?_⟩ (by dsimp only; omega)
        dsimp only
        rw [cntL_step _ _ _ h2]
        omega
    · refine wexit ?_
      show AWp _ _ _ _ _
      refine wseq ?_
      refine wreg fun K hK => ?_
      simp [C.laws_szTermS]
      refine hK _ ?_; clear hK K
      show AWp _ _ _ _ _
      refine wret ?_
      have hj2 : j = ts.length := by simp at hc2; omega
      simp [C.laws_szTermS]
      right
      refine ⟨hr0, ?_⟩
      rw [hj2, List.take_length] at hr
      unfold szT
      omega

theorem laws_szLaurent_calls (f : Lau) (left : Int) (h0 : 0 ≤ left) (h1 : left ≤ 1048576) (hx : f.ts.length < 4611686018427387904) (hx2 : ∀ t ∈ f.ts, t.e.length < 4611686018427387904) : ACalls Try.prog F.laws_szLaurent [aF f, .int left] [] true (fun outs res => outs = [] ∧ ∃ r : Int, res = [.one (D.int r)] ∧ (r = -1 ∨ (0 ≤ r ∧ r + szT f.ts = left))) := by
  refine ACalls.of_body (C := C.laws_szLaurent) (n := Try.f53.ntmps) tabT folT Try.func53 rfl (by kernel_rfl) rfl (Nat.le_of_ble_eq_true rfl) (by decide) (by kernel_rfl) (by kernel_rfl) rfl (by simp) (by simp) ?_
  simp only [Try.f53]
  refine wseq ?_
  refine wreg fun K hK => ?_
  simp [C.laws_szLaurent]
  refine hK _ ?_; clear hK K
  show AWp _ _ _ _ _
  refine wseq ?_
  refine wreg fun K hK => ?_
  simp [C.laws_szLaurent]
  refine wcall (laws_szTermS_calls f.ts left h0 h1 hx hx2) (by simp) (by simp) (by simp) ?_
  rintro outs res ⟨rfl, r, rfl, hr⟩
  simp [C.laws_szLaurent]
  refine hK _ ?_; clear hK K
  show AWp _ _ _ _ _
  refine wseq ?_
  refine wseq ?_
  refine wreg fun K hK => ?_
  simp [C.laws_szLaurent]
  refine hK _ ?_; clear hK K
  show AWp _ _ _ _ _
  refine wcond _ rfl (fun hc1 => ?_) (fun hc1 => ?_)
  · refine wseq ?_
    refine wreg fun K hK => ?_
    simp [C.laws_szLaurent]
    refine hK _ ?_; clear hK K
    show AWp _ _ _ _ _
    refine wret ?_
    simp [C.laws_szLaurent]
  · refine wskip ?_
    show AWp _ _ _ _ _
    refine wseq ?_
    refine wreg fun K hK => ?_
    simp [C.laws_szLaurent]
    refine hK _ ?_; clear hK K
    show AWp _ _ _ _ _
    refine wret ?_
    simp at hc1
    simp [C.laws_szLaurent]
    omega

theorem laws_toIntS_calls (xs : List Int) (hx : xs.length ≤ 1048576) : ACalls Try.prog F.laws_toIntS [.d (shI xs)] [] true (fun outs res => outs = [] ∧ res = [.one (owI xs)]) := by
  refine ACalls.of_body (C := C.laws_toIntS) (n := Try.f165.ntmps) tabT folT Try.func165 rfl (by kernel_rfl) rfl (Nat.le_of_ble_eq_true rfl) (by decide) (by kernel_rfl) (by kernel_rfl) rfl (by simp) (by simp) ?_
  simp only [Try.f165]
  refine wseq ?_
  refine wreg fun K hK => ?_
  simp [C.laws_toIntS]
  refine hK _ ?_; clear hK K
  show AWp _ _ _ _ _
  refine wseq ?_
  refine wreg fun K hK => ?_
  simp [C.laws_toIntS, zeros_ints, show (8 : Int) * xs.length ≤ 281474976710656 by omega, show (xs.length : Int) ≤ 281474976710656 by omega]
  refine hK _ ?_; clear hK K
  show AWp _ _ _ _ _
  refine wseq ?_
  refine wseq ?_
  refine wreg fun K hK => ?_
  simp [C.laws_toIntS]
  refine hK _ ?_; clear hK K
  show AWp _ _ _ _ _
  refine wblock ?_
  refine wloop (fun x : Nat × List Int => ⟨ofL [(0, .d (shI xs)), (3, .al (3, 0) [] 0 xs.length), (4, .int x.1)], ofRO [((3, 0), some (.ow 1 xs.length (ints x.2)))]⟩) (fun x => x.1 ≤ xs.length ∧ x.2 = xs.take x.1 ++ List.replicate (xs.length - x.1) 0) (fun x => xs.length - x.1) (0, List.replicate xs.length 0) (by simp [C.laws_toIntS]) (by simp) ?_
  intro x1 hx1 R1 hR1
  obtain ⟨j, gs⟩ := x1
  obtain ⟨hj, hg⟩ := hx1
  dsimp only at hj hg ⊢
  refine wseq ?_
  refine wseq ?_
  refine wreg fun K hK => ?_
  simp [C.laws_toIntS]
  refine hK _ ?_; clear hK K
  show AWp _ _ _ _ _
  refine wcond _ rfl (fun hc1 => ?_) (fun hc1 => ?_)
  · refine wskip ?_
    show AWp _ _ _ _ _
    refine wseq ?_
    refine wblock ?_
    have h1 : j < xs.length := by simpa using hc1
    have hl : gs.length = xs.length := by rw [hg]; simp; omega
    refine wreg fun K hK => ?_
    simp [C.laws_toIntS, hl, h1, get_ints]
    refine hK _ ?_; clear hK K
    show AWp _ _ _ _ _
    refine wreg fun K hK => ?_
    simp [C.laws_toIntS, wrap_succ (show j < 4611686018427387904 by omega)]
    refine hK _ ?_; clear hK K
    simp [C.laws_toIntS]
    refine hR1 (j + 1, _) ⟨h1, ?_⟩ (by dsimp only; omega)
    dsimp only
    rw [hg, fill_step xs j h1 0]
  · refine wexit ?_
    show AWp _ _ _ _ _
    refine wseq ?_
    refine wreg fun K hK => ?_
    simp [C.laws_toIntS]
    refine hK _ ?_; clear hK K
    show AWp _ _ _ _ _
    refine wret ?_
    have hj2 : j = xs.length := by simp at hc1; omega
    simp [C.laws_toIntS, hg, hj2]

theorem laws_toTerm_calls (t : Trm) (hx : t.e.length ≤ 1048576) : ACalls Try.prog F.laws_toTerm [aT t] [] true (fun outs res => outs = [] ∧ res = [.ag (tO t)]) := by
  refine ACalls.of_body (C := C.laws_toTerm) (n := Try.f214.ntmps) tabT folT Try.func214 rfl (by kernel_rfl) rfl (Nat.le_of_ble_eq_true rfl) (by decide) (by kernel_rfl) (by kernel_rfl) rfl (by simp) (by simp) ?_
  simp only [Try.f214]
  refine wseq ?_
  refine wreg fun K hK => ?_
  simp [C.laws_toTerm]
  refine hK _ ?_; clear hK K
  show AWp _ _ _ _ _
  refine wseq ?_
  refine wreg fun K hK => ?_
  simp [C.laws_toTerm]
  refine hK _ ?_; clear hK K
  show AWp _ _ _ _ _
  refine wseq ?_
  refine wreg fun K hK => ?_
  simp [C.laws_toTerm]
  refine wcall1 (laws_toIntS_calls t.e hx) (by simp) (by simp) ?_
  simp [C.laws_toTerm]
  refine hK _ ?_; clear hK K
  show AWp _ _ _ _ _
  refine wseq ?_
  refine wreg fun K hK => ?_
  simp [C.laws_toTerm]
  refine hK _ ?_; clear hK K
  show AWp _ _ _ _ _
  refine wseq ?_
  refine wreg fun K hK => ?_
  simp [C.laws_toTerm]
  refine hK _ ?_; clear hK K
  show AWp _ _ _ _ _
  refine wret ?_
  simp [C.laws_toTerm, tO]

theorem laws_toTermS_calls (ts : List Trm) (hx : ts.length ≤ 1048576) (hx2 : ∀ t ∈ ts, t.e.length ≤ 1048576) : ACalls Try.prog F.laws_toTermS [.d (.sh 2 ts.length (rows tS ts))] [] true (fun outs res => outs = [] ∧ res = [.one (.ow 2 ts.length (rows tO ts))]) := by
  refine ACalls.of_body (C := C.laws_toTermS) (n := Try.f146.ntmps) tabT folT Try.func146 rfl (by kernel_rfl) rfl (Nat.le_of_ble_eq_true rfl) (by decide) (by kernel_rfl) (by kernel_rfl) rfl (by simp) (by simp) ?_
  simp only [Try.f146]
  refine wseq ?_
  refine wreg fun K hK => ?_
  simp [C.laws_toTermS]
  refine hK _ ?_; clear hK K
  show AWp _ _ _ _ _
  refine wseq ?_
  refine wreg fun K hK => ?_
  simp [C.laws_toTermS, tZ_zero, show (32 : Int) * ts.length ≤ 281474976710656 by omega, show (ts.length : Int) ≤ 281474976710656 by omega]
  refine hK _ ?_; clear hK K
  show AWp _ _ _ _ _
  refine wseq ?_
  refine wseq ?_
  refine wreg fun K hK => ?_
  simp [C.laws_toTermS]
  refine hK _ ?_; clear hK K
  show AWp _ _ _ _ _
  refine wblock ?_
  refine wloop (fun x : Nat × List (Option Trm) => ⟨ofL [(0, .d (.sh 2 ts.length (rows tS ts))), (3, .al (3, 0) [] 0 ts.length), (4, .int x.1)], ofRO [((3, 0), some (.ow 2 ts.length (rows tZ x.2)))]⟩) (fun x => x.1 ≤ ts.length ∧ x.2 = (ts.take x.1).map some ++ List.replicate (ts.length - x.1) none) (fun x => ts.length - x.1) (0, List.replicate ts.length none) (by simp [C.laws_toTermS]) (by simp) ?_
  intro x1 hx1 R1 hR1
  obtain ⟨j, gs⟩ := x1
  obtain ⟨hj, hg⟩ := hx1
  dsimp only at hj hg ⊢
  refine wseq ?_
  refine wseq ?_
  refine wreg fun K hK => ?_
  simp [C.laws_toTermS]
  refine hK _ ?_; clear hK K
  show AWp _ _ _ _ _
  refine wcond _ rfl (fun hc1 => ?_) (fun hc1 => ?_)
  · refine wskip ?_
    show AWp _ _ _ _ _
    refine wseq ?_
    refine wblock ?_
    have h1 : j < ts.length := by simpa using hc1
    have hl : gs.length = ts.length := by rw [hg]; simp; omega
    have hn : gs[j]? = some none := by
      rw [hg, List.getElem?_append_right (by simp; omega)]
      simp [Nat.min_eq_left hj, List.getElem?_replicate]
      omega
    refine wreg fun K hK => ?_
    simp [C.laws_toTermS, hl, h1, tS_0 h1, tS_1 h1, tO, tZ_none0 hn, tZ_none1 hn, tZ_set2 (show j < gs.length by omega)]
    refine wcall1 (laws_toTerm_calls ts[j] (hx2 _ (List.getElem_mem h1))) (by simp) (by simp) ?_
    simp [C.laws_toTermS, hl, h1, tS_0 h1, tS_1 h1, tO, tZ_none0 hn, tZ_none1 hn, tZ_set2 (show j < gs.length by omega)]
    refine hK _ ?_; clear hK K
    show AWp _ _ _ _ _
    refine wreg fun K hK => ?_
    simp [C.laws_toTermS, wrap_succ (show j < 4611686018427387904 by omega)]
    refine hK _ ?_; clear hK K
    simp [C.laws_toTermS]
    refine hR1 (j + 1, _) ⟨h1, ?_⟩ (by dsimp only; omega)
    dsimp only
    have := fill_step (ts.map some) j (by simpa using h1) none
    simp only [List.length_map, List.getElem_map, ← List.map_take] at this
    rw [hg, ← this]
  · refine wexit ?_
    show AWp _ _ _ _ _
    refine wseq ?_
    refine wreg fun K hK => ?_
    simp [C.laws_toTermS]
    refine hK _ ?_; clear hK K
    show AWp _ _ _ _ _
    refine wret ?_
    have hj2 : j = ts.length := by simp at hc1; omega
    have hz : rows tZ gs = rows tO ts := by rw [hg, hj2]; simp [tZ_some]
    simp [C.laws_toTermS, hz, hj2]

theorem laws_toLaurent_calls (f : Lau) (hx : f.ts.length ≤ 1048576) (hx2 : ∀ t ∈ f.ts, t.e.length ≤ 1048576) : ACalls Try.prog F.laws_toLaurent [aF f] [] true (fun outs res => outs = [] ∧ res = [.ag (fO f)]) := by
  refine ACalls.of_body (C := C.laws_toLaurent) (n := Try.f55.ntmps) tabT folT Try.func55 rfl (by kernel_rfl) rfl (Nat.le_of_ble_eq_true rfl) (by decide) (by kernel_rfl) (by kernel_rfl) rfl (by simp) (by simp) ?_
  simp only [Try.f55]
  refine wseq ?_
  refine wreg fun K hK => ?_
  simp [C.laws_toLaurent]
  refine hK _ ?_; clear hK K
  show AWp _ _ _ _ _
  refine wseq ?_
  refine wreg fun K hK => ?_
  simp [C.laws_toLaurent]
  refine hK _ ?_; clear hK K
  show AWp _ _ _ _ _
  refine wseq ?_
  refine wreg fun K hK => ?_
  simp [C.laws_toLaurent]
  refine hK _ ?_; clear hK K
  show AWp _ _ _ _ _
  refine wseq ?_
  refine wreg fun K hK => ?_
  simp [C.laws_toLaurent]
  refine wcall1 (laws_toTermS_calls f.ts hx hx2) (by simp) (by simp) ?_
  simp [C.laws_toLaurent]
  refine hK _ ?_; clear hK K
  show AWp _ _ _ _ _
  refine wseq ?_
  refine wreg fun K hK => ?_
  simp [C.laws_toLaurent]
  refine hK _ ?_; clear hK K
  show AWp _ _ _ _ _
  refine wret ?_
  simp [C.laws_toLaurent, fO]

theorem laws_eqTerm_calls (a b : Trm) (hx : a.e.length < 4611686018427387904) : ACalls Try.prog F.laws_eqTerm [aT a, aT b] [] true (fun outs res => outs = [] ∧ res = [.one (D.bool (decide (a = b)))]) := by
  refine ACalls.of_body (C := C.laws_eqTerm) (n := Try.f215.ntmps) tabT folT Try.func215 rfl (by kernel_rfl) rfl (Nat.le_of_ble_eq_true rfl) (by decide) (by kernel_rfl) (by kernel_rfl) rfl (by simp) (by simp) ?_
  simp only [Try.f215]
  refine wseq ?_
  refine wreg fun K hK => ?_
  simp [C.laws_eqTerm]
  refine hK _ ?_; clear hK K
  show AWp _ _ _ _ _
  refine wseq ?_
  refine wseq ?_
  refine wreg fun K hK => ?_
  simp [C.laws_eqTerm]
  refine wcall1 (laws_eqIntS_calls a.e b.e hx) (by simp) (by simp) ?_
  simp [C.laws_eqTerm]
  refine hK _ ?_; clear hK K
  show AWp _ _ _ _ _
  refine wcond _ rfl (fun hc1 => ?_) (fun hc1 => ?_)
  · refine wseq ?_
    refine wreg fun K hK => ?_
    simp [C.laws_eqTerm]
    refine hK _ ?_; clear hK K
    show AWp _ _ _ _ _
    refine wret ?_
    simp at hc1
    simp [C.laws_eqTerm, trm_eq, hc1]
  · refine wskip ?_
    show AWp _ _ _ _ _
    refine wseq ?_
    refine wseq ?_
    refine wreg fun K hK => ?_
    simp [C.laws_eqTerm]
    refine hK _ ?_; clear hK K
    show AWp _ _ _ _ _
    refine wcond _ rfl (fun hc2 => ?_) (fun hc2 => ?_)
    · refine wseq ?_
      refine wreg fun K hK => ?_
      simp [C.laws_eqTerm]
      refine hK _ ?_; clear hK K
      show AWp _ _ _ _ _
      refine wret ?_
      simp at hc2
      simp [C.laws_eqTerm, trm_eq, hc2]
    · refine wskip ?_
      show AWp _ _ _ _ _
      refine wseq ?_
      refine wreg fun K hK => ?_
      simp [C.laws_eqTerm]
      refine hK _ ?_; clear hK K
      show AWp _ _ _ _ _
      refine wret ?_
      simp at hc1 hc2
      simp [C.laws_eqTerm, trm_eq, hc1, hc2]

theorem laws_eqTermS_calls (xs ys : List Trm) (hx : xs.length < 4611686018427387904) (hx2 : ∀ t ∈ xs, t.e.length < 4611686018427387904) : ACalls Try.prog F.laws_eqTermS [.d (.sh 2 xs.length (rows tS xs)), .d (.sh 2 ys.length (rows tS ys))] [] true (fun outs res => outs = [] ∧ res = [.one (D.bool (decide (xs = ys)))]) := by
  refine ACalls.of_body (C := C.laws_eqTermS) (n := Try.f147.ntmps) tabT folT Try.func147 rfl (by kernel_rfl) rfl (Nat.le_of_ble_eq_true rfl) (by decide) (by kernel_rfl) (by kernel_rfl) rfl (by simp) (by simp) ?_
  simp only [Try.f147]
  refine wseq ?_
  refine wreg fun K hK => ?_
  simp [C.laws_eqTermS]
  refine hK _ ?_; clear hK K
  show AWp _ _ _ _ _
  refine wseq ?_
  refine wseq ?_
  refine wreg fun K hK => ?_
  simp [C.laws_eqTermS]
  refine hK _ ?_; clear hK K
  show AWp _ _ _ _ _
  refine wcond _ rfl (fun hc1 => ?_) (fun hc1 => ?_)
  · refine wseq ?_
    refine wreg fun K hK => ?_
    simp [C.laws_eqTermS]
    refine hK _ ?_; clear hK K
    show AWp _ _ _ _ _
    refine wret ?_
    simp at hc1
    simp [C.laws_eqTermS]
    intro e; simp [e] at hc1
  · refine wskip ?_
    show AWp _ _ _ _ _
    refine wseq ?_
    refine wseq ?_
    refine wreg fun K hK => ?_
    simp [C.laws_eqTermS]
    refine hK _ ?_; clear hK K
    show AWp _ _ _ _ _
    refine wblock ?_
    have e : xs.length = ys.length := by simp at hc1; omega
    refine wloop (fun k : Nat => ⟨ofL [(0, .d (.sh 2 xs.length (rows tS xs))), (1, .d (.sh 2 ys.length (rows tS ys))), (5, FV.int k)], ofRO []⟩) (fun k => k ≤ xs.length ∧ xs.take k = ys.take k) (fun k => xs.length - k) 0 (by simp [C.laws_eqTermS]) (by simp) ?_
    intro x1 hx1 R1 hR1
    obtain ⟨hk, ht⟩ := hx1
    refine wseq ?_
    refine wseq ?_
    refine wreg fun K hK => ?_
    simp [C.laws_eqTermS]
    refine hK _ ?_; clear hK K
    show AWp _ _ _ _ _
    refine wcond _ rfl (fun hc2 => ?_) (fun hc2 => ?_)
    · refine wskip ?_
      show AWp _ _ _ _ _
      refine wseq ?_
      refine wblock ?_
      refine wseq ?_
      have h1 : x1 < xs.length := by simpa using hc2
      have h2 : x1 < ys.length := by omega
      refine wdraw (.take 0 (.take 1 (.take 2 (.take 3 (.take 4 (.take 5 (.take 6 (.take 7 (.all [(8, .take 9 (.done))]))))))))) ⟨by kernel_rfl, by kernel_rfl⟩ fun K hK => ?_
      simp [C.laws_eqTermS, h1, h2, tS_0 h1, tS_1 h1, tS_0 h2, tS_1 h2]
      refine wcall1 (laws_eqTerm_calls xs[x1] ys[x1] (hx2 _ (List.getElem_mem h1))) (by simp) (by simp) ?_
      simp [C.laws_eqTermS, h1, h2, tS_0 h1, tS_1 h1, tS_0 h2, tS_1 h2]
      refine hK _ ?_; clear hK K
      show AWp _ _ _ _ _
      refine wcond _ rfl (fun hc3 => ?_) (fun hc3 => ?_)
      · refine wseq ?_
        refine wreg fun K hK => ?_
        simp [C.laws_eqTermS]
        refine hK _ ?_; clear hK K
        show AWp _ _ _ _ _
        refine wret ?_
        simp at hc3
        simp [C.laws_eqTermS]
        intro e; simp [e] at hc3
      · refine wskip ?_
        show AWp _ _ _ _ _
        refine wreg fun K hK => ?_
        simp [C.laws_eqTermS, wrap_succ (show x1 < 4611686018427387904 by omega)]
        refine hK _ ?_; clear hK K
        simp [C.laws_eqTermS]
        simp at hc3
        refine hR1 (x1 + 1) ⟨h1, ?_⟩ (by omega)
        rw [List.take_succ_eq_append_getElem h1, List.take_succ_eq_append_getElem h2, ht, hc3]
    · refine wexit ?_
      show AWp _ _ _ _ _
      refine wseq ?_
      refine wreg fun K hK => ?_
      simp [C.laws_eqTermS]
      refine hK _ ?_; clear hK K
      show AWp _ _ _ _ _
      refine wret ?_
      have hk2 : x1 = xs.length := by simp at hc2; omega
      simp [C.laws_eqTermS]
      rw [hk2, List.take_length, e, List.take_length] at ht
      exact ht

theorem laws_eqLaurent_calls (a b : Lau) (hx : a.ts.length < 4611686018427387904) (hx2 : ∀ t ∈ a.ts, t.e.length < 4611686018427387904) : ACalls Try.prog F.laws_eqLaurent [aF a, aF b] [] true (fun outs res => outs = [] ∧ res = [.one (D.bool (decide (a = b)))]) := by
  refine ACalls.of_body (C := C.laws_eqLaurent) (n := Try.f56.ntmps) tabT folT Try.func56 rfl (by kernel_rfl) rfl (Nat.le_of_ble_eq_true rfl) (by decide) (by kernel_rfl) (by kernel_rfl) rfl (by simp) (by simp) ?_
  simp only [Try.f56]
  refine wseq ?_
  refine wreg fun K hK => ?_
  simp [C.laws_eqLaurent]
  refine hK _ ?_; clear hK K
  show AWp _ _ _ _ _
  refine wseq ?_
  refine wseq ?_
  refine wreg fun K hK => ?_
  simp [C.laws_eqLaurent]
  refine hK _ ?_; clear hK K
  show AWp _ _ _ _ _
  refine wcond _ rfl (fun hc1 => ?_) (fun hc1 => ?_)
  · refine wseq ?_
    refine wreg fun K hK => ?_
    simp [C.laws_eqLaurent]
    refine hK _ ?_; clear hK K
    show AWp _ _ _ _ _
    refine wret ?_
    simp at hc1
    simp [C.laws_eqLaurent, lau_eq, hc1]
  · refine wskip ?_
    show AWp _ _ _ _ _
    refine wseq ?_
    refine wseq ?_
    refine wreg fun K hK => ?_
    simp [C.laws_eqLaurent]
    refine wcall1 (laws_eqTermS_calls a.ts b.ts hx hx2) (by simp) (by simp) ?_
    simp [C.laws_eqLaurent]
    refine hK _ ?_; clear hK K
    show AWp _ _ _ _ _
    refine wcond _ rfl (fun hc2 => ?_) (fun hc2 => ?_)
    · refine wseq ?_
      refine wreg fun K hK => ?_
      simp [C.laws_eqLaurent]
      refine hK _ ?_; clear hK K
      show AWp _ _ _ _ _
      refine wret ?_
      simp at hc2
      simp [C.laws_eqLaurent, lau_eq, hc2]
    · refine wskip ?_
      show AWp _ _ _ _ _
      refine wseq ?_
      refine wreg fun K hK => ?_
      simp [C.laws_eqLaurent]
      refine hK _ ?_; clear hK K
      show AWp _ _ _ _ _
      refine wret ?_
      simp at hc1 hc2
      simp [C.laws_eqLaurent, lau_eq, hc1, hc2]

theorem laws_markTermS_calls (ts : List Trm) (k : Int) (hk0 : 0 ≤ k) (hk : k + cntL cntT ts < 4611686018427387904) (hx : ts.length < 4611686018427387904) : ACalls Try.prog F.laws_markTermS [.al (0, 0) [] 0 ts.length, .int k] [((0, 0), .ow 2 ts.length (rows tO ts))] true (fun outs res => outs = [.ow 2 ts.length (rows tO (mkL cntT mkT ts k))] ∧ res = [.one (D.int (k + cntL cntT ts))]) := by
  refine ACalls.of_body (C := C.laws_markTermS) (n := Try.f148.ntmps) tabT folT Try.func148 rfl (by kernel_rfl) rfl (Nat.le_of_ble_eq_true rfl) (by decide) (by kernel_rfl) (by kernel_rfl) rfl (by simp) (by simp) ?_
  simp only [Try.f148]
  refine wseq ?_
  refine wreg fun K hK => ?_
  simp [C.laws_markTermS]
  refine hK _ ?_; clear hK K
  show AWp _ _ _ _ _
  refine wseq ?_
  refine wseq ?_
  refine wreg fun K hK => ?_
  simp [C.laws_markTermS]
  refine hK _ ?_; clear hK K
  show AWp _ _ _ _ _
  refine wblock ?_
  refine wloop (fun x : Nat × List Trm × Int => ⟨ofL [(0, .al (0, 0) [] 0 ts.length), (1, .int x.2.2), (5, .int x.1), (1000, .al (0, 0) [] 0 ts.length)], ofRO [((0, 0), some (.ow 2 ts.length (rows tO x.2.1)))]⟩) (fun x => x.1 ≤ ts.length ∧ x.2.1 = mkL cntT mkT (ts.take x.1) k ++ ts.drop x.1 ∧ x.2.2 = k + cntL cntT (ts.take x.1)) (fun x => ts.length - x.1) (0, ts, k) (by simp [C.laws_markTermS]) (by simp [mkL, cntL]) ?_
  intro x1 hx1 R1 hR1
  obtain ⟨j, gs, kk⟩ := x1
  obtain ⟨h0, hg, he⟩ := hx1
  dsimp only at h0 hg he ⊢
  refine wseq ?_
  refine wseq ?_
  refine wreg fun K hK => ?_
  simp [C.laws_markTermS]
  refine hK _ ?_; clear hK K
  show AWp _ _ _ _ _
  refine wcond _ rfl (fun hc1 => ?_) (fun hc1 => ?_)
  · refine wskip ?_
    show AWp _ _ _ _ _
    refine wseq ?_
    refine wblock ?_
    refine wseq ?_
    have h1 : j < ts.length := by simpa using hc1
    have hl : gs.length = ts.length := by rw [hg]; simp; omega
    have h2 : j < gs.length := by omega
    have hge : gs[j] = ts[j] := by
      have := mkL_get2 cntT mkT ts k j h1
      rw [← hg, List.getElem?_eq_getElem h2] at this
      injection this
    have hb := cntL_le1 cntT ts j h1
    have hcj : cntT ts[j] = ts[j].e.length + 1 := rfl
    refine wreg fun K hK => ?_
    simp [C.laws_markTermS, hl, h1, h2, hge, tO_0 h2, tO_1 h2, modify_const, tO_set0 h2]
    refine wcall1 (laws_markIntS_calls ts[j].e kk (by omega) (by omega)) (by simp) (by simp) ?_
    simp [C.laws_markTermS, hl, h1, h2, hge, tO_0 h2, tO_1 h2, modify_const, tO_set0 h2]
    refine hK _ ?_; clear hK K
    show AWp _ _ _ _ _
    refine wseq ?_
    refine wreg fun K hK => ?_
    simp [C.laws_markTermS, h1, h2, tO_1 h2]
    refine hK _ ?_; clear hK K
    show AWp _ _ _ _ _
    refine wreg fun K hK => ?_
    simp [C.laws_markTermS]
    rw [wrapOk (x := kk + ts[j].e.length + 1) (by omega) (by omega)]
    refine hK _ ?_; clear hK K
    show AWp _ _ _ _ _
    refine wreg fun K hK => ?_
    simp [C.laws_markTermS, wrap_succ (show j < 4611686018427387904 by omega)]
    refine hK _ ?_; clear hK K
    simp [C.laws_markTermS]
    rw [tO_set2 h2 _ _ (by simp)]
    refine hR1 (j + 1, _, _) ⟨h1, ?_, ?_⟩ (by dsimp only; omega)
    · dsimp only
      rw [hg, he]
      exact mkL_step cntT mkT ts k j h1
    · dsimp only
      rw [cntL_step _ _ _ h1]
      omega
  · refine wexit ?_
    show AWp _ _ _ _ _
    refine wseq ?_
    refine wreg fun K hK => ?_
    simp [C.laws_markTermS]
    refine hK _ ?_; clear hK K
    show AWp _ _ _ _ _
    refine wret ?_
    have hj2 : j = ts.length := by simp at hc1; omega
    simp [C.laws_markTermS, hj2, hg, he]

theorem laws_markLaurent_calls (f : Lau) (k : Int) (hk0 : 0 ≤ k) (hk : k + cntL cntT f.ts < 4611686018427387904) (hx : f.ts.length < 4611686018427387904) : ACalls Try.prog F.laws_markLaurent [.ag [.int f.v, .al (0, 1) [] 0 f.ts.length], .int k] [((0, 1), .ow 2 f.ts.length (rows tO f.ts))] true (fun outs res => outs = [.ow 2 f.ts.length (rows tO (mkL cntT mkT f.ts k))] ∧ res = [.one (D.int (k + cntL cntT f.ts))]) := by
  refine ACalls.of_body (C := C.laws_markLaurent) (n := Try.f57.ntmps) tabT folT Try.func57 rfl (by kernel_rfl) rfl (Nat.le_of_ble_eq_true rfl) (by decide) (by kernel_rfl) (by kernel_rfl) rfl (by simp) (by simp) ?_
  simp only [Try.f57]
  refine wseq ?_
  refine wreg fun K hK => ?_
  simp [C.laws_markLaurent]
  refine hK _ ?_; clear hK K
  show AWp _ _ _ _ _
  refine wseq ?_
  refine wreg fun K hK => ?_
  simp [C.laws_markLaurent, modify_const]
  refine wcall1 (laws_markTermS_calls f.ts k hk0 hk hx) (by simp) (by simp) ?_
  simp [C.laws_markLaurent, modify_const]
  refine hK _ ?_; clear hK K
  show AWp _ _ _ _ _
  refine wseq ?_
  refine wreg fun K hK => ?_
  simp [C.laws_markLaurent]
  refine hK _ ?_; clear hK K
  show AWp _ _ _ _ _
  refine wret ?_
  simp [C.laws_markLaurent]

theorem laws_heldTermS_calls (ts : List Trm) (k : Int) (hk0 : 0 ≤ k) (hk : k + cntL cntT ts < 4611686018427387904) (hx : ts.length < 4611686018427387904) : ACalls Try.prog F.laws_heldTermS [.d (.sh 2 ts.length (rows tS (mkL cntT mkT ts k))), .int k] [] true (fun outs res => outs = [] ∧ res = [.one (D.int (k + cntL cntT ts))]) := by
  refine ACalls.of_body (C := C.laws_heldTermS) (n := Try.f149.ntmps) tabT folT Try.func149 rfl (by kernel_rfl) rfl (Nat.le_of_ble_eq_true rfl) (by decide) (by kernel_rfl) (by kernel_rfl) rfl (by simp) (by simp) ?_
  simp only [Try.f149]
  refine wseq ?_
  refine wreg fun K hK => ?_
  simp [C.laws_heldTermS]
  refine hK _ ?_; clear hK K
  show AWp _ _ _ _ _
  refine wseq ?_
  refine wseq ?_
  refine wreg fun K hK => ?_
  simp [C.laws_heldTermS]
  refine hK _ ?_; clear hK K
  show AWp _ _ _ _ _
  refine wblock ?_
  refine wloop (fun x : Nat × Int => ⟨ofL [(0, .d (.sh 2 ts.length (rows tS (mkL cntT mkT ts k)))), (1, .int x.2), (5, .int x.1)], ofRO []⟩) (fun x => x.1 ≤ ts.length ∧ x.2 = k + cntL cntT (ts.take x.1)) (fun x => ts.length - x.1) (0, k) (by simp [C.laws_heldTermS]) (by simp [cntL]) ?_
  intro x1 hx1 R1 hR1
  obtain ⟨j, kk⟩ := x1
  obtain ⟨h0, he⟩ := hx1
  dsimp only at h0 he ⊢
  refine wseq ?_
  refine wseq ?_
  refine wreg fun K hK => ?_
  simp [C.laws_heldTermS]
  refine hK _ ?_; clear hK K
  show AWp _ _ _ _ _
  refine wcond _ rfl (fun hc1 => ?_) (fun hc1 => ?_)
  · refine wskip ?_
    show AWp _ _ _ _ _
    refine wseq ?_
    refine wblock ?_
    refine wseq ?_
    have h1 : j < ts.length := by simpa using hc1
    have h2 : j < (mkL cntT mkT ts k).length := by simpa using h1
    have hge : (mkL cntT mkT ts k)[j] = ⟨marks kk ts[j].e.length, kk + ts[j].e.length⟩ := by
      rw [mkL_get1 _ _ _ _ _ h1, he]
      rfl
    have hb := cntL_le1 cntT ts j h1
    have hcj : cntT ts[j] = ts[j].e.length + 1 := rfl
    refine wreg fun K hK => ?_
    simp [C.laws_heldTermS, h1, h2, hge, tS_0 h2, tS_1 h2]
    refine wcall1 (laws_heldIntS_calls ts[j].e.length kk (by omega) (by omega)) (by simp) (by simp) ?_
    simp [C.laws_heldTermS, h1, h2, hge, tS_0 h2, tS_1 h2]
    refine hK _ ?_; clear hK K
    show AWp _ _ _ _ _
    refine wseq ?_
    refine wseq ?_
    refine wreg fun K hK => ?_
    simp [C.laws_heldTermS]
    refine hK _ ?_; clear hK K
    show AWp _ _ _ _ _
    refine wcond _ rfl (fun hc2 => ?_) (fun hc2 => ?_)
    · simp at hc2; omega
    · refine wskip ?_
      show AWp _ _ _ _ _
      refine wseq ?_
      refine wseq ?_
      refine wreg fun K hK => ?_
      simp [C.laws_heldTermS, h1, h2, hge, tS_0 h2, tS_1 h2]
      refine hK _ ?_; clear hK K
      show AWp _ _ _ _ _
      refine wcond _ rfl (fun hc3 => ?_) (fun hc3 => ?_)
      · simp at hc3
      · refine wskip ?_
        show AWp _ _ _ _ _
        refine wreg fun K hK => ?_
        simp [C.laws_heldTermS]
        rw [wrapOk (x := kk + ts[j].e.length + 1) (by omega) (by omega)]
        refine hK _ ?_; clear hK K
        show AWp _ _ _ _ _
        refine wreg fun K hK => ?_
        simp [C.laws_heldTermS, wrap_succ (show j < 4611686018427387904 by omega)]
        refine hK _ ?_; clear hK K
        simp [C.laws_heldTermS]
        refine hR1 (j + 1, _) ⟨h1, ?_⟩ (by dsimp only; omega)
        dsimp only
        rw [cntL_step _ _ _ h1]
        omega
  · refine wexit ?_
    show AWp _ _ _ _ _
    refine wseq ?_
    refine wreg fun K hK => ?_
    simp [C.laws_heldTermS]
    refine hK _ ?_; clear hK K
    show AWp _ _ _ _ _
    refine wret ?_
    have hj2 : j = ts.length := by simp at hc1; omega
    simp [C.laws_heldTermS, hj2, he]

theorem laws_heldLaurent_calls (v : Int) (ts : List Trm) (k : Int) (hk0 : 0 ≤ k) (hk : k + cntL cntT ts < 4611686018427387904) (hx : ts.length < 4611686018427387904) : ACalls Try.prog F.laws_heldLaurent [.ag [.int v, .d (.sh 2 ts.length (rows tS (mkL cntT mkT ts k)))], .int k] [] true (fun outs res => outs = [] ∧ res = [.one (D.int (k + cntL cntT ts))]) := by
  refine ACalls.of_body (C := C.laws_heldLaurent) (n := Try.f58.ntmps) tabT folT Try.func58 rfl (by kernel_rfl) rfl (Nat.le_of_ble_eq_true rfl) (by decide) (by kernel_rfl) (by kernel_rfl) rfl (by simp) (by simp) ?_
  simp only [Try.f58]
  refine wseq ?_
  refine wreg fun K hK => ?_
  simp [C.laws_heldLaurent]
  refine hK _ ?_; clear hK K
  show AWp _ _ _ _ _
  refine wseq ?_
  refine wreg fun K hK => ?_
  simp [C.laws_heldLaurent]
  refine wcall1 (laws_heldTermS_calls ts k hk0 hk hx) (by simp) (by simp) ?_
  simp [C.laws_heldLaurent]
  refine hK _ ?_; clear hK K
  show AWp _ _ _ _ _
  refine wseq ?_
  refine wseq ?_
  refine wreg fun K hK => ?_
  simp [C.laws_heldLaurent]
  refine hK _ ?_; clear hK K
  show AWp _ _ _ _ _
  refine wcond _ rfl (fun hc1 => ?_) (fun hc1 => ?_)
  · simp at hc1; omega
  · refine wskip ?_
    show AWp _ _ _ _ _
    refine wseq ?_
    refine wreg fun K hK => ?_
    simp [C.laws_heldLaurent]
    refine hK _ ?_; clear hK K
    show AWp _ _ _ _ _
    refine wret ?_
    simp [C.laws_heldLaurent]

end Go.Proofs.Ytdgeponcnlkaiaa.Ab
