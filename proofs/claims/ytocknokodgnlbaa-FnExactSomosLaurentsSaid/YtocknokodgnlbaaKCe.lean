/- The end of a building, over a sort. The sort of terms by their exponents, greatest first, at this program. The program's sums: all contracts without a premise left. The program's sums of sums. The reference's sums of sums. Division by maps: the greatest key, and what a step does. Division: both sides. Division of the program's sums. Division: the law over both sides. Sequences of rank two: both sides make the same. Sequences of Somos in variables: both sides make the same. Sequences of Somos in variables: the law. No condition. -/
import Derived.Test.YtocknokodgnlbaaKCd
import Derived.Shelf.SlSortCmp.NoneTotal
set_option linter.unusedVariables false
set_option linter.unusedSimpArgs false
namespace Go.Proofs.Ytocknokodgnlbaa.Ab
open Go
set_option linter.unusedSimpArgs false
set_option linter.unusedVariables false
set_option maxRecDepth 10000
set_option maxHeartbeats 2000000
attribute [local simp] mapKV flatInt tileB
def SortOk : Prop := ∀ (ts : List Trm), (∀ t ∈ ts, t.e.length < 4611686018427387904) → (ts.map (·.e)).Nodup → ts.length < 4611686018427387904 →
  ACalls Try.prog F.slices_SortFunc_impl_Term_impl_Term [.al (0, 0) [] 0 ts.length, .d (.fn F.impl_building_done_1 [])] [((0, 0), .ow 2 ts.length (rows tO ts))] true (fun outs res => ∃ r : List Trm, r.Perm ts ∧ DescT r ∧ outs = [.ow 2 ts.length (rows tO r)] ∧ res = [])
theorem insK_len_eq {K : Type} [DecidableEq K] {lt : K → K → Bool} {k : K} {c : Int} (hc : c ≠ 0) : ∀ l : List (K × Int), (∀ x ∈ l, x.1 ≠ k) → (insK lt k c l).length = l.length + 1
  | [], _ => by simp [insK, hc]
  | x :: l, h => by
    simp only [insK]
    rw [if_neg (h x (by simp))]
    split
    · first | rfl | (rw [if_neg hc]; rfl)
    · simp [insK_len_eq hc l fun y hy => h y (by simp [hy])]
theorem nf_len_eq {K : Type} [DecidableEq K] {lt : K → K → Bool} : ∀ l : List (K × Int), (l.map (·.1)).Nodup → (∀ x ∈ l, x.2 ≠ 0) → (nf lt l).length = l.length
  | [], _, _ => rfl
  | x :: l, h, hz => by
    simp only [List.map_cons, List.nodup_cons] at h
    simp only [nf]
    rw [insK_len_eq (hz x (by simp)), nf_len_eq l h.2 fun y hy => hz y (by simp [hy])]
    · rfl
    · intro y hy e
      obtain ⟨z, hz, e2⟩ := nf_mem hy
      exact h.1 (List.mem_map.2 ⟨z, hz, by rw [e2, e]⟩)
theorem unpad_inj {n : Nat} {es l : List (List Int × Int)} (h : MapR n es l) : ((es.map (unpadT n)).map (·.1)).Nodup := by
  have : ∀ es : List (List Int × Int), (es.map (·.1)).Nodup → (∀ x ∈ es, ∃ e, e.length = n ∧ x.1 = pad e) → ((es.map (unpadT n)).map (·.1)).Nodup := by
    intro es
    induction es with
    | nil => intro _ _; simp
    | cons x es ih =>
      intro hn hp
      simp only [List.map_cons, List.nodup_cons] at hn ⊢
      refine ⟨fun hm => ?_, ih hn.2 fun y hy => hp y (by simp [hy])⟩
      obtain ⟨y, hy, e⟩ := List.mem_map.1 hm
      obtain ⟨z, hz, rfl⟩ := List.mem_map.1 hy
      obtain ⟨a, ha, e1⟩ := hp x (by simp)
      obtain ⟨b, hb, e2⟩ := hp z (by simp [hz])
      refine hn.1 (List.mem_map.2 ⟨z, hz, ?_⟩)
      simp only [unpadT] at e
      rw [e1, e2] at e ⊢
      have q1 : (pad a).take n = a := by rw [← ha]; exact pad_take
      have q2 : (pad b).take n = b := by rw [← hb]; exact pad_take
      rw [q1, q2] at e
      rw [e]
  exact this es h.nod fun x hx => (h.nz x hx).2
theorem unpad_nf2 {n : Nat} {es l : List (List Int × Int)} (h : MapR n es l) (hl : ∀ x ∈ l, x.1.length = n) : nf lexlt (es.map (unpadT n)) = nf lexlt l :=
  nf_unique lexOrd (nf_desc lexOrd _) (nf_nz _) fun k => by rw [nf_co, unpad_co h hl]
theorem unpad_len {n : Nat} {es l : List (List Int × Int)} (h : MapR n es l) (hl : ∀ x ∈ l, x.1.length = n) : (nf lexlt l).length = es.length := by
  rw [← unpad_nf2 h hl, nf_len_eq _ (unpad_inj h), List.length_map]
  intro x hx
  obtain ⟨y, hy, rfl⟩ := List.mem_map.1 hx
  exact (h.nz y hy).1
theorem shutF_many {n : Nat} {es l : List (List Int × Int)} (h : MapR n es l) (hl : ∀ x ∈ l, x.1.length = n) (hm : 600 < es.length) : shutF n l = (zeroF, false) := by
  unfold shutF
  rw [if_neg]
  intro hr
  have := hr.2.1
  simp only [List.length_map] at this
  rw [unpad_len h hl] at this
  omega
theorem erase_perm {α : Type} : ∀ (l : List α) (i : Nat) (h : i < l.length), (l[i] :: l.eraseIdx i).Perm l
  | [], i, h => by simp at h
  | x :: l, 0, h => by simp
  | x :: l, i + 1, h => by
    simp only [List.getElem_cons_succ, List.eraseIdx_cons_succ]
    exact (List.Perm.swap ..).trans (List.Perm.cons x (erase_perm l i (by simpa using h)))
theorem sh8 (n : Nat) (k0 k1 k2 k3 k4 k5 k6 k7 : Int) : shareL (List.take n [D.v (.int .i64 k0), D.v (.int .i64 k1), D.v (.int .i64 k2), D.v (.int .i64 k3), D.v (.int .i64 k4), D.v (.int .i64 k5), D.v (.int .i64 k6), D.v (.int .i64 k7)]) = ints (List.take n [k0, k1, k2, k3, k4, k5, k6, k7]) := by
  rw [show ([D.v (.int .i64 k0), D.v (.int .i64 k1), D.v (.int .i64 k2), D.v (.int .i64 k3), D.v (.int .i64 k4), D.v (.int .i64 k5), D.v (.int .i64 k6), D.v (.int .i64 k7)] : List D) = ints [k0, k1, k2, k3, k4, k5, k6, k7] from rfl, ints_take, shareL_ints]
theorem impl_building_done_1_calls (x y : Trm) (hx : x.e.length < 4611686018427387904) (hy : y.e.length < 4611686018427387904) : ACalls Try.prog F.impl_building_done_1 [.ag [.d (shI x.e), .int x.c], .ag [.d (shI y.e), .int y.c]] [] true (fun outs res => outs = [] ∧ res = [.one (D.int (cmpL y.e x.e))]) := by
  refine ACalls.of_body (C := C.impl_building_done_1) (n := Try.f118.ntmps) tabT folT Try.func118 rfl (by kernel_rfl) rfl (Nat.le_of_ble_eq_true rfl) (by decide) (by kernel_rfl) (by kernel_rfl) rfl (by simp) (by simp) ?_
  simp only [Try.f118]
  refine wseq ?_
  refine wreg fun K hK => ?_
  simp [C.impl_building_done_1]
  refine hK _ ?_; clear hK K
  show AWp _ _ _ _ _
  refine wseq ?_
  refine wregI ([0, 1, 2, 3, 4] ++ ([5])) rfl fun K hK => ?_
  refine opsI_seg fun L hL => ?_
  simp [C.impl_building_done_1]
  refine wcall1 (slices_Compare_int_int_calls y.e x.e hy) (by simp) (by simp) ?_
  simp [C.impl_building_done_1]
  refine hL _ ?_; clear hL L
  refine opsI_end fun L hL => ?_
  simp [C.impl_building_done_1]
  refine hL _ ?_; clear hL L
  simp [C.impl_building_done_1]
  refine hK _ ?_; clear hK K
  show AWp _ _ _ _ _
  refine wret ?_
  simp [C.impl_building_done_1]

theorem impl_building_done_calls (hSort : SortOk) (n : Nat) (es l : List (List Int × Int)) (hM : MapR n es l) (hl : ∀ x ∈ l, x.1.length = n) (h1 : 1 ≤ n) (h8 : n ≤ 8) (hL : l.length ≤ 1000000) : ACalls Try.prog F.impl_building_done [.pt (0, 0) [] 0] [((0, 0), .bx [D.int n, .mp es])] true (fun outs res => outs = [.bx [D.int n, .mp es]] ∧ WkRs res [.ag (fO (shutF n l).1), .one (D.bool (shutF n l).2)]) := by
  refine ACalls.of_body (C := C.impl_building_done) (n := Try.f57.ntmps) tabT folT Try.func57 rfl (by kernel_rfl) rfl (Nat.le_of_ble_eq_true rfl) (by decide) (by kernel_rfl) (by kernel_rfl) rfl (by simp) (by simp) ?_
  simp only [Try.f57]
  refine wseq ?_
  refine wreg fun K hK => ?_
  simp [C.impl_building_done]
  refine hK _ ?_; clear hK K
  show AWp _ _ _ _ _
  refine wseq ?_
  refine wreg fun K hK => ?_
  simp [C.impl_building_done]
  refine hK _ ?_; clear hK K
  show AWp _ _ _ _ _
  refine wseq ?_
  refine wseq ?_
  refine wreg fun K hK => ?_
  simp [C.impl_building_done]
  refine hK _ ?_; clear hK K
  show AWp _ _ _ _ _
  refine wcond _ rfl (fun hc1 => ?_) (fun hc1 => ?_)
  · have hm := shutF_many hM hl (by have := d_t hc1; omega)
    refine wseq ?_
    refine wreg fun K hK => ?_
    simp [C.impl_building_done]
    refine hK _ ?_; clear hK K
    show AWp _ _ _ _ _
    refine wret ?_
    simp [C.impl_building_done, hm, fO, zeroF, rows]
  · have h600 : es.length ≤ 600 := by have := d_f hc1; omega
    refine wskip ?_
    show AWp _ _ _ _ _
    refine wseq ?_
    refine wseq ?_
    refine wreg fun K hK => ?_
    simp [C.impl_building_done]
    refine hK _ ?_; clear hK K
    show AWp _ _ _ _ _
    refine wblock ?_
    refine wloopW (fun x : List Trm × List (List Int × Int) × Option (List Int × Int) => ⟨ofL [(0, .pt (0, 0) [] 0), (2, .pt (2, 0) [] 0), (4, .pt (4, 0) [] 0), (23, .it (23, 0) (0, 0) [1] x.2.1 x.2.2), (1000, .pt (0, 0) [] 0)], ofRO [((0, 0), some (.bx [D.int n, .mp es])), ((2, 0), some (.bx [D.int 0, .v (.slice none 0 0)])), ((4, 0), some (.bx [D.int n, .ow 2 x.1.length (rows tO x.1)])), ((23, 0), some .itr)]⟩) (fun x => (x.1.map pr ++ x.2.1.map (unpadT n)).Perm (es.map (unpadT n)) ∧ ∀ y ∈ x.2.1, y ∈ es) (fun x => x.2.1.length) ([], es, none) [.cell (4, 0) [] 1 2] (by simp [C.impl_building_done, rows]; funext q; by_cases e4 : q = (4, 0); (subst e4; rfl); by_cases e9 : q = (9999, 0); (subst e9; rfl); simp [ofRO, e4, e9, Ne.symm e4]) ⟨by simp, fun y hy => hy⟩ ?_
    intro x1 hx1 R1 hR1
    obtain ⟨q, rest, cur⟩ := x1
    obtain ⟨hq, hin⟩ := hx1
    dsimp only at hq hin ⊢
    refine wseq ?_
    refine wreg fun K hK => ?_
    simp [C.impl_building_done]
    refine ⟨fun hrest => ?_, fun i xk xc hx => ?_⟩
    · refine hK _ ?_; clear hK K
      show AWp _ _ _ _ _
      refine wseq ?_
      refine wcond _ rfl (fun hc2 => ?_) (fun hc2 => ?_)
      · simp at hc2
      · subst hrest
        have hq2 : (q.map pr).Perm (es.map (unpadT n)) := by simpa using hq
        have hqe : ∀ t ∈ q, t.e.length = n := fun t ht => by
          have h3 := hq2.subset (List.mem_map.2 ⟨t, ht, rfl⟩)
          obtain ⟨y, hy, e⟩ := List.mem_map.1 h3
          have e2 : t.e = y.1.take n := by
            have := congrArg Prod.fst e
            simpa [pr, unpadT] using this.symm
          rw [e2, List.length_take, hM.len8 h8 y hy]
          omega
        have hqn : (q.map (·.e)).Nodup := by
          have h3 := (hq2.map (·.1)).nodup_iff.2 (unpad_inj hM)
          rw [List.map_map] at h3
          exact h3
        have hql : q.length = es.length := by simpa using hq2.length_eq
        refine wexit ?_
        show AWp _ _ _ _ _
        refine wseq ?_
        refine wregI ([0, 1, 2] ++ ([])) rfl fun K hK => ?_
        refine opsI_seg fun L hL => ?_
        simp [C.impl_building_done]
        refine wcall (hSort q (fun t ht => by have := hqe t ht; omega) hqn (by omega)) (by simp) (by simp) (by simp) ?_
        rintro outs res ⟨r, hr, hd, rfl, rfl⟩
        simp [C.impl_building_done]
        refine hL _ ?_; clear hL L
        refine opsI_end fun L hL => ?_
        simp only [AOpsI]
        refine hL _ ?_; clear hL L
        simp [C.impl_building_done]
        refine hK _ ?_; clear hK K
        show AWp _ _ _ _ _
        refine wseq ?_
        refine wseq ?_
        have hrl : r.length = q.length := hr.length_eq
        have hrn : r.map pr = nf lexlt l := unpad_nf hM hl ((hr.map pr).trans hq2) (by
          unfold Desc
          rw [List.pairwise_map]
          exact hd)
        have hrt : (nf lexlt l).map tm = r := by
          rw [← hrn, List.map_map]
          have : tm ∘ pr = id := rfl
          rw [this, List.map_id]
        refine wregI ([0, 1] ++ ([2])) rfl fun K hK => ?_
        refine opsI_seg fun L hL => ?_
        simp [C.impl_building_done, hrl]
        refine wcall1 (impl_LaurentOk_calls ⟨n, r⟩ (by dsimp only; omega) (fun t ht => by have := hqe t (hr.subset ht); omega)) (by simp [hrl]) (by simp) ?_
        simp [C.impl_building_done, hrl]
        refine hL _ ?_; clear hL L
        refine opsI_end fun L hL => ?_
        simp [C.impl_building_done, hrl]
        refine hL _ ?_; clear hL L
        simp [C.impl_building_done, hrl]
        refine hK _ ?_; clear hK K
        show AWp _ _ _ _ _
        refine wcond _ rfl (fun hc3 => ?_) (fun hc3 => ?_)
        · have hR : ¬ Right ⟨n, r⟩ := by simpa using hc3
          have hm : shutF n l = (zeroF, false) := by unfold shutF; rw [hrt, if_neg hR]
          refine wseq ?_
          refine wreg fun K hK => ?_
          simp [C.impl_building_done]
          refine hK _ ?_; clear hK K
          show AWp _ _ _ _ _
          refine wret ?_
          simp [C.impl_building_done, hm, fO, zeroF, rows]
        · have hR : Right ⟨n, r⟩ := by simpa using hc3
          have hm : shutF n l = (⟨n, r⟩, true) := by unfold shutF; rw [hrt, if_pos hR]
          refine wskip ?_
          show AWp _ _ _ _ _
          refine wseq ?_
          refine wreg fun K hK => ?_
          simp [C.impl_building_done]
          refine hK _ ?_; clear hK K
          show AWp _ _ _ _ _
          refine wret ?_
          simp [C.impl_building_done, hm, fO, hrl]
    · refine hK _ ?_; clear hK K
      show AWp _ _ _ _ _
      refine wseq ?_
      refine wcond _ rfl (fun hc4 => ?_) (fun hc4 => ?_)
      · have hxm : (xk, xc) ∈ rest := List.mem_of_getElem? hx
        have hxl := hM.len8 h8 _ (hin _ hxm)
        dsimp only at hxl
        obtain ⟨k0, k1, k2, k3, k4, k5, k6, k7, rfl⟩ := eight hxl
        have hql : q.length + rest.length = es.length := by simpa using hq.length_eq
        have hil : i < rest.length := by
          rcases Nat.lt_or_ge i rest.length with h | h
          · exact h
          · rw [List.getElem?_eq_none h] at hx; simp at hx
        refine wskip ?_
        show AWp _ _ _ _ _
        refine wblock ?_
        refine wseq ?_
        refine wreg fun K hK => ?_
        simp [C.impl_building_done]
        refine hK _ ?_; clear hK K
        show AWp _ _ _ _ _
        refine wdrawI [(true, 0), (true, 1), (true, 2), (true, 3), (true, 4), (true, 5), (true, 6), (true, 8), (false, 7), (true, 9), (false, 10), (false, 11), (true, 12), (false, 13)] ⟨by kernel_rfl, by kernel_rfl⟩ ([0, 1, 2, 3, 4, 5, 6, 8, 7] ++ ([9, 10, 11, 12, 13])) rfl fun K hK => ?_
        refine opsI_seg fun L hL => ?_
        simp [C.impl_building_done, tO_snoc, show ((n : Int) ≤ 8) by omega, h8, Nat.min_eq_left h8, sh8, show (q.length + 1) * 32 ≤ 140737488355328 by omega]
        refine wcall1 (clone_calls ([k0, k1, k2, k3, k4, k5, k6, k7].take n) (by simp; omega)) (by simp [tO_snoc, show ((n : Int) ≤ 8) by omega, h8, Nat.min_eq_left h8, sh8, show (q.length + 1) * 32 ≤ 140737488355328 by omega]) (by simp) ?_
        simp [C.impl_building_done, tO_snoc, show ((n : Int) ≤ 8) by omega, h8, Nat.min_eq_left h8, sh8, show (q.length + 1) * 32 ≤ 140737488355328 by omega]
        refine hL _ ?_; clear hL L
        refine opsI_end fun L hL => ?_
        simp [C.impl_building_done, tO_snoc, show ((n : Int) ≤ 8) by omega, h8, Nat.min_eq_left h8, sh8, show (q.length + 1) * 32 ≤ 140737488355328 by omega]
        refine hL _ ?_; clear hL L
        simp [C.impl_building_done, tO_snoc, show ((n : Int) ≤ 8) by omega, h8, Nat.min_eq_left h8, sh8, show (q.length + 1) * 32 ≤ 140737488355328 by omega]
        refine hK _ ?_; clear hK K
        simp [C.impl_building_done]
        have htl : ([k0, k1, k2, k3, k4, k5, k6, k7].take n).length = n := by simp; omega
        have hrow : rows tO q ++ [D.ow 1 n (ints (List.take n [k0, k1, k2, k3, k4, k5, k6, k7])), D.v (.int .i64 xc)] = rows tO (q ++ [⟨List.take n [k0, k1, k2, k3, k4, k5, k6, k7], xc⟩]) := by
          rw [← tO_snoc]
          simp only [htl]
        refine cast (congrArg R1 ?_) (hR1 (q ++ [⟨List.take n [k0, k1, k2, k3, k4, k5, k6, k7], xc⟩], rest.eraseIdx i, some ([k0, k1, k2, k3, k4, k5, k6, k7], xc)) ⟨?_, ?_⟩ ?_)
        · simp [hrow]
        · dsimp only
          have hget : rest[i] = ([k0, k1, k2, k3, k4, k5, k6, k7], xc) := by
            rw [List.getElem?_eq_getElem hil] at hx
            injection hx
          have hper := erase_perm rest i hil
          rw [hget] at hper
          refine List.Perm.trans ?_ hq
          rw [List.map_append, List.append_assoc]
          exact List.Perm.append_left _ (hper.map (unpadT n))
        · exact fun y hy => hin y (List.mem_of_mem_eraseIdx hy)
        · dsimp only
          rw [List.length_eraseIdx_of_lt hil]
          omega
      · simp at hc4

end Go.Proofs.Ytocknokodgnlbaa.Ab
namespace Go.Proofs.Ytocknokodgnlbaa.Ab
open Go
set_option linter.unusedSimpArgs false
set_option linter.unusedVariables false
theorem sfTerm : SfOk Try.prog F.slices_SortFunc_impl_Term_impl_Term 2 := by
  refine ⟨fun p cap fv w => ?_, fun α _ enc hk h1 cf hO g blk off cap d w eg hcmp hH hblk hsz => ?_⟩
  · have h := AnyF.slices_SortFunc_none sortTerm p cap fv w
    rw [sortTerm_f6] at h
    exact h
  · have h := AnyQ.slices_SortFunc sortTerm 2 sortTerm_agg sortTerm_size enc hk h1 cf hO g #[] blk off cap d w eg hcmp hH hblk hsz
    rw [sortTerm_f6] at h
    exact h
theorem lexlt_ntrans (a b c : List Int) (h1 : lexlt a b = false) (h2 : lexlt b c = false) : lexlt a c = false := by
  cases h : lexlt a c with
  | false => rfl
  | true =>
    exfalso
    rcases lexlt_tot a b with h3 | h3 | h3
    · rw [h1] at h3; simp at h3
    · subst h3
      rw [h2] at h; simp at h
    · have := lexlt_tr b a c h3 h
      rw [h2] at this; simp at this
theorem swoTerm : Go.Sort.SWO (ltOf fun x y : Trm => cmpL y.e x.e) where
  irrefl x := by unfold ltOf; rw [cmpL_neg]; exact lexlt_irr _
  trans x y z h1 h2 := by
    unfold ltOf at *
    rw [cmpL_neg] at *
    exact lexlt_tr _ _ _ h2 h1
  ntrans x y z h1 h2 := by
    unfold ltOf at *
    rw [cmpL_neg] at *
    exact lexlt_ntrans _ _ _ h2 h1
theorem sortOk : SortOk := by
  intro ts hts hnd hlen
  have h := sort_calls (P := Try.prog) (g := F.impl_building_done_1) ⟨Try.f117, _, Try.func117, rfl, by kernel_rfl⟩ sfTerm tO_two (by omega) (fun t => by simp [tO, noShL, noSh]) (fun l => by
    induction l with
    | nil => trivial
    | cons x l ih =>
      simp only [rows, tO, List.cons_append, List.nil_append, solidL]
      exact ⟨rfl, rfl, ih⟩) (fun x y : Trm => cmpL y.e x.e) swoTerm ts hlen (fun x hx y hy => by
    have := impl_building_done_1_calls x y (hts x hx) (hts y hy)
    simpa [tO, shareL, share, shareL_ints] using this)
  refine ACalls.mono h ?_
  rintro outs res ⟨r, h1, h2, h3, h4⟩
  refine ⟨r, h1, ?_, h3, h4⟩
  have hnr : (r.map (·.e)).Nodup := (h1.map (·.e)).nodup_iff.2 hnd
  unfold DescT
  rw [List.Nodup, List.pairwise_map] at hnr
  refine (h2.and hnr).imp ?_
  rintro a b ⟨h5, h6⟩
  have h7 : lexlt a.e b.e = false := by
    rw [← cmpL_neg]
    simpa using h5
  rcases lexlt_tot a.e b.e with h8 | h8 | h8
  · rw [h7] at h8; simp at h8
  · exact absurd h8 h6
  · exact h8
end Go.Proofs.Ytocknokodgnlbaa.Ab
namespace Go.Proofs.Ytocknokodgnlbaa.Ab
open Go
theorem doneOk : DoneOk := fun n es l hM hl h1 h8 hL => (impl_building_done_calls sortOk n es l hM hl h1 h8 hL).weak1
theorem mulOk : MulOk := iMul_calls doneOk
end Go.Proofs.Ytocknokodgnlbaa.Ab
namespace Go.Proofs.Ytocknokodgnlbaa.Ab
open Go
set_option linter.unusedSimpArgs false
set_option linter.unusedVariables false
set_option maxRecDepth 10000
set_option maxHeartbeats 2000000
def prk (k : Int) (t : Trm) : List Int × Int := (t.e, k * t.c)
noncomputable def addF (f : Lau) (k : Int) (g : Lau) : Lau × Bool := if (Right f ∧ Right g ∧ f.v = g.v) ∧ (-1000 ≤ k ∧ k ≤ 1000) then shutF f.v (f.ts.map pr ++ g.ts.map (prk k)) else (zeroF, false)
theorem impl_AddLaurents_calls (f : Lau) (k : Int) (g : Lau) (hx : f.ts.length < 4611686018427387904) (hxe : ∀ t ∈ f.ts, t.e.length < 4611686018427387904) (hy : g.ts.length < 4611686018427387904) (hye : ∀ t ∈ g.ts, t.e.length < 4611686018427387904) : ACalls Try.prog F.impl_AddLaurents [aF f, .int k, aF g] [] true (fun outs res => outs = [] ∧ WkRs res [.ag (fO (addF f k g).1), .one (D.bool (addF f k g).2)]) := by
  refine ACalls.of_body (C := C.impl_AddLaurents) (n := Try.f18.ntmps) tabT folT Try.func18 rfl (by kernel_rfl) rfl (Nat.le_of_ble_eq_true rfl) (by decide) (by kernel_rfl) (by kernel_rfl) rfl (by simp) (by simp) ?_
  simp only [Try.f18]
  refine wseq ?_
  refine wreg fun K hK => ?_
  simp [C.impl_AddLaurents, fS]
  refine hK _ ?_; clear hK K
  show AWp _ _ _ _ _
  refine wseq ?_
  refine wseq ?_
  refine wregI ([0, 1, 2] ++ ([3, 4, 5, 6] ++ ([7, 8]))) rfl fun K hK => ?_
  have hJ : K ⟨ofL [(1, .int k), (3, .pt (3, 0) [] 0), (5, .pt (5, 0) [] 0), (6, .pt (6, 0) [] 0), (21, .bool (!decide ((Right f ∧ Right g ∧ f.v = g.v) ∧ (-1000 ≤ k ∧ k ≤ 1000))))], ofRO [((3, 0), some (.bx (fS f))), ((5, 0), some (.bx (fS g))), ((6, 0), some (.bx [D.int 0, .v (.slice none 0 0)]))]⟩ := by
    refine hK _ ?_; clear hK K
    show AWp _ _ _ _ _
    refine wcond _ rfl (fun hc1 => ?_) (fun hc1 => ?_)
    · have hr := nd_t hc1
      have hm : addF f k g = (zeroF, false) := if_neg hr
      refine wseq ?_
      refine wreg fun K hK => ?_
      simp [C.impl_AddLaurents, fS]
      refine hK _ ?_; clear hK K
      show AWp _ _ _ _ _
      refine wret ?_
      simp [C.impl_AddLaurents, fS, hm, fO, zeroF, rows]
    · have hr := nd_f hc1
      obtain ⟨⟨hf, hg, hfg⟩, hk⟩ := hr
      have hv := hf.1
      obtain ⟨n, hn⟩ : ∃ n : Nat, f.v = n := ⟨f.v.toNat, by omega⟩
      have hn2 : g.v = n := by omega
      have hn8 : n ≤ 8 := by omega
      have hfl := hf.2.1
      have hgl := hg.2.1
      have hm : addF f k g = shutF n (f.ts.map pr ++ g.ts.map (prk k)) := by
        unfold addF
        rw [if_pos ⟨⟨hf, hg, hfg⟩, hk⟩, hn]
      refine wskip ?_
      show AWp _ _ _ _ _
      refine wseq ?_
      refine wregI ([0, 1, 2] ++ ([3])) rfl fun K hK => ?_
      refine opsI_seg fun L hL => ?_
      simp [C.impl_AddLaurents, fS, hn]
      refine wcall1 (impl_newBuilding_calls n) (by simp) (by simp) ?_
      simp [C.impl_AddLaurents, fS, hn]
      refine hL _ ?_; clear hL L
      refine opsI_end fun L hL => ?_
      simp [C.impl_AddLaurents, fS, hn]
      refine hL _ ?_; clear hL L
      simp [C.impl_AddLaurents, fS, hn]
      refine hK _ ?_; clear hK K
      show AWp _ _ _ _ _
      refine wseq ?_
      refine wseq ?_
      refine wreg fun K hK => ?_
      simp [C.impl_AddLaurents, fS]
      refine hK _ ?_; clear hK K
      show AWp _ _ _ _ _
      refine wblock ?_
      refine wloop (fun x : Nat × List (List Int × Int) × List (List Int × Int) => ⟨ofL [(1, .int k), (5, .pt (5, 0) [] 0), (6, .pt (6, 0) [] 0), (8, .pt (8, 0) [] 0), (27, .d (.sh 2 f.ts.length (rows tS f.ts))), (28, .int f.ts.length), (29, .int x.1)], ofRO [((5, 0), some (.bx (fS g))), ((6, 0), some (.bx [D.int 0, .v (.slice none 0 0)])), ((8, 0), some (.bx [D.int n, .mp x.2.1]))]⟩) (fun x => x.1 ≤ f.ts.length ∧ MapR n x.2.1 x.2.2 ∧ x.2.2.Perm ((f.ts.take x.1).map pr) ∧ absE x.2.2 ≤ x.1 * 1000000) (fun x => f.ts.length - x.1) (0, [], []) (by simp [C.impl_AddLaurents, fS]) ⟨by simp, MapR.nil n, by simp, by simp [absE]⟩ ?_
      intro x1 hx1 R1 hR1
      obtain ⟨j, es, l⟩ := x1
      obtain ⟨hj, hM, hP, hA⟩ := hx1
      dsimp only at hj hM hP hA ⊢
      refine wseq ?_
      refine wreg fun K hK => ?_
      simp [C.impl_AddLaurents, fS]
      refine hK _ ?_; clear hK K
      show AWp _ _ _ _ _
      refine wseq ?_
      refine wcond _ rfl (fun hc2 => ?_) (fun hc2 => ?_)
      · have h1 : j < f.ts.length := by have := d_t hc2; omega
        have hT := right_dig hf hn _ (List.getElem_mem h1)
        refine wskip ?_
        show AWp _ _ _ _ _
        refine wseq ?_
        refine wblock ?_
        refine wseq ?_
        refine wreg fun K hK => ?_
        simp [C.impl_AddLaurents, fS, h1, tS_0 h1, tS_1 h1]
        refine hK _ ?_; clear hK K
        show AWp _ _ _ _ _
        obtain ⟨a0, a1, a2, a3, a4, a5, a6, a7, hpa⟩ := eight (pad_length (e := f.ts[j].e) (by omega))
        have hval := hM.val _ hT.1
        have hco := co_abs f.ts[j].e l
        refine wdrawI [(true, 0), (true, 1), (true, 2), (true, 4), (true, 5), (false, 3), (false, 6)] ⟨by kernel_rfl, by kernel_rfl⟩ ([0, 1, 2, 4, 5, 3] ++ ([6] ++ ([]))) rfl fun K hK => ?_
        refine opsI_seg fun L hL => ?_
        simp [C.impl_AddLaurents, fS, tS]
        refine wcall1 (impl_keyOf_calls f.ts[j].e (by omega) a0 a1 a2 a3 a4 a5 a6 a7 hpa) (by simp) (by simp) ?_
        simp [C.impl_AddLaurents, fS, tS]
        refine hL _ ?_; clear hL L
        refine opsI_seg fun L hL => ?_
        simp [C.impl_AddLaurents, fS, tS]
        refine wcall1 (impl_building_add_calls n f.ts[j].c es a0 a1 a2 a3 a4 a5 a6 a7 (hM.len8 hn8) (by rw [← hpa, hval]; have := hT.2.2.2; omega)) (by simp) (by simp) ?_
        simp [C.impl_AddLaurents, fS, tS]
        refine hL _ ?_; clear hL L
        refine opsI_end fun L hL => ?_
        simp only [AOpsI]
        refine hL _ ?_; clear hL L
        simp [C.impl_AddLaurents, fS, tS]
        rw [← hpa]
        refine hK _ ?_; clear hK K
        show AWp _ _ _ _ _
        refine wreg fun K hK => ?_
        simp [C.impl_AddLaurents, fS, wrap_succ (show j < 4611686018427387904 by omega)]
        refine hK _ ?_; clear hK K
        simp [C.impl_AddLaurents, fS]
        refine hR1 (j + 1, _, (f.ts[j].e, f.ts[j].c) :: l) ⟨h1, hM.add hT.1 _, ?_, ?_⟩ (by dsimp only; omega)
        · dsimp only
          rw [List.take_succ_eq_append_getElem h1, List.map_append]
          refine (List.Perm.cons _ hP).trans ?_
          exact (List.perm_append_singleton _ _).symm
        · have := hT.2.2.2
          have h3 : f.ts[j].c.natAbs ≤ 1000000 := by omega
          simp only [absE, List.map_cons, List.sum_cons] at hA ⊢
          omega
      · have h1 : j = f.ts.length := by have := d_f hc2; omega
        rw [h1, List.take_length] at hP
        refine wexit ?_
        show AWp _ _ _ _ _
        refine wseq ?_
        refine wseq ?_
        refine wreg fun K hK => ?_
        simp [C.impl_AddLaurents, fS]
        refine hK _ ?_; clear hK K
        show AWp _ _ _ _ _
        refine wblock ?_
        refine wloop (fun x : Nat × List (List Int × Int) × List (List Int × Int) => ⟨ofL [(1, .int k), (6, .pt (6, 0) [] 0), (8, .pt (8, 0) [] 0), (42, .d (.sh 2 g.ts.length (rows tS g.ts))), (43, .int g.ts.length), (44, .int x.1)], ofRO [((6, 0), some (.bx [D.int 0, .v (.slice none 0 0)])), ((8, 0), some (.bx [D.int n, .mp x.2.1]))]⟩) (fun x => x.1 ≤ g.ts.length ∧ MapR n x.2.1 x.2.2 ∧ x.2.2.Perm (f.ts.map pr ++ (g.ts.take x.1).map (prk k)) ∧ absE x.2.2 ≤ 600000000 + x.1 * 1000000000) (fun x => g.ts.length - x.1) (0, es, l) (by simp [C.impl_AddLaurents, fS]) ⟨by simp, hM, by simpa using hP, by dsimp only; omega⟩ ?_
        intro x2 hx2 R2 hR2
        obtain ⟨i, es2, l2⟩ := x2
        obtain ⟨hi, hM2, hP2, hA2⟩ := hx2
        dsimp only at hi hM2 hP2 hA2 ⊢
        refine wseq ?_
        refine wreg fun K hK => ?_
        simp [C.impl_AddLaurents, fS]
        refine hK _ ?_; clear hK K
        show AWp _ _ _ _ _
        refine wseq ?_
        refine wcond _ rfl (fun hc3 => ?_) (fun hc3 => ?_)
        · have h2 : i < g.ts.length := by have := d_t hc3; omega
          have hU := right_dig hg hn2 _ (List.getElem_mem h2)
          have hkc : (k * g.ts[i].c).natAbs ≤ 1000 * 1000000 := by
            rw [Int.natAbs_mul]
            exact Nat.mul_le_mul (by omega) (by have := hU.2.2.2; omega)
          refine wskip ?_
          show AWp _ _ _ _ _
          refine wseq ?_
          refine wblock ?_
          refine wseq ?_
          refine wreg fun K hK => ?_
          simp [C.impl_AddLaurents, fS, h2, tS_0 h2, tS_1 h2]
          refine hK _ ?_; clear hK K
          show AWp _ _ _ _ _
          obtain ⟨a0, a1, a2, a3, a4, a5, a6, a7, hpa⟩ := eight (pad_length (e := g.ts[i].e) (by omega))
          have hval := hM2.val _ hU.1
          have hco := co_abs g.ts[i].e l2
          refine wdrawI [(true, 0), (true, 1), (true, 2), (true, 4), (true, 5), (true, 6), (true, 7), (false, 3), (false, 8)] ⟨by kernel_rfl, by kernel_rfl⟩ ([0, 1, 2, 4, 5, 6, 7, 3] ++ ([8] ++ ([]))) rfl fun K hK => ?_
          refine opsI_seg fun L hL => ?_
          simp [C.impl_AddLaurents, fS, tS, wrapOk (x := k * g.ts[i].c) (by omega) (by omega)]
          refine wcall1 (impl_keyOf_calls g.ts[i].e (by omega) a0 a1 a2 a3 a4 a5 a6 a7 hpa) (by simp) (by simp) ?_
          simp [C.impl_AddLaurents, fS, tS, wrapOk (x := k * g.ts[i].c) (by omega) (by omega)]
          refine hL _ ?_; clear hL L
          refine opsI_seg fun L hL => ?_
          simp [C.impl_AddLaurents, fS, tS, wrapOk (x := k * g.ts[i].c) (by omega) (by omega)]
          refine wcall1 (impl_building_add_calls n (k * g.ts[i].c) es2 a0 a1 a2 a3 a4 a5 a6 a7 (hM2.len8 hn8) (by rw [← hpa, hval]; omega)) (by simp) (by simp) ?_
          simp [C.impl_AddLaurents, fS, tS, wrapOk (x := k * g.ts[i].c) (by omega) (by omega)]
          refine hL _ ?_; clear hL L
          refine opsI_end fun L hL => ?_
          simp only [AOpsI]
          refine hL _ ?_; clear hL L
          simp [C.impl_AddLaurents, fS, tS, wrapOk (x := k * g.ts[i].c) (by omega) (by omega)]
          rw [← hpa]
          refine hK _ ?_; clear hK K
          show AWp _ _ _ _ _
          refine wreg fun K hK => ?_
          simp [C.impl_AddLaurents, fS, wrap_succ (show i < 4611686018427387904 by omega)]
          refine hK _ ?_; clear hK K
          simp [C.impl_AddLaurents, fS]
          refine hR2 (i + 1, _, (g.ts[i].e, k * g.ts[i].c) :: l2) ⟨h2, hM2.add hU.1 _, ?_, ?_⟩ (by dsimp only; omega)
          · dsimp only
            rw [List.take_succ_eq_append_getElem h2, List.map_append, ← List.append_assoc]
            refine (List.Perm.cons _ hP2).trans ?_
            exact (List.perm_append_singleton _ _).symm
          · simp only [absE, List.map_cons, List.sum_cons] at hA2 ⊢
            omega
        · have h2 : i = g.ts.length := by have := d_f hc3; omega
          have hall : l2.Perm (f.ts.map pr ++ g.ts.map (prk k)) := by
            rw [h2, List.take_length] at hP2
            exact hP2
          have hlen : ∀ x ∈ l2, x.1.length = n := fun x hx => by
            rcases List.mem_append.1 (hall.subset hx) with h | h
            · obtain ⟨t, ht, rfl⟩ := List.mem_map.1 h
              exact (right_dig hf hn t ht).1
            · obtain ⟨t, ht, rfl⟩ := List.mem_map.1 h
              exact (right_dig hg hn2 t ht).1
          have hll : l2.length ≤ 1000000 := by rw [hall.length_eq, List.length_append, List.length_map, List.length_map]; omega
          have hs := shutF_perm hall n
          refine wexit ?_
          show AWp _ _ _ _ _
          refine wseq ?_
          refine wregI ([0, 1] ++ ([2, 3, 4, 5])) rfl fun K hK => ?_
          refine opsI_seg fun L hL => ?_
          simp [C.impl_AddLaurents, fS, fO]
          refine wcall1 (doneOk n es2 l2 hM2 hlen (by omega) hn8 hll) (by simp) (by simp) ?_
          simp [C.impl_AddLaurents, fS, fO]
          refine hL _ ?_; clear hL L
          refine opsI_end fun L hL => ?_
          simp [C.impl_AddLaurents, fS, fO]
          refine hL _ ?_; clear hL L
          simp [C.impl_AddLaurents, fS, fO]
          refine hK _ ?_; clear hK K
          show AWp _ _ _ _ _
          refine wret ?_
          simp [C.impl_AddLaurents, fS, hm, ← hs, fO]
  clear hK
  by_cases ha : Right f ∧ Right g ∧ f.v = g.v
  · have hvv := ha.2.2
    refine opsI_seg fun L hL => ?_
    simp [C.impl_AddLaurents, fS, ha]
    refine wcall1 (impl_bothOk_calls f g hx hxe hy hye) (by simp; omega) (by simp) ?_
    simp [C.impl_AddLaurents, fS, ha]
    refine hL _ ?_; clear hL L
    refine opsI_seg fun L hL => ?_
    simp [C.impl_AddLaurents, fS, ha]
    refine wcall1 (impl_within_calls k (-1000) 1000) (by simp) (by simp) ?_
    simp [C.impl_AddLaurents, fS, ha]
    refine hL _ ?_; clear hL L
    refine opsI_end fun L hL => ?_
    simp [C.impl_AddLaurents, fS, ha]
    refine hL _ ?_; clear hL L
    simp [C.impl_AddLaurents, fS, ha]
    refine cast (congrArg K ?_) hJ
    simp [fS, ha]
  · refine opsI_seg fun L hL => ?_
    simp [C.impl_AddLaurents, fS, ha]
    refine wcall1 (impl_bothOk_calls f g hx hxe hy hye) (by simp) (by simp) ?_
    simp [C.impl_AddLaurents, fS, ha]
    refine hL _ ?_; clear hL L
    refine opsI_seg fun L hL => ?_
    simp [C.impl_AddLaurents, fS, ha]
    refine hL _ ?_; clear hL L
    refine opsI_end fun L hL => ?_
    simp [C.impl_AddLaurents, fS, ha]
    refine hL _ ?_; clear hL L
    simp [C.impl_AddLaurents, fS, ha]
    refine cast (congrArg K ?_) hJ
    simp [fS, ha]
theorem iAdd_calls (f : Lau) (k : Int) (g : Lau) (hx : f.ts.length < 4611686018427387904) (hxe : ∀ t ∈ f.ts, t.e.length < 4611686018427387904) (hy : g.ts.length < 4611686018427387904) (hye : ∀ t ∈ g.ts, t.e.length < 4611686018427387904) : ACalls Try.prog F.impl_AddLaurents [aF f, .int k, aF g] [] true (fun outs res => outs = [] ∧ res = [.ag (fO (addF f k g).1), .one (D.bool (addF f k g).2)]) := (impl_AddLaurents_calls f k g hx hxe hy hye).weak1

end Go.Proofs.Ytocknokodgnlbaa.Ab
namespace Go.Proofs.Ytocknokodgnlbaa.Ab
open Go
set_option linter.unusedSimpArgs false
set_option linter.unusedVariables false
set_option maxRecDepth 10000
set_option maxHeartbeats 2000000
theorem sum_coded (f g : Lau) (k : Int) : f.ts.map kt ++ (g.ts.map kt).map (scM k) = (f.ts.map pr ++ g.ts.map (prk k)).map kc := by
  rw [List.map_append, List.map_map, List.map_map, List.map_map]
  rfl
theorem sum_exps {f g : Lau} (k : Int) (hf : Right f) (hg : Right g) {n : Nat} (h1 : f.v = n) (h2 : g.v = n) : Exps n (f.ts.map pr ++ g.ts.map (prk k)) := fun z hz => by
  rcases List.mem_append.1 hz with hz | hz
  · obtain ⟨t, ht, rfl⟩ := List.mem_map.1 hz
    have := right_dig hf h1 t ht
    exact ⟨this.1, this.2.1⟩
  · obtain ⟨t, ht, rfl⟩ := List.mem_map.1 hz
    have := right_dig hg h2 t ht
    exact ⟨this.1, this.2.1⟩
theorem mon_abs {l : List (Int × Int)} (h : MonOk l) (hl : l.length ≤ 600) : absL l ≤ 600000000 := by
  have := absL_le (l := l) (B := 1000000) fun x hx => by have := (h x hx).2; omega
  omega
theorem spec_AddLaurents_calls (f : Lau) (k : Int) (g : Lau) (hx : f.ts.length < 4611686018427387904) (hxe : ∀ t ∈ f.ts, t.e.length < 4611686018427387904) (hy : g.ts.length < 4611686018427387904) (hye : ∀ t ∈ g.ts, t.e.length < 4611686018427387904) : ACalls Try.prog F.spec_AddLaurents [aF f, .int k, aF g] [] true (fun outs res => outs = [] ∧ WkRs res [.ag (fO (addF f k g).1), .one (D.bool (addF f k g).2)]) := by
  have hcall := spec_l2Two_calls f g hx hxe hy hye
  generalize hB : decide (Right f ∧ Right g ∧ f.v = g.v) = B at hcall
  refine ACalls.of_body (C := C.spec_AddLaurents) (n := Try.f103.ntmps) tabT folT Try.func103 rfl (by kernel_rfl) rfl (Nat.le_of_ble_eq_true rfl) (by decide) (by kernel_rfl) (by kernel_rfl) rfl (by simp) (by simp) ?_
  simp only [Try.f103]
  refine wseq ?_
  refine wreg fun K hK => ?_
  simp [C.spec_AddLaurents, fS]
  refine hK _ ?_; clear hK K
  show AWp _ _ _ _ _
  refine wseq ?_
  refine wseq ?_
  refine wregI ([0, 1, 2] ++ ([3, 4, 5, 6] ++ ([7, 8]))) rfl fun K hK => ?_
  have hJ : K ⟨ofL [(1, .int k), (3, .pt (3, 0) [] 0), (5, .pt (5, 0) [] 0), (6, .pt (6, 0) [] 0), (16, .bool (!(B && decide (-1000 ≤ k ∧ k ≤ 1000))))], ofRO [((3, 0), some (.bx (fS f))), ((5, 0), some (.bx (fS g))), ((6, 0), some (.bx [D.int 0, .v (.slice none 0 0)]))]⟩ := by
    refine hK _ ?_; clear hK K
    show AWp _ _ _ _ _
    refine wcond _ rfl (fun hc1 => ?_) (fun hc1 => ?_)
    · have hr : ¬ ((Right f ∧ Right g ∧ f.v = g.v) ∧ (-1000 ≤ k ∧ k ≤ 1000)) := by
        rintro ⟨h1, h2⟩
        rw [← hB, decide_eq_true h1, decide_eq_true h2] at hc1
        simp at hc1
      have hm : addF f k g = (zeroF, false) := if_neg hr
      refine wseq ?_
      refine wreg fun K hK => ?_
      simp [C.spec_AddLaurents, fS]
      refine hK _ ?_; clear hK K
      show AWp _ _ _ _ _
      refine wret ?_
      simp [C.spec_AddLaurents, fS, hm, fO, zeroF, rows]
    · have hr : (Right f ∧ Right g ∧ f.v = g.v) ∧ (-1000 ≤ k ∧ k ≤ 1000) := by
        rw [← hB] at hc1
        simpa using hc1
      obtain ⟨⟨hf, hg, hfg⟩, hk⟩ := hr
      have hv := hf.1
      obtain ⟨n, hn⟩ : ∃ n : Nat, f.v = n := ⟨f.v.toNat, by omega⟩
      have hn2 : g.v = n := by omega
      have hn8 : n ≤ 8 := by omega
      have hfl := hf.2.1
      have hgl := hg.2.1
      have hE := sum_exps k hf hg hn hn2
      have hnf : nf ilt (f.ts.map kt ++ (g.ts.map kt).map (scM k)) = ((nf lexlt (f.ts.map pr ++ g.ts.map (prk k))).map tm).map kt := by
        rw [sum_coded, nf_key _ hE, List.map_map, kt_tm]
      obtain ⟨T, hT⟩ : ∃ T, T = (nf lexlt (f.ts.map pr ++ g.ts.map (prk k))).map tm := ⟨_, rfl⟩
      rw [← hT] at hnf
      have hTl : T.length ≤ 1000000 := by
        rw [hT, List.length_map]
        have h1 := nf_len (lt := lexlt) (f.ts.map pr ++ g.ts.map (prk k))
        rw [List.length_append, List.length_map, List.length_map] at h1
        omega
      have hTe : ∀ t ∈ T, Dig t.e ∧ t.e.length = n := fun t ht => by
        rw [hT] at ht
        obtain ⟨z, hz, rfl⟩ := List.mem_map.1 ht
        have := nf_exps hE z hz
        exact ⟨this.2, this.1⟩
      have hm : addF f k g = if Right ⟨f.v, T⟩ then (⟨f.v, T⟩, true) else (zeroF, false) := by
        unfold addF
        rw [if_pos ⟨⟨hf, hg, hfg⟩, hk⟩]
        unfold shutF
        rw [← hT]
      have hdf : ∀ t ∈ f.ts, Dig t.e ∧ t.e.length ≤ 8 := fun t ht => by have := right_dig hf hn t ht; exact ⟨this.2.1, by omega⟩
      have hdg : ∀ t ∈ g.ts, Dig t.e ∧ t.e.length ≤ 8 := fun t ht => by have := right_dig hg hn2 t ht; exact ⟨this.2.1, by omega⟩
      have hab1 := mon_abs (right_mon hf hn) (by simpa using hfl)
      have hab2 := mon_abs (right_mon hg hn2) (by simpa using hgl)
      have hab3 : k.natAbs * absL (g.ts.map kt) ≤ 1000 * 600000000 := Nat.mul_le_mul (by omega) hab2
      have hPlus := spec_l2Plus_calls (f.ts.map kt) (g.ts.map kt) k (by simp only [List.length_map]; omega) (by omega)
      rw [hnf] at hPlus
      simp only [List.length_map] at hPlus
      refine wskip ?_
      show AWp _ _ _ _ _
      refine wseq ?_
      refine wdrawI [(true, 0), (true, 2), (true, 3), (true, 6), (true, 7), (false, 1), (false, 4), (false, 5), (false, 8), (true, 9), (true, 10), (false, 11), (true, 12)] ⟨by kernel_rfl, by kernel_rfl⟩ ([0, 2, 3, 6, 7, 1] ++ ([4] ++ ([5] ++ ([8] ++ ([9, 10, 11, 12]))))) rfl fun K hK => ?_
      refine opsI_seg fun L hL => ?_
      simp [C.spec_AddLaurents, fS]
      refine wcall1 (spec_l2Open_calls f (by omega) hdf) (by simp) (by simp) ?_
      simp [C.spec_AddLaurents, fS]
      refine hL _ ?_; clear hL L
      refine opsI_seg fun L hL => ?_
      simp [C.spec_AddLaurents, fS]
      refine wcall1 (spec_l2Open_calls g (by omega) hdg) (by simp) (by simp) ?_
      simp [C.spec_AddLaurents, fS]
      refine hL _ ?_; clear hL L
      refine opsI_seg fun L hL => ?_
      simp [C.spec_AddLaurents, fS]
      refine wcall1 (hPlus) (by simp) (by simp) ?_
      simp [C.spec_AddLaurents, fS]
      refine hL _ ?_; clear hL L
      refine opsI_seg fun L hL => ?_
      simp [C.spec_AddLaurents, fS]
      refine wcall1 (l2Shut_calls T n hTl hTe hn8) (by simp; omega) (by simp) ?_
      simp [C.spec_AddLaurents, fS]
      refine hL _ ?_; clear hL L
      refine opsI_end fun L hL => ?_
      simp [C.spec_AddLaurents, fS]
      refine hL _ ?_; clear hL L
      simp [C.spec_AddLaurents, fS]
      refine hK _ ?_; clear hK K
      show AWp _ _ _ _ _
      refine wret ?_
      simp [C.spec_AddLaurents, fS]
      rw [hm, hn]
      by_cases hR : Right ⟨(n : Int), T⟩
      · simp [hR, fO]
      · simp [hR, fO]
  clear hK
  by_cases ha : B = true
  · refine opsI_seg fun L hL => ?_
    simp [C.spec_AddLaurents, fS, ha]
    refine wcall1 (hcall) (by simp) (by simp) ?_
    simp [C.spec_AddLaurents, fS, ha]
    refine hL _ ?_; clear hL L
    refine opsI_seg fun L hL => ?_
    simp [C.spec_AddLaurents, fS, ha]
    refine wcall1 (spec_l1In_calls k (-1000) 1000) (by simp) (by simp) ?_
    simp [C.spec_AddLaurents, fS, ha]
    refine hL _ ?_; clear hL L
    refine opsI_end fun L hL => ?_
    simp [C.spec_AddLaurents, fS, ha]
    refine hL _ ?_; clear hL L
    simp [C.spec_AddLaurents, fS, ha]
    refine cast (congrArg K ?_) hJ
    simp [fS, ha]
  · refine opsI_seg fun L hL => ?_
    simp [C.spec_AddLaurents, fS, ha]
    refine wcall1 (hcall) (by simp) (by simp) ?_
    simp [C.spec_AddLaurents, fS, ha]
    refine hL _ ?_; clear hL L
    refine opsI_seg fun L hL => ?_
    simp [C.spec_AddLaurents, fS, ha]
    refine hL _ ?_; clear hL L
    refine opsI_end fun L hL => ?_
    simp [C.spec_AddLaurents, fS, ha]
    refine hL _ ?_; clear hL L
    simp [C.spec_AddLaurents, fS, ha]
    refine cast (congrArg K ?_) hJ
    simp [fS, ha]
theorem sAdd_calls (f : Lau) (k : Int) (g : Lau) (hx : f.ts.length < 4611686018427387904) (hxe : ∀ t ∈ f.ts, t.e.length < 4611686018427387904) (hy : g.ts.length < 4611686018427387904) (hye : ∀ t ∈ g.ts, t.e.length < 4611686018427387904) : ACalls Try.prog F.spec_AddLaurents [aF f, .int k, aF g] [] true (fun outs res => outs = [] ∧ res = [.ag (fO (addF f k g).1), .one (D.bool (addF f k g).2)]) := (spec_AddLaurents_calls f k g hx hxe hy hye).weak1

end Go.Proofs.Ytocknokodgnlbaa.Ab
namespace Go.Proofs.Ytocknokodgnlbaa.Ab
open Go
set_option linter.unusedSimpArgs false
set_option linter.unusedVariables false
theorem lexlt_app : ∀ (a b z : List Int), a.length = b.length → lexlt (a ++ z) (b ++ z) = lexlt a b
  | [], [], z, _ => by simp [lexlt_irr, lexlt]
  | x :: a, y :: b, z, h => by simp [lexlt, lexlt_app a b z (by simpa using h)]
  | [], _ :: _, _, h => by simp at h
  | _ :: _, [], _, h => by simp at h
theorem lexlt_pad {a b : List Int} (h : a.length = b.length) : lexlt (pad a) (pad b) = lexlt a b := by
  unfold pad
  rw [← h]
  exact lexlt_app a b _ h
theorem mget_some {k : List Int} {v : Int} : ∀ {es : List (List Int × Int)}, mget k es = some v → (k, v) ∈ es
  | [], h => by simp [mget] at h
  | x :: es, h => by
    simp only [mget] at h
    split at h
    · rename_i e
      simp only [Option.some.injEq] at h
      subst h
      have : x = (k, x.2) := Prod.ext e rfl
      rw [← this]; simp
    · exact List.mem_cons_of_mem _ (mget_some h)
theorem mget_mem {k : List Int} {v : Int} : ∀ {es : List (List Int × Int)}, (es.map (·.1)).Nodup → (k, v) ∈ es → mget k es = some v
  | [], _, h => by simp at h
  | x :: es, hn, h => by
    simp only [List.map_cons, List.nodup_cons] at hn
    simp only [mget]
    rcases List.mem_cons.1 h with e | h
    · rw [← e]; simp
    · rw [if_neg]
      · exact mget_mem hn.2 h
      · rintro e
        exact hn.1 (List.mem_map.2 ⟨(k, v), h, e.symm⟩)
/-- The greatest key of what has come by. -/
structure TopJ (P : List (List Int × Int)) (top : List Int) : Prop where
  len : top.length = 8
  mem : P ≠ [] → ∃ c, (top, c) ∈ P
  max : ∀ y ∈ P, lexlt top y.1 = false
theorem TopJ.keep {P : List (List Int × Int)} {top : List Int} (h : TopJ P top) {y : List Int × Int} (hne : P ≠ []) (hy : lexlt top y.1 = false) : TopJ (P ++ [y]) top := by
  obtain ⟨c, hc⟩ := h.mem hne
  refine ⟨h.len, fun _ => ⟨c, by simp [hc]⟩, fun z hz => ?_⟩
  rcases List.mem_append.1 hz with hz | hz
  · exact h.max z hz
  · simp only [List.mem_singleton] at hz
    subst hz; exact hy
theorem TopJ.next {P : List (List Int × Int)} {top : List Int} (h : TopJ P top) {y : List Int × Int} (hl : y.1.length = 8) (hy : P = [] ∨ lexlt top y.1 = true) : TopJ (P ++ [y]) y.1 := by
  refine ⟨hl, fun _ => ⟨y.2, by simp⟩, fun z hz => ?_⟩
  rcases List.mem_append.1 hz with hz | hz
  · rcases hy with rfl | hy
    · simp at hz
    · cases hq : lexlt y.1 z.1 with
      | false => rfl
      | true =>
        have h1 := h.max z hz
        have h2 := lexlt_tr _ _ _ hy hq
        rw [h1] at h2; simp at h2
  · simp only [List.mem_singleton] at hz
    subst hz; exact lexlt_irr _
/-- The greatest key is that of the first term. -/
theorem top_head {n : Nat} {es l P : List (List Int × Int)} {top : List Int} {a : List Int} {c : Int} {R : List (List Int × Int)} (h : MapR n es l) (hl : ∀ x ∈ l, x.1.length = n) (hP : P.Perm es) (hT : TopJ P top) (hR : nf lexlt l = (a, c) :: R) :
    top = pad a ∧ mget top es = some c := by
  have hal : a.length = n := by
    obtain ⟨x, hx, e⟩ := nf_mem (y := (a, c)) (by rw [hR]; simp)
    have h9 := hl x hx
    rw [e] at h9
    exact h9
  have hd := nf_desc lexOrd l
  have hc := co_single lexOrd hd (x := (a, c)) (by rw [hR]; simp)
  rw [nf_co] at hc
  have hcz : c ≠ 0 := nf_nz l (a, c) (by rw [hR]; simp)
  have hva := h.val a hal
  have hga : mget (pad a) es = some c := by
    rw [hc] at hva
    cases hg : mget (pad a) es with
    | none => rw [hg] at hva; simp at hva; exact absurd hva.symm hcz
    | some v => rw [hg] at hva; simp at hva; rw [hva]
  have hmem := mget_some hga
  have hmP := hP.mem_iff.2 hmem
  obtain ⟨v, hv⟩ := hT.mem (by intro e; rw [e] at hmP; simp at hmP)
  have hvE := hP.mem_iff.1 hv
  obtain ⟨hvz, e, hel, he⟩ := h.nz _ hvE
  simp only at he hvz
  have hlt := hT.max _ hmP
  simp only at hlt
  rw [he, lexlt_pad (hel.trans hal.symm)] at hlt
  have hget := mget_mem h.nod hvE
  have hve := h.val e hel
  rw [← he, hget] at hve
  simp only [Option.getD_some] at hve
  have hco : co e (nf lexlt l) ≠ 0 := by rw [nf_co, ← hve]; exact hvz
  obtain ⟨z, hz, ez⟩ := co_mem hco
  have hea : e = a := by
    rw [hR] at hz hd
    rcases List.mem_cons.1 hz with rfl | hz
    · exact ez.symm
    · have h1 := List.rel_of_pairwise_cons hd hz
      simp only at h1
      rw [ez, hlt] at h1
      simp at h1
  subst hea
  exact ⟨he, by rw [he]; exact hga⟩
theorem pad_bd60 {e : List Int} {B : Int} (hB : 0 ≤ B) (hB2 : B ≤ 1000000) (h : ∀ x ∈ e, -B ≤ x ∧ x ≤ B) : ∀ x ∈ pad e, -1000000 ≤ x ∧ x ≤ 1000000 := fun x hx => by
  unfold pad at hx
  rcases List.mem_append.1 hx with hx | hx
  · have := h x hx; omega
  · have := List.eq_of_mem_replicate hx; omega
/-- What a step of division has put behind the rest so far. -/
def negT (e : List Int) (q : Int) (g : List Trm) : List (List Int × Int) := g.map fun t => (addE 1 e t.e, -q * t.c)
theorem negT_step {e : List Int} {q : Int} {g : List Trm} {i : Nat} (h : i < g.length) : negT e q (g.take (i + 1)) = negT e q (g.take i) ++ [(addE 1 e g[i].e, -q * g[i].c)] := by
  unfold negT
  rw [List.take_succ_eq_append_getElem h, List.map_append]
  rfl
theorem step_nf {g : Lau} {x : List Int × Int} {R l l2 : List (List Int × Int)} (hR : nf lexlt l = x :: R) (hl2 : l2.Perm (l ++ negT (addE (-1) x.1 (leadE g)) (x.2.tdiv (leadC g)) g.ts)) : nf lexlt l2 = nf lexlt (stepL g x R) := by
  refine nf_unique lexOrd (nf_desc lexOrd _) (nf_nz _) fun k => ?_
  rw [nf_co, co_perm k hl2, stepL, co_append, co_append, ← hR, nf_co]
  congr 1
  unfold negT mulT
  rw [List.map_map]
  rfl
end Go.Proofs.Ytocknokodgnlbaa.Ab
namespace Go.Proofs.Ytocknokodgnlbaa.Ab
open Go
theorem addE_dv2 : ∀ (a b : List Int), a.length = b.length → addE (-1) (addE 1 a b) b = a
  | [], [], _ => rfl
  | x :: a, y :: b, h => by
    simp only [addE, addE_dv2 a b (by simpa using h)]
    congr 1
    omega
  | [], _ :: _, h => by simp at h
  | _ :: _, [], h => by simp at h
structure DivO (g : Lau) (n : Nat) (R O : List (List Int × Int)) : Prop where
  od : Desc lexlt O
  oz : Nz O
  ol : ∀ x ∈ O, x.1.length = n
  sep : ∀ x ∈ O, ∀ y ∈ R, lexlt y.1 (addE 1 x.1 (leadE g)) = true
theorem DivO.step {g : Lau} {n : Nat} {x : List Int × Int} {R O : List (List Int × Int)} (h : DivO g n (x :: R) O) (hR : Desc lexlt (x :: R)) (hRl : ∀ y ∈ x :: R, y.1.length = n) (hg : Right g) (hgn : g.v = n) (hne : g.ts ≠ []) (hm : x.2.tmod (leadC g) = 0) (hq : x.2.tdiv (leadC g) ≠ 0) :
    DivO g n (nf lexlt (stepL g x R)) (O ++ [(addE (-1) x.1 (leadE g), x.2.tdiv (leadC g))]) := by
  have hgm : g.ts.map pr = (leadE g, leadC g) :: (g.ts.tail.map pr) := by
    unfold leadE leadC
    match hh : g.ts, hne with
    | t :: ts, _ => rfl
  have hgd := pr_desc hg
  have hgD := pr_dig hg hgn
  rw [hgm] at hgd hgD
  have hbl : (leadE g).length = n := (hgD (leadE g, leadC g) (by simp)).1
  have hxl := hRl x (by simp)
  have hless := step_less lexOrd (lauAct n) hR hRl hgd (fun y hy => (hgD y hy).1) hm
  rw [← hgm] at hless
  have hel : (addE (-1) x.1 (leadE g)).length = n := by rw [addE_length _ _ _ (hxl.trans hbl.symm)]; exact hxl
  have hback : addE 1 (addE (-1) x.1 (leadE g)) (leadE g) = x.1 := addE_dv _ _ (hxl.trans hbl.symm)
  refine ⟨?_, fun y hy => ?_, fun y hy => ?_, fun y hy z hz => ?_⟩
  · refine List.pairwise_append.2 ⟨h.od, List.pairwise_singleton .., fun y hy z hz => ?_⟩
    simp only [List.mem_singleton] at hz
    subst hz
    have h1 := h.sep y hy x (by simp)
    have hyl := h.ol y hy
    have h2 := lexlt_addE (-1) x.1 (addE 1 y.1 (leadE g)) (leadE g) (hxl.trans hbl.symm) (by rw [addE_length _ _ _ (hyl.trans hbl.symm)]; exact hyl.trans hbl.symm)
    rw [addE_dv2 _ _ (hyl.trans hbl.symm)] at h2
    show lexlt (addE (-1) x.1 (leadE g)) y.1 = true
    rw [h2]
    exact h1
  · rcases List.mem_append.1 hy with hy | hy
    · exact h.oz y hy
    · simp only [List.mem_singleton] at hy
      subst hy; exact hq
  · rcases List.mem_append.1 hy with hy | hy
    · exact h.ol y hy
    · simp only [List.mem_singleton] at hy
      subst hy; exact hel
  · have h1 := (hless z hz).1
    rcases List.mem_append.1 hy with hy | hy
    · exact lexlt_tr _ _ _ h1 (h.sep y hy x (by simp))
    · simp only [List.mem_singleton] at hy
      subst hy
      show lexlt z.1 (addE 1 (addE (-1) x.1 (leadE g)) (leadE g)) = true
      rw [hback]
      exact h1
theorem DivO.nf {g : Lau} {n : Nat} {R O : List (List Int × Int)} (h : DivO g n R O) : Ab.nf lexlt O = O := (nf_unique lexOrd h.od h.oz fun k => rfl).symm
theorem DivO.shut {g : Lau} {n : Nat} {R O : List (List Int × Int)} (h : DivO g n R O) (v : Int) : shutF v O = endF v (some O) := by
  unfold shutF endF
  rw [h.nf]
theorem cmpL_gt (a b : List Int) : decide (0 < cmpL a b) = lexlt b a := by
  have := cmpL_pos a b
  by_cases h : cmpL a b ≤ 0
  · rw [decide_eq_true h] at this
    rw [decide_eq_false (by omega)]
    cases hh : lexlt b a with
    | false => rfl
    | true => rw [hh] at this; simp at this
  · rw [decide_eq_false h] at this
    rw [decide_eq_true (by omega)]
    cases hh : lexlt b a with
    | true => rfl
    | false => rw [hh] at this; simp at this
end Go.Proofs.Ytocknokodgnlbaa.Ab
namespace Go.Proofs.Ytocknokodgnlbaa.Ab
open Go
set_option linter.unusedSimpArgs false
set_option linter.unusedVariables false
set_option maxRecDepth 10000
set_option maxHeartbeats 2000000
theorem spec_DivideLaurents_calls (f g : Lau) (hx : f.ts.length < 4611686018427387904) (hxe : ∀ t ∈ f.ts, t.e.length < 4611686018427387904) (hy : g.ts.length < 4611686018427387904) (hye : ∀ t ∈ g.ts, t.e.length < 4611686018427387904) : ACalls Try.prog F.spec_DivideLaurents [aF f, aF g] [] true (fun outs res => outs = [] ∧ WkRs res [.ag (fO (divF f g).1), .one (D.bool (divF f g).2)]) := by
  have hcall := spec_l2Two_calls f g hx hxe hy hye
  generalize hB : decide (Right f ∧ Right g ∧ f.v = g.v) = B at hcall
  refine ACalls.of_body (C := C.spec_DivideLaurents) (n := Try.f15.ntmps) tabT folT Try.func15 rfl (by kernel_rfl) rfl (Nat.le_of_ble_eq_true rfl) (by decide) (by kernel_rfl) (by kernel_rfl) rfl (by simp) (by simp) ?_
  simp only [Try.f15]
  refine wseq ?_
  refine wreg fun K hK => ?_
  simp [C.spec_DivideLaurents, fS]
  refine hK _ ?_; clear hK K
  show AWp _ _ _ _ _
  refine wseq ?_
  refine wseq ?_
  refine wregI ([0, 1, 2] ++ ([3, 4, 5, 6, 7, 8, 9])) rfl fun K hK => ?_
  have hJ : K ⟨ofL [(2, .pt (2, 0) [] 0), (3, .pt (3, 0) [] 0), (4, .pt (4, 0) [] 0), (15, .bool (!(B && !decide (g.ts = []))))], ofRO [((2, 0), some (.bx (fS f))), ((3, 0), some (.bx (fS g))), ((4, 0), some (.bx [D.int 0, .v (.slice none 0 0)]))]⟩ := by
    refine hK _ ?_; clear hK K
    show AWp _ _ _ _ _
    refine wcond _ rfl (fun hc1 => ?_) (fun hc1 => ?_)
    · have hr : ¬ ((Right f ∧ Right g ∧ f.v = g.v) ∧ g.ts ≠ []) := by
        rintro ⟨h1, h2⟩
        rw [← hB, decide_eq_true h1] at hc1
        simp [h2] at hc1
      have hm : divF f g = (zeroF, false) := if_neg hr
      refine wseq ?_
      refine wreg fun K hK => ?_
      simp [C.spec_DivideLaurents, fS]
      refine hK _ ?_; clear hK K
      show AWp _ _ _ _ _
      refine wret ?_
      simp [C.spec_DivideLaurents, fS, hm, fO, zeroF, rows]
    · have hr : (Right f ∧ Right g ∧ f.v = g.v) ∧ g.ts ≠ [] := by
        rw [← hB] at hc1
        simpa using hc1
      obtain ⟨⟨hf, hg, hfg⟩, hne⟩ := hr
      obtain ⟨n, hn⟩ : ∃ n : Nat, f.v = n := ⟨f.v.toNat, by have := hf.1; omega⟩
      have hgn : g.v = n := by omega
      have hm : divF f g = endF f.v (divL (chkS f g n) g 600 (f.ts.map pr)) := by
        rw [← divS_eq]
        unfold divS
        rw [if_pos ⟨⟨hf, hg, hfg⟩, hne⟩, hn]
        rfl
      refine wskip ?_
      show AWp _ _ _ _ _
      refine wseq ?_
      refine wregI ([0, 1, 2] ++ ([3, 4, 5, 6])) rfl fun K hK => ?_
      refine opsI_seg fun L hL => ?_
      simp [C.spec_DivideLaurents, fS]
      refine wcall1 ((spec_l2Divide_calls f g n hf hg hn hgn hne).weak1) (by simp) (by simp) ?_
      simp [C.spec_DivideLaurents, fS]
      refine hL _ ?_; clear hL L
      refine opsI_end fun L hL => ?_
      simp [C.spec_DivideLaurents, fS]
      refine hL _ ?_; clear hL L
      simp [C.spec_DivideLaurents, fS]
      refine hK _ ?_; clear hK K
      show AWp _ _ _ _ _
      refine wret ?_
      simp [C.spec_DivideLaurents, fS, hm, fO]
  clear hK
  by_cases hb : B = true
  · refine opsI_seg fun L hL => ?_
    simp [C.spec_DivideLaurents, fS, hb]
    refine wcall1 (hcall) (by simp) (by simp) ?_
    simp [C.spec_DivideLaurents, fS, hb]
    refine hL _ ?_; clear hL L
    refine opsI_end fun L hL => ?_
    simp [C.spec_DivideLaurents, fS, hb]
    refine hL _ ?_; clear hL L
    simp [C.spec_DivideLaurents, fS, hb]
    refine cast (congrArg K ?_) hJ
    simp [ieq0, fS, hb]
  · refine opsI_seg fun L hL => ?_
    simp [C.spec_DivideLaurents, fS, hb]
    refine wcall1 (hcall) (by simp) (by simp) ?_
    simp [C.spec_DivideLaurents, fS, hb]
    refine hL _ ?_; clear hL L
    refine opsI_end fun L hL => ?_
    simp [C.spec_DivideLaurents, fS, hb]
    refine hL _ ?_; clear hL L
    simp [C.spec_DivideLaurents, fS, hb]
    refine cast (congrArg K ?_) hJ
    simp [ieq0, fS, hb]
theorem sDiv_calls (f g : Lau) (hx : f.ts.length < 4611686018427387904) (hxe : ∀ t ∈ f.ts, t.e.length < 4611686018427387904) (hy : g.ts.length < 4611686018427387904) (hye : ∀ t ∈ g.ts, t.e.length < 4611686018427387904) : ACalls Try.prog F.spec_DivideLaurents [aF f, aF g] [] true (fun outs res => outs = [] ∧ res = [.ag (fO (divF f g).1), .one (D.bool (divF f g).2)]) := (spec_DivideLaurents_calls f g hx hxe hy hye).weak1

end Go.Proofs.Ytocknokodgnlbaa.Ab
namespace Go.Proofs.Ytocknokodgnlbaa.Ab
open Go
set_option linter.unusedSimpArgs false
set_option linter.unusedVariables false
set_option maxRecDepth 10000
set_option maxHeartbeats 2000000
attribute [local simp] mapKV flatInt tileB
structure LJ (n : Nat) (es l : List (List Int × Int)) (B : Nat) : Prop where
  map : MapR n es l
  len : ∀ x ∈ l, x.1.length = n
  abs : absE l ≤ B
theorem LJ.add {n : Nat} {es l : List (List Int × Int)} {B : Nat} (h : LJ n es l B) {e : List Int} (he : e.length = n) {c : Int} {X : Nat} (hc : c.natAbs ≤ X) : LJ n (madd es (pad e) c) ((e, c) :: l) (B + X) := by
  refine ⟨h.map.add he c, fun x hx => ?_, ?_⟩
  · rcases List.mem_cons.1 hx with rfl | hx
    · exact he
    · exact h.len x hx
  · have := h.abs
    simp only [absE, List.map_cons, List.sum_cons] at *
    omega
theorem LJ.val {n : Nat} {es l : List (List Int × Int)} {B : Nat} (h : LJ n es l B) {e : List Int} (he : e.length = n) {c : Int} {X : Nat} (hc : c.natAbs ≤ X) (hB : B + X ≤ 4000000000000000000) : -9223372036854775808 ≤ c + (mget (pad e) es).getD 0 ∧ c + (mget (pad e) es).getD 0 < 9223372036854775808 := by
  have h1 := h.map.val e he
  have h2 := co_abs e l
  have h3 := h.abs
  rw [h1]
  omega
theorem LJ.mono {n : Nat} {es l : List (List Int × Int)} {B C : Nat} (h : LJ n es l B) (hB : B ≤ C) : LJ n es l C := ⟨h.map, h.len, Nat.le_trans h.abs hB⟩
theorem divF_some {f g : Lau} {n : Nat} (hf : Right f) (hg : Right g) (hn : f.v = n) (hgn : g.v = n) (hne : g.ts ≠ []) : divF f g = endF n (divL chkI g 600 (f.ts.map pr)) := by
  unfold divF
  rw [if_pos ⟨⟨hf, hg, by omega⟩, hne⟩, hn]
theorem impl_DivideLaurents_l1 (f g : Lau) (n : Nat) (hn : f.v = n) (hv : n ≤ 8) (hf : Right f) (hfl : f.ts.length ≤ 600) (Q0 : AEx → St → Prop) (hX0 : ∀ es l, LJ n es l 600000000 → l.Perm (f.ts.map pr) → Q0 (.exit 0) ⟨ofL [(2, .pt (2, 0) [] 0), (3, .pt (3, 0) [] 0), (4, .pt (4, 0) [] 0), (6, .pt (6, 0) [] 0), (34, .d (.sh 2 f.ts.length (rows tS f.ts))), (35, .int f.ts.length), (36, .int f.ts.length), (37, .bool false)], ofRO [((2, 0), some (.bx (fS f))), ((3, 0), some (.bx (fS g))), ((4, 0), some (.bx [D.int 0, .v (.slice none 0 0)])), ((6, 0), some (.bx [D.int n, .mp es]))]⟩) : AWp C.impl_DivideLaurents (codeAt Try.f13 [1, 1, 1, 0, 1, 0]) 0 Q0 ⟨ofL [(2, .pt (2, 0) [] 0), (3, .pt (3, 0) [] 0), (4, .pt (4, 0) [] 0), (6, .pt (6, 0) [] 0), (34, .d (.sh 2 f.ts.length (rows tS f.ts))), (35, .int f.ts.length), (36, .int 0)], ofRO [((2, 0), some (.bx (fS f))), ((3, 0), some (.bx (fS g))), ((4, 0), some (.bx [D.int 0, .v (.slice none 0 0)])), ((6, 0), some (.bx [D.int n, .mp []]))]⟩ := by
  simp only [codeAt, Try.f13, walkCode]
  refine wloop (fun x : Nat × List (List Int × Int) × List (List Int × Int) => ⟨ofL [(2, .pt (2, 0) [] 0), (3, .pt (3, 0) [] 0), (4, .pt (4, 0) [] 0), (6, .pt (6, 0) [] 0), (34, .d (.sh 2 f.ts.length (rows tS f.ts))), (35, .int f.ts.length), (36, .int x.1)], ofRO [((2, 0), some (.bx (fS f))), ((3, 0), some (.bx (fS g))), ((4, 0), some (.bx [D.int 0, .v (.slice none 0 0)])), ((6, 0), some (.bx [D.int n, .mp x.2.1]))]⟩) (fun x => x.1 ≤ f.ts.length ∧ LJ n x.2.1 x.2.2 (x.1 * 1000000) ∧ x.2.2.Perm ((f.ts.map pr).take x.1)) (fun x => f.ts.length - x.1) (0, [], []) (by simp [C.impl_DivideLaurents, fS, hn]) ⟨by simp, ⟨MapR.nil n, by simp, by simp [absE]⟩, by simp⟩ ?_
  intro x1 hx1 R1 hR1
  obtain ⟨i, es, l⟩ := x1
  obtain ⟨hi, hLJ, hP⟩ := hx1
  dsimp only at hi hLJ hP ⊢
  refine wseq ?_
  refine wreg fun K hK => ?_
  simp [C.impl_DivideLaurents, fS]
  refine hK _ ?_; clear hK K
  show AWp _ _ _ _ _
  refine wseq ?_
  refine wcond _ rfl (fun hc2 => ?_) (fun hc2 => ?_)
  · have hif : i < f.ts.length := by have := d_t hc2; omega
    have hT := right_dig hf hn _ (List.getElem_mem hif)
    refine wskip ?_
    show AWp _ _ _ _ _
    refine wseq ?_
    refine wblock ?_
    refine wseq ?_
    refine wreg fun K hK => ?_
    simp [C.impl_DivideLaurents, fS, hif, tS_0 hif, tS_1 hif]
    refine hK _ ?_; clear hK K
    show AWp _ _ _ _ _
    obtain ⟨a0, a1, a2, a3, a4, a5, a6, a7, hpa⟩ := eight (pad_length (e := f.ts[i].e) (by omega))
    have hval := hLJ.val hT.1 (c := f.ts[i].c) (X := 1000000) (by omega) (by omega)
    rw [hpa] at hval
    refine wdrawI [(true, 0), (true, 1), (true, 2), (true, 4), (true, 5), (false, 3), (false, 6)] ⟨by kernel_rfl, by kernel_rfl⟩ ([0, 1, 2, 4, 5, 3] ++ ([6] ++ ([]))) rfl fun K hK => ?_
    refine opsI_seg fun L hL => ?_
    simp [C.impl_DivideLaurents, fS, tS]
    refine wcall1 (impl_keyOf_calls f.ts[i].e (by omega) a0 a1 a2 a3 a4 a5 a6 a7 hpa) (by simp) (by simp) ?_
    simp [C.impl_DivideLaurents, fS, tS]
    refine hL _ ?_; clear hL L
    refine opsI_seg fun L hL => ?_
    simp [C.impl_DivideLaurents, fS, tS]
    refine wcall1 (impl_building_add_calls n f.ts[i].c es a0 a1 a2 a3 a4 a5 a6 a7 (hLJ.map.len8 hv) hval) (by simp) (by simp) ?_
    simp [C.impl_DivideLaurents, fS, tS]
    refine hL _ ?_; clear hL L
    refine opsI_end fun L hL => ?_
    simp only [AOpsI]
    refine hL _ ?_; clear hL L
    simp [C.impl_DivideLaurents, fS, tS]
    rw [← hpa]
    refine hK _ ?_; clear hK K
    show AWp _ _ _ _ _
    refine wreg fun K hK => ?_
    simp [C.impl_DivideLaurents, fS, wrap_succ (show i < 4611686018427387904 by omega)]
    refine hK _ ?_; clear hK K
    simp [C.impl_DivideLaurents, fS]
    refine cast (congrArg R1 ?_) (hR1 (i + 1, madd es (pad f.ts[i].e) f.ts[i].c, (f.ts[i].e, f.ts[i].c) :: l) ⟨hif, ?_, ?_⟩ (by dsimp only; omega))
    · simp [fS, hn]
    · have := hLJ.add hT.1 (c := f.ts[i].c) (X := 1000000) (by omega)
      dsimp only
      rwa [Nat.add_mul, Nat.one_mul]
    · dsimp only
      rw [List.take_succ_eq_append_getElem (by simpa using hif)]
      refine (List.Perm.cons _ hP).trans ?_
      simp only [List.getElem_map, pr]
      exact (List.perm_append_singleton _ _).symm
  · have hif : i = f.ts.length := by have := d_f hc2; omega
    have hall : l.Perm (f.ts.map pr) := by
      rw [List.take_of_length_le (by simp; omega)] at hP
      exact hP
    refine wexit ?_
    refine cast (congrArg (Q0 (.exit 0)) ?_) (hX0 es l (hLJ.mono (by rw [hif]; omega)) hall)
    simp [fS, hn, hif]

theorem impl_DivideLaurents_r21 (f g : Lau) (n : Nat) (hn : f.v = n) (es eo P rest : List (List Int × Int)) (k0 k1 k2 k3 k4 k5 k6 k7 t0 t1 t2 t3 t4 t5 t6 t7 xc : Int) (i : Nat) (i0 : Nat) (Q0 : AEx → St → Prop) (hJ0 : Q0 .normal ⟨ofL [(2, .pt (2, 0) [] 0), (3, .pt (3, 0) [] 0), (4, .pt (4, 0) [] 0), (6, .pt (6, 0) [] 0), (9, .pt (9, 0) [] 0), (10, .pt (10, 0) [] 0), (11, .pt (11, 0) [] 0), (12, .bool (decide (P = []))), (13, .pt (13, 0) [] 0), (65, .it (65, 0) (6, 0) [1] (rest.eraseIdx i) (some ([k0, k1, k2, k3, k4, k5, k6, k7], xc))), (76, .bool (decide (P = [] ∨ lexlt [t0, t1, t2, t3, t4, t5, t6, t7] [k0, k1, k2, k3, k4, k5, k6, k7] = true)))], ofRO [((2, 0), some (.bx (fS f))), ((3, 0), some (.bx (fS g))), ((4, 0), some (.bx [D.int 0, .v (.slice none 0 0)])), ((6, 0), some (.bx [D.int n, .mp es])), ((9, 0), some (.bx [D.int n, .mp eo])), ((10, 0), some (.bx [shI (leadE g), D.int (leadC g)])), ((11, 0), some (.bx [D.int t0, D.int t1, D.int t2, D.int t3, D.int t4, D.int t5, D.int t6, D.int t7])), ((13, 0), some (.bx [D.int k0, D.int k1, D.int k2, D.int k3, D.int k4, D.int k5, D.int k6, D.int k7])), ((65, 0), some .itr)]⟩) : AWp C.impl_DivideLaurents (codeAt Try.f13 [1, 1, 1, 1, 1, 1, 0, 0, 0, 1, 0, 1, 1, 0, 1, 0, 0, 1, 1, 0, 1, 0]) i0 Q0 ⟨ofL [(2, .pt (2, 0) [] 0), (3, .pt (3, 0) [] 0), (4, .pt (4, 0) [] 0), (6, .pt (6, 0) [] 0), (9, .pt (9, 0) [] 0), (10, .pt (10, 0) [] 0), (11, .pt (11, 0) [] 0), (12, .bool (decide (P = []))), (13, .pt (13, 0) [] 0), (65, .it (65, 0) (6, 0) [1] (rest.eraseIdx i) (some ([k0, k1, k2, k3, k4, k5, k6, k7], xc)))], ofRO [((2, 0), some (.bx (fS f))), ((3, 0), some (.bx (fS g))), ((4, 0), some (.bx [D.int 0, .v (.slice none 0 0)])), ((6, 0), some (.bx [D.int n, .mp es])), ((9, 0), some (.bx [D.int n, .mp eo])), ((10, 0), some (.bx [shI (leadE g), D.int (leadC g)])), ((11, 0), some (.bx [D.int t0, D.int t1, D.int t2, D.int t3, D.int t4, D.int t5, D.int t6, D.int t7])), ((13, 0), some (.bx [D.int k0, D.int k1, D.int k2, D.int k3, D.int k4, D.int k5, D.int k6, D.int k7])), ((65, 0), some .itr)]⟩ := by
  simp only [codeAt, Try.f13, walkCode]
  refine wdrawI [(true, 0), (true, 1), (true, 2), (true, 3), (false, 4), (true, 5), (true, 6)] ⟨by kernel_rfl, by kernel_rfl⟩ ([0, 1, 2, 3, 4] ++ ([5, 6])) rfl fun K hK => ?_
  have hJ : K ⟨ofL [(2, .pt (2, 0) [] 0), (3, .pt (3, 0) [] 0), (4, .pt (4, 0) [] 0), (6, .pt (6, 0) [] 0), (9, .pt (9, 0) [] 0), (10, .pt (10, 0) [] 0), (11, .pt (11, 0) [] 0), (12, .bool (decide (P = []))), (13, .pt (13, 0) [] 0), (65, .it (65, 0) (6, 0) [1] (rest.eraseIdx i) (some ([k0, k1, k2, k3, k4, k5, k6, k7], xc))), (76, .bool (decide (P = [] ∨ lexlt [t0, t1, t2, t3, t4, t5, t6, t7] [k0, k1, k2, k3, k4, k5, k6, k7] = true)))], ofRO [((2, 0), some (.bx (fS f))), ((3, 0), some (.bx (fS g))), ((4, 0), some (.bx [D.int 0, .v (.slice none 0 0)])), ((6, 0), some (.bx [D.int n, .mp es])), ((9, 0), some (.bx [D.int n, .mp eo])), ((10, 0), some (.bx [shI (leadE g), D.int (leadC g)])), ((11, 0), some (.bx [D.int t0, D.int t1, D.int t2, D.int t3, D.int t4, D.int t5, D.int t6, D.int t7])), ((13, 0), some (.bx [D.int k0, D.int k1, D.int k2, D.int k3, D.int k4, D.int k5, D.int k6, D.int k7])), ((65, 0), some .itr)]⟩ := by
    refine hK _ ?_; clear hK K
    exact hJ0
  clear hK
  by_cases hp : P = []
  · refine opsI_seg fun L hL => ?_
    simp [C.impl_DivideLaurents, fS, ints, sh8, hp]
    refine hL _ ?_; clear hL L
    refine opsI_end fun L hL => ?_
    simp [C.impl_DivideLaurents, fS, ints, sh8, hp]
    refine hL _ ?_; clear hL L
    simp [C.impl_DivideLaurents, fS, ints, sh8, hp]
    refine cast (congrArg K ?_) hJ
    simp [cmpL_gt, hn, fS, hp]
  · refine opsI_seg fun L hL => ?_
    simp [C.impl_DivideLaurents, fS, ints, sh8, hp]
    refine wcall1 (slices_Compare_int_int_calls [k0, k1, k2, k3, k4, k5, k6, k7] [t0, t1, t2, t3, t4, t5, t6, t7] (by simp)) (by simp [fS, ints, sh8]) (by simp) ?_
    simp [C.impl_DivideLaurents, fS, ints, sh8, hp]
    refine hL _ ?_; clear hL L
    refine opsI_end fun L hL => ?_
    simp [C.impl_DivideLaurents, fS, ints, sh8, hp]
    refine hL _ ?_; clear hL L
    simp [C.impl_DivideLaurents, fS, ints, sh8, hp]
    refine cast (congrArg K ?_) hJ
    simp [cmpL_gt, hn, fS, hp]

theorem impl_DivideLaurents_l3 (f g : Lau) (n : Nat) (hn : f.v = n) (es eo : List (List Int × Int)) (hm8 : mapLen 8 es) (Q0 : AEx → St → Prop) (hX0 : ∀ P top cur, P.Perm es → TopJ P top → Q0 (.exit 4) ⟨ofL [(2, .pt (2, 0) [] 0), (3, .pt (3, 0) [] 0), (4, .pt (4, 0) [] 0), (6, .pt (6, 0) [] 0), (9, .pt (9, 0) [] 0), (10, .pt (10, 0) [] 0), (11, .pt (11, 0) [] 0), (12, .bool (decide (P = []))), (65, .it (65, 0) (6, 0) [1] [] cur), (67, .bool false)], ofRO [((2, 0), some (.bx (fS f))), ((3, 0), some (.bx (fS g))), ((4, 0), some (.bx [D.int 0, .v (.slice none 0 0)])), ((6, 0), some (.bx [D.int n, .mp es])), ((9, 0), some (.bx [D.int n, .mp eo])), ((10, 0), some (.bx [shI (leadE g), D.int (leadC g)])), ((11, 0), some (.bx (ints top))), ((65, 0), some .itr)]⟩) : AWp C.impl_DivideLaurents (codeAt Try.f13 [1, 1, 1, 1, 1, 1, 0, 0, 0, 1, 0, 1, 1, 0, 1, 0]) 4 Q0 ⟨ofL [(2, .pt (2, 0) [] 0), (3, .pt (3, 0) [] 0), (4, .pt (4, 0) [] 0), (6, .pt (6, 0) [] 0), (9, .pt (9, 0) [] 0), (10, .pt (10, 0) [] 0), (11, .pt (11, 0) [] 0), (12, .bool (decide (([] : List (List Int × Int)) = []))), (65, .it (65, 0) (6, 0) [1] es none)], ofRO [((2, 0), some (.bx (fS f))), ((3, 0), some (.bx (fS g))), ((4, 0), some (.bx [D.int 0, .v (.slice none 0 0)])), ((6, 0), some (.bx [D.int n, .mp es])), ((9, 0), some (.bx [D.int n, .mp eo])), ((10, 0), some (.bx [shI (leadE g), D.int (leadC g)])), ((11, 0), some (.bx (ints [0, 0, 0, 0, 0, 0, 0, 0]))), ((65, 0), some .itr)]⟩ := by
  simp only [codeAt, Try.f13, walkCode]
  refine wloop (fun x : List (List Int × Int) × List Int × List (List Int × Int) × Option (List Int × Int) => ⟨ofL [(2, .pt (2, 0) [] 0), (3, .pt (3, 0) [] 0), (4, .pt (4, 0) [] 0), (6, .pt (6, 0) [] 0), (9, .pt (9, 0) [] 0), (10, .pt (10, 0) [] 0), (11, .pt (11, 0) [] 0), (12, .bool (decide (x.1 = []))), (65, .it (65, 0) (6, 0) [1] x.2.2.1 x.2.2.2)], ofRO [((2, 0), some (.bx (fS f))), ((3, 0), some (.bx (fS g))), ((4, 0), some (.bx [D.int 0, .v (.slice none 0 0)])), ((6, 0), some (.bx [D.int n, .mp es])), ((9, 0), some (.bx [D.int n, .mp eo])), ((10, 0), some (.bx [shI (leadE g), D.int (leadC g)])), ((11, 0), some (.bx (ints x.2.1))), ((65, 0), some .itr)]⟩) (fun x => (x.1 ++ x.2.2.1).Perm es ∧ TopJ x.1 x.2.1) (fun x => x.2.2.1.length) ([], [0, 0, 0, 0, 0, 0, 0, 0], es, none) (by simp [C.impl_DivideLaurents, fS, hn, ints]) ⟨by simp, ⟨rfl, by simp, by simp⟩⟩ ?_
  intro x3 hx3 R3 hR3
  obtain ⟨P, top, rest, cur⟩ := x3
  obtain ⟨hq, hT⟩ := hx3
  dsimp only at hq hT ⊢
  refine wseq ?_
  refine wreg fun K hK => ?_
  simp [C.impl_DivideLaurents, fS]
  refine ⟨fun hrest => ?_, fun i xk xc hxi => ?_⟩
  · refine hK _ ?_; clear hK K
    show AWp _ _ _ _ _
    refine wseq ?_
    refine wcond _ rfl (fun hc4 => ?_) (fun hc4 => ?_)
    · simp at hc4
    · subst hrest
      have hqe : P.Perm es := by simpa using hq
      refine wexit ?_
      refine cast (congrArg (Q0 (.exit 4)) ?_) (hX0 P top cur hqe hT)
      simp [fS, hn]
  · refine hK _ ?_; clear hK K
    show AWp _ _ _ _ _
    refine wseq ?_
    refine wcond _ rfl (fun hc6 => ?_) (fun hc6 => ?_)
    · have hxm : (xk, xc) ∈ rest := List.mem_of_getElem? hxi
      have hxl := hm8 _ (hq.subset (List.mem_append_right P hxm))
      dsimp only at hxl
      obtain ⟨k0, k1, k2, k3, k4, k5, k6, k7, rfl⟩ := eight hxl
      obtain ⟨t0, t1, t2, t3, t4, t5, t6, t7, rfl⟩ := eight hT.len
      have hil : i < rest.length := by
        rcases Nat.lt_or_ge i rest.length with h | h
        · exact h
        · rw [List.getElem?_eq_none h] at hxi; simp at hxi
      have hper : (P ++ [([k0, k1, k2, k3, k4, k5, k6, k7], xc)] ++ rest.eraseIdx i).Perm es := by
        have hget : rest[i] = ([k0, k1, k2, k3, k4, k5, k6, k7], xc) := by
          rw [List.getElem?_eq_getElem hil] at hxi
          injection hxi
        have h9 := erase_perm rest i hil
        rw [hget] at h9
        refine List.Perm.trans ?_ hq
        rw [List.append_assoc]
        exact List.Perm.append_left _ h9
      refine wskip ?_
      show AWp _ _ _ _ _
      refine wblock ?_
      refine wseq ?_
      refine wreg fun K hK => ?_
      simp [C.impl_DivideLaurents, fS, ints]
      refine hK _ ?_; clear hK K
      show AWp _ _ _ _ _
      refine wseq ?_
      refine wcode (c' := codeAt Try.f13 [1, 1, 1, 1, 1, 1, 0, 0, 0, 1, 0, 1, 1, 0, 1, 0, 0, 1, 1, 0, 1, 0]) (by kernel_rfl) ?_
      refine impl_DivideLaurents_r21 f g n hn es eo P rest k0 k1 k2 k3 k4 k5 k6 k7 t0 t1 t2 t3 t4 t5 t6 t7 xc i _ _ ?_
      show AWp _ _ _ _ _
      refine wcond _ rfl (fun hc7 => ?_) (fun hc7 => ?_)
      · have hcm := d_t hc7
        refine wreg fun K hK => ?_
        simp [C.impl_DivideLaurents, fS]
        refine hK _ ?_; clear hK K
        simp [C.impl_DivideLaurents, fS]
        refine cast (congrArg R3 ?_) (hR3 (P ++ [([k0, k1, k2, k3, k4, k5, k6, k7], xc)], [k0, k1, k2, k3, k4, k5, k6, k7], rest.eraseIdx i, some ([k0, k1, k2, k3, k4, k5, k6, k7], xc)) ⟨hper, hT.next rfl hcm⟩ (by dsimp only; rw [List.length_eraseIdx_of_lt hil]; omega))
        simp [fS, hn, ints]
      · have hcm := d_f hc7
        have hPn : P ≠ [] := fun e => hcm (.inl e)
        have hlt : lexlt [t0, t1, t2, t3, t4, t5, t6, t7] [k0, k1, k2, k3, k4, k5, k6, k7] = false := by
          cases hh : lexlt [t0, t1, t2, t3, t4, t5, t6, t7] [k0, k1, k2, k3, k4, k5, k6, k7] with
          | false => rfl
          | true => exact absurd (.inr hh) hcm
        refine wskip ?_
        simp [C.impl_DivideLaurents, fS]
        refine cast (congrArg R3 ?_) (hR3 (P ++ [([k0, k1, k2, k3, k4, k5, k6, k7], xc)], [t0, t1, t2, t3, t4, t5, t6, t7], rest.eraseIdx i, some ([k0, k1, k2, k3, k4, k5, k6, k7], xc)) ⟨hper, hT.keep hPn hlt⟩ (by dsimp only; rw [List.length_eraseIdx_of_lt hil]; omega))
        simp [fS, hn, ints, hPn]
    · simp at hc6

theorem impl_DivideLaurents_r24 (f g : Lau) (n : Nat) (es eo : List (List Int × Int)) (a0 a1 a2 a3 a4 a5 a6 a7 b0 b1 b2 b3 b4 b5 b6 b7 c : Int) (hgl8 : (leadE g).length ≤ 8) (hpb : pad (leadE g) = [b0, b1, b2, b3, b4, b5, b6, b7]) (hba : ∀ x ∈ [a0, a1, a2, a3, a4, a5, a6, a7], -1000000 ≤ x ∧ x ≤ 1000000) (hbb : ∀ x ∈ [b0, b1, b2, b3, b4, b5, b6, b7], -1000000 ≤ x ∧ x ≤ 1000000) (i0 : Nat) (Q0 : AEx → St → Prop) (hJ0 : Q0 .normal ⟨ofL [(2, .pt (2, 0) [] 0), (3, .pt (3, 0) [] 0), (4, .pt (4, 0) [] 0), (6, .pt (6, 0) [] 0), (9, .pt (9, 0) [] 0), (10, .pt (10, 0) [] 0), (14, .int c), (15, .pt (15, 0) [] 0)], ofRO [((2, 0), some (.bx (fS f))), ((3, 0), some (.bx (fS g))), ((4, 0), some (.bx [D.int 0, .v (.slice none 0 0)])), ((6, 0), some (.bx [D.int n, .mp es])), ((9, 0), some (.bx [D.int n, .mp eo])), ((10, 0), some (.bx [shI (leadE g), D.int (leadC g)])), ((15, 0), some (.bx [D.int (a0 + -1 * b0), D.int (a1 + -1 * b1), D.int (a2 + -1 * b2), D.int (a3 + -1 * b3), D.int (a4 + -1 * b4), D.int (a5 + -1 * b5), D.int (a6 + -1 * b6), D.int (a7 + -1 * b7)]))]⟩) : AWp C.impl_DivideLaurents (codeAt Try.f13 [1, 1, 1, 1, 1, 1, 0, 0, 0, 1, 0, 1, 1, 1, 1, 0]) i0 Q0 ⟨ofL [(2, .pt (2, 0) [] 0), (3, .pt (3, 0) [] 0), (4, .pt (4, 0) [] 0), (6, .pt (6, 0) [] 0), (9, .pt (9, 0) [] 0), (10, .pt (10, 0) [] 0), (11, .pt (11, 0) [] 0), (14, .int c)], ofRO [((2, 0), some (.bx (fS f))), ((3, 0), some (.bx (fS g))), ((4, 0), some (.bx [D.int 0, .v (.slice none 0 0)])), ((6, 0), some (.bx [D.int n, .mp es])), ((9, 0), some (.bx [D.int n, .mp eo])), ((10, 0), some (.bx [shI (leadE g), D.int (leadC g)])), ((11, 0), some (.bx (ints [a0, a1, a2, a3, a4, a5, a6, a7])))]⟩ := by
  simp only [codeAt, Try.f13, walkCode]
  refine wdraw (.take 0 (.take 1 (.take 2 (.all [(3, .all [(4, .all [(5, .all [(6, .done)])]), (5, .all [(4, .all [(6, .done)])])]), (5, .all [(3, .all [(4, .all [(6, .done)])])])])))) ⟨by kernel_rfl, by kernel_rfl⟩ fun K hK => ?_
  have hJ : K ⟨ofL [(2, .pt (2, 0) [] 0), (3, .pt (3, 0) [] 0), (4, .pt (4, 0) [] 0), (6, .pt (6, 0) [] 0), (9, .pt (9, 0) [] 0), (10, .pt (10, 0) [] 0), (14, .int c), (15, .pt (15, 0) [] 0)], ofRO [((2, 0), some (.bx (fS f))), ((3, 0), some (.bx (fS g))), ((4, 0), some (.bx [D.int 0, .v (.slice none 0 0)])), ((6, 0), some (.bx [D.int n, .mp es])), ((9, 0), some (.bx [D.int n, .mp eo])), ((10, 0), some (.bx [shI (leadE g), D.int (leadC g)])), ((15, 0), some (.bx [D.int (a0 + -1 * b0), D.int (a1 + -1 * b1), D.int (a2 + -1 * b2), D.int (a3 + -1 * b3), D.int (a4 + -1 * b4), D.int (a5 + -1 * b5), D.int (a6 + -1 * b6), D.int (a7 + -1 * b7)]))]⟩ := by
    refine hK _ ?_; clear hK K
    exact hJ0
  clear hK
  have hk1 := impl_keyOf_calls (leadE g) (by omega) b0 b1 b2 b3 b4 b5 b6 b7 hpb
  have hk2 := impl_plusExp_calls (-1) a0 a1 a2 a3 a4 a5 a6 a7 b0 b1 b2 b3 b4 b5 b6 b7 (by omega) hba hbb
  simp [C.impl_DivideLaurents, fS, ints]
  repeat' first
    | (refine wcall1 hk1 (by simp) (by simp) ?_; simp [C.impl_DivideLaurents, fS])
    | (refine wcall1 hk2 (by simp) (by simp) ?_; simp [C.impl_DivideLaurents, fS])
    | (refine cast (congrArg K ?_) hJ; simp [fS]; done)
    | refine ⟨?_, ?_⟩

theorem impl_DivideLaurents_r26 (f g : Lau) (n : Nat) (hn : f.v = n) (hv : n ≤ 8) (es eo O : List (List Int × Int)) (E : List Int) (e0 e1 e2 e3 e4 e5 e6 e7 c q : Int) (hgc0 : leadC g ≠ 0) (hsh : shareL (List.take n [D.v (.int .i64 e0), D.v (.int .i64 e1), D.v (.int .i64 e2), D.v (.int .i64 e3), D.v (.int .i64 e4), D.v (.int .i64 e5), D.v (.int .i64 e6), D.v (.int .i64 e7)]) = ints E) (hEl : E.length = n) (heol : eo.length = O.length) (i0 : Nat) (Q0 : AEx → St → Prop) (hJ0 : Q0 .normal ⟨ofL [(2, .pt (2, 0) [] 0), (3, .pt (3, 0) [] 0), (4, .pt (4, 0) [] 0), (6, .pt (6, 0) [] 0), (9, .pt (9, 0) [] 0), (10, .pt (10, 0) [] 0), (15, .pt (15, 0) [] 0), (16, .int q), (119, .bool (!decide (((c.tmod (leadC g) = 0 ∧ okE E n = true) ∧ (q ≠ 0 ∧ -1000000 ≤ q ∧ q ≤ 1000000)) ∧ ¬ O.length = 600)))], ofRO [((2, 0), some (.bx (fS f))), ((3, 0), some (.bx (fS g))), ((4, 0), some (.bx [D.int 0, .v (.slice none 0 0)])), ((6, 0), some (.bx [D.int n, .mp es])), ((9, 0), some (.bx [D.int n, .mp eo])), ((10, 0), some (.bx [shI (leadE g), D.int (leadC g)])), ((15, 0), some (.bx [D.int e0, D.int e1, D.int e2, D.int e3, D.int e4, D.int e5, D.int e6, D.int e7]))]⟩) : AWp C.impl_DivideLaurents (codeAt Try.f13 [1, 1, 1, 1, 1, 1, 0, 0, 0, 1, 0, 1, 1, 1, 1, 1, 1, 0, 0]) i0 Q0 ⟨ofL [(2, .pt (2, 0) [] 0), (3, .pt (3, 0) [] 0), (4, .pt (4, 0) [] 0), (6, .pt (6, 0) [] 0), (9, .pt (9, 0) [] 0), (10, .pt (10, 0) [] 0), (14, .int c), (15, .pt (15, 0) [] 0), (16, .int q)], ofRO [((2, 0), some (.bx (fS f))), ((3, 0), some (.bx (fS g))), ((4, 0), some (.bx [D.int 0, .v (.slice none 0 0)])), ((6, 0), some (.bx [D.int n, .mp es])), ((9, 0), some (.bx [D.int n, .mp eo])), ((10, 0), some (.bx [shI (leadE g), D.int (leadC g)])), ((15, 0), some (.bx [D.int e0, D.int e1, D.int e2, D.int e3, D.int e4, D.int e5, D.int e6, D.int e7]))]⟩ := by
  simp only [codeAt, Try.f13, walkCode]
  refine wdrawI [(true, 0), (true, 1), (true, 2), (true, 3), (true, 4), (true, 5), (true, 6), (true, 7), (true, 8), (true, 9), (true, 10), (false, 11), (true, 12), (true, 13), (true, 14), (true, 15), (false, 16), (true, 17), (true, 18), (true, 19), (true, 20), (true, 21), (true, 22), (true, 23), (true, 24), (true, 25), (true, 26)] ⟨by kernel_rfl, by kernel_rfl⟩ ([0, 1, 2, 3, 4, 5, 6, 7, 8, 9, 10, 11] ++ ([12, 13, 14, 15, 16] ++ ([17, 18, 19, 20, 21, 22, 23, 24, 25, 26]))) rfl fun K hK => ?_
  have hJ : K ⟨ofL [(2, .pt (2, 0) [] 0), (3, .pt (3, 0) [] 0), (4, .pt (4, 0) [] 0), (6, .pt (6, 0) [] 0), (9, .pt (9, 0) [] 0), (10, .pt (10, 0) [] 0), (15, .pt (15, 0) [] 0), (16, .int q), (119, .bool (!decide (((c.tmod (leadC g) = 0 ∧ okE E n = true) ∧ (q ≠ 0 ∧ -1000000 ≤ q ∧ q ≤ 1000000)) ∧ ¬ O.length = 600)))], ofRO [((2, 0), some (.bx (fS f))), ((3, 0), some (.bx (fS g))), ((4, 0), some (.bx [D.int 0, .v (.slice none 0 0)])), ((6, 0), some (.bx [D.int n, .mp es])), ((9, 0), some (.bx [D.int n, .mp eo])), ((10, 0), some (.bx [shI (leadE g), D.int (leadC g)])), ((15, 0), some (.bx [D.int e0, D.int e1, D.int e2, D.int e3, D.int e4, D.int e5, D.int e6, D.int e7]))]⟩ := by
    refine hK _ ?_; clear hK K
    exact hJ0
  clear hK
  by_cases g1 : c.tmod (leadC g) = 0
  · by_cases g2 : okE E n = true
    · by_cases g3 : (q ≠ 0 ∧ -1000000 ≤ q ∧ q ≤ 1000000)
      · refine opsI_seg fun L hL => ?_
        simp [C.impl_DivideLaurents, fS, hgc0, hn, show ((n : Int) ≤ 8) by omega, hv, Nat.min_eq_left hv, hsh, hEl, heol, g1, g2, g3]
        refine wcall1 (impl_expOk_calls E n (by omega)) (by simp [fS, hgc0, hn, show ((n : Int) ≤ 8) by omega, hv, Nat.min_eq_left hv, hsh, hEl, heol]) (by simp) ?_
        simp [C.impl_DivideLaurents, fS, hgc0, hn, show ((n : Int) ≤ 8) by omega, hv, Nat.min_eq_left hv, hsh, hEl, heol, g1, g2, g3]
        refine hL _ ?_; clear hL L
        refine opsI_seg fun L hL => ?_
        simp [C.impl_DivideLaurents, fS, hgc0, hn, show ((n : Int) ≤ 8) by omega, hv, Nat.min_eq_left hv, hsh, hEl, heol, g1, g2, g3]
        refine wcall1 (impl_coefOk_calls q) (by simp) (by simp) ?_
        simp [C.impl_DivideLaurents, fS, hgc0, hn, show ((n : Int) ≤ 8) by omega, hv, Nat.min_eq_left hv, hsh, hEl, heol, g1, g2, g3]
        refine hL _ ?_; clear hL L
        refine opsI_end fun L hL => ?_
        simp [C.impl_DivideLaurents, fS, hgc0, hn, show ((n : Int) ≤ 8) by omega, hv, Nat.min_eq_left hv, hsh, hEl, heol, g1, g2, g3]
        refine hL _ ?_; clear hL L
        simp [C.impl_DivideLaurents, fS, hgc0, hn, show ((n : Int) ≤ 8) by omega, hv, Nat.min_eq_left hv, hsh, hEl, heol, g1, g2, g3]
        refine cast (congrArg K ?_) hJ
        simp [ieq600, hn, fS, g1, g2, g3]
      · refine opsI_seg fun L hL => ?_
        simp [C.impl_DivideLaurents, fS, hgc0, hn, show ((n : Int) ≤ 8) by omega, hv, Nat.min_eq_left hv, hsh, hEl, heol, g1, g2, g3]
        refine wcall1 (impl_expOk_calls E n (by omega)) (by simp [fS, hgc0, hn, show ((n : Int) ≤ 8) by omega, hv, Nat.min_eq_left hv, hsh, hEl, heol]) (by simp) ?_
        simp [C.impl_DivideLaurents, fS, hgc0, hn, show ((n : Int) ≤ 8) by omega, hv, Nat.min_eq_left hv, hsh, hEl, heol, g1, g2, g3]
        refine hL _ ?_; clear hL L
        refine opsI_seg fun L hL => ?_
        simp [C.impl_DivideLaurents, fS, hgc0, hn, show ((n : Int) ≤ 8) by omega, hv, Nat.min_eq_left hv, hsh, hEl, heol, g1, g2, g3]
        refine wcall1 (impl_coefOk_calls q) (by simp) (by simp) ?_
        simp [C.impl_DivideLaurents, fS, hgc0, hn, show ((n : Int) ≤ 8) by omega, hv, Nat.min_eq_left hv, hsh, hEl, heol, g1, g2, g3]
        refine hL _ ?_; clear hL L
        refine opsI_end fun L hL => ?_
        simp [C.impl_DivideLaurents, fS, hgc0, hn, show ((n : Int) ≤ 8) by omega, hv, Nat.min_eq_left hv, hsh, hEl, heol, g1, g2, g3]
        refine hL _ ?_; clear hL L
        simp [C.impl_DivideLaurents, fS, hgc0, hn, show ((n : Int) ≤ 8) by omega, hv, Nat.min_eq_left hv, hsh, hEl, heol, g1, g2, g3]
        refine cast (congrArg K ?_) hJ
        simp [ieq600, hn, fS, g1, g2, g3]
    · refine opsI_seg fun L hL => ?_
      simp [C.impl_DivideLaurents, fS, hgc0, hn, show ((n : Int) ≤ 8) by omega, hv, Nat.min_eq_left hv, hsh, hEl, heol, g1, g2]
      refine wcall1 (impl_expOk_calls E n (by omega)) (by simp [fS, hgc0, hn, show ((n : Int) ≤ 8) by omega, hv, Nat.min_eq_left hv, hsh, hEl, heol]) (by simp) ?_
      simp [C.impl_DivideLaurents, fS, hgc0, hn, show ((n : Int) ≤ 8) by omega, hv, Nat.min_eq_left hv, hsh, hEl, heol, g1, g2]
      refine hL _ ?_; clear hL L
      refine opsI_seg fun L hL => ?_
      simp [C.impl_DivideLaurents, fS, hgc0, hn, show ((n : Int) ≤ 8) by omega, hv, Nat.min_eq_left hv, hsh, hEl, heol, g1, g2]
      refine hL _ ?_; clear hL L
      refine opsI_end fun L hL => ?_
      simp [C.impl_DivideLaurents, fS, hgc0, hn, show ((n : Int) ≤ 8) by omega, hv, Nat.min_eq_left hv, hsh, hEl, heol, g1, g2]
      refine hL _ ?_; clear hL L
      simp [C.impl_DivideLaurents, fS, hgc0, hn, show ((n : Int) ≤ 8) by omega, hv, Nat.min_eq_left hv, hsh, hEl, heol, g1, g2]
      refine cast (congrArg K ?_) hJ
      simp [ieq600, hn, fS, g1, g2]
  · refine opsI_seg fun L hL => ?_
    simp [C.impl_DivideLaurents, fS, hgc0, hn, show ((n : Int) ≤ 8) by omega, hv, Nat.min_eq_left hv, hsh, hEl, heol, g1]
    refine hL _ ?_; clear hL L
    refine opsI_seg fun L hL => ?_
    simp [C.impl_DivideLaurents, fS, hgc0, hn, show ((n : Int) ≤ 8) by omega, hv, Nat.min_eq_left hv, hsh, hEl, heol, g1]
    refine hL _ ?_; clear hL L
    refine opsI_end fun L hL => ?_
    simp [C.impl_DivideLaurents, fS, hgc0, hn, show ((n : Int) ≤ 8) by omega, hv, Nat.min_eq_left hv, hsh, hEl, heol, g1]
    refine hL _ ?_; clear hL L
    simp [C.impl_DivideLaurents, fS, hgc0, hn, show ((n : Int) ≤ 8) by omega, hv, Nat.min_eq_left hv, hsh, hEl, heol, g1]
    refine cast (congrArg K ?_) hJ
    simp [ieq600, hn, fS, g1]

theorem impl_DivideLaurents_l4 (f g : Lau) (n : Nat) (hn : f.v = n) (hgn : g.v = n) (hv : n ≤ 8) (hg : Right g) (hgl : g.ts.length ≤ 600) (es l eo2 O : List (List Int × Int)) (hOl : O.length ≤ 600) (hLr : LJ n es l (600000000 + O.length * 600000000000000)) (E : List Int) (hEl : E.length = n) (e0 e1 e2 e3 e4 e5 e6 e7 q : Int) (hpe : pad E = [e0, e1, e2, e3, e4, e5, e6, e7]) (hbe : ∀ x ∈ [e0, e1, e2, e3, e4, e5, e6, e7], -1000000 ≤ x ∧ x ≤ 1000000) (g3 : q ≠ 0 ∧ -1000000 ≤ q ∧ q ≤ 1000000) (Q0 : AEx → St → Prop) (hX0 : ∀ es2 l2, LJ n es2 l2 (600000000 + O.length * 600000000000000 + 600000000000000) → l2.Perm (l ++ negT E q g.ts) → Q0 (.exit 6) ⟨ofL [(2, .pt (2, 0) [] 0), (3, .pt (3, 0) [] 0), (4, .pt (4, 0) [] 0), (6, .pt (6, 0) [] 0), (9, .pt (9, 0) [] 0), (10, .pt (10, 0) [] 0), (15, .pt (15, 0) [] 0), (16, .int q), (126, .d (.sh 2 g.ts.length (rows tS g.ts))), (127, .int g.ts.length), (128, .int g.ts.length), (129, .bool false)], ofRO [((2, 0), some (.bx (fS f))), ((3, 0), some (.bx (fS g))), ((4, 0), some (.bx [D.int 0, .v (.slice none 0 0)])), ((6, 0), some (.bx [D.int n, .mp es2])), ((9, 0), some (.bx [D.int n, .mp eo2])), ((10, 0), some (.bx [shI (leadE g), D.int (leadC g)])), ((15, 0), some (.bx [D.int e0, D.int e1, D.int e2, D.int e3, D.int e4, D.int e5, D.int e6, D.int e7]))]⟩) : AWp C.impl_DivideLaurents (codeAt Try.f13 [1, 1, 1, 1, 1, 1, 0, 0, 0, 1, 0, 1, 1, 1, 1, 1, 1, 1, 1, 1, 0]) 6 Q0 ⟨ofL [(2, .pt (2, 0) [] 0), (3, .pt (3, 0) [] 0), (4, .pt (4, 0) [] 0), (6, .pt (6, 0) [] 0), (9, .pt (9, 0) [] 0), (10, .pt (10, 0) [] 0), (15, .pt (15, 0) [] 0), (16, .int q), (126, .d (.sh 2 g.ts.length (rows tS g.ts))), (127, .int g.ts.length), (128, .int 0)], ofRO [((2, 0), some (.bx (fS f))), ((3, 0), some (.bx (fS g))), ((4, 0), some (.bx [D.int 0, .v (.slice none 0 0)])), ((6, 0), some (.bx [D.int n, .mp es])), ((9, 0), some (.bx [D.int n, .mp eo2])), ((10, 0), some (.bx [shI (leadE g), D.int (leadC g)])), ((15, 0), some (.bx [D.int e0, D.int e1, D.int e2, D.int e3, D.int e4, D.int e5, D.int e6, D.int e7]))]⟩ := by
  simp only [codeAt, Try.f13, walkCode]
  refine wloop (fun x : Nat × List (List Int × Int) × List (List Int × Int) => ⟨ofL [(2, .pt (2, 0) [] 0), (3, .pt (3, 0) [] 0), (4, .pt (4, 0) [] 0), (6, .pt (6, 0) [] 0), (9, .pt (9, 0) [] 0), (10, .pt (10, 0) [] 0), (15, .pt (15, 0) [] 0), (16, .int q), (126, .d (.sh 2 g.ts.length (rows tS g.ts))), (127, .int g.ts.length), (128, .int x.1)], ofRO [((2, 0), some (.bx (fS f))), ((3, 0), some (.bx (fS g))), ((4, 0), some (.bx [D.int 0, .v (.slice none 0 0)])), ((6, 0), some (.bx [D.int n, .mp x.2.1])), ((9, 0), some (.bx [D.int n, .mp eo2])), ((10, 0), some (.bx [shI (leadE g), D.int (leadC g)])), ((15, 0), some (.bx [D.int e0, D.int e1, D.int e2, D.int e3, D.int e4, D.int e5, D.int e6, D.int e7]))]⟩) (fun x => x.1 ≤ g.ts.length ∧ LJ n x.2.1 x.2.2 (600000000 + O.length * 600000000000000 + x.1 * 1000000000000) ∧ x.2.2.Perm (l ++ negT E q (g.ts.take x.1))) (fun x => g.ts.length - x.1) (0, es, l) (by simp [C.impl_DivideLaurents, fS, hn, hgn, hpe]) ⟨by simp, hLr.mono (by dsimp only; omega), by simp [negT]⟩ ?_
  intro x4 hx4 R4 hR4
  obtain ⟨j, es2, l2⟩ := x4
  obtain ⟨hj, hL2, hP2⟩ := hx4
  dsimp only at hj hL2 hP2 ⊢
  refine wseq ?_
  refine wreg fun K hK => ?_
  simp [C.impl_DivideLaurents, fS]
  refine hK _ ?_; clear hK K
  show AWp _ _ _ _ _
  refine wseq ?_
  refine wcond _ rfl (fun hc9 => ?_) (fun hc9 => ?_)
  · have hjg : j < g.ts.length := by have := d_t hc9; omega
    have hU := right_dig hg hgn _ (List.getElem_mem hjg)
    refine wskip ?_
    show AWp _ _ _ _ _
    refine wseq ?_
    refine wblock ?_
    refine wseq ?_
    refine wreg fun K hK => ?_
    simp [C.impl_DivideLaurents, fS, hjg, tS_0 hjg, tS_1 hjg]
    refine hK _ ?_; clear hK K
    show AWp _ _ _ _ _
    obtain ⟨u0, u1, u2, u3, u4, u5, u6, u7, hpu⟩ := eight (pad_length (e := g.ts[j].e) (by omega))
    have hbu := pad_bd hU.2.2.1
    rw [hpu] at hbu
    have hadd : [e0 + 1 * u0, e1 + 1 * u1, e2 + 1 * u2, e3 + 1 * u3, e4 + 1 * u4, e5 + 1 * u5, e6 + 1 * u6, e7 + 1 * u7] = pad (addE 1 E g.ts[j].e) := by
      rw [← pad_add (by omega), hpe, hpu]
      simp [addE]
    have hnl : (addE 1 E g.ts[j].e).length = n := by rw [addE_length _ _ _ (by omega)]; exact hEl
    have hcc := mul_bd (x := -q) (y := g.ts[j].c) (by omega) hU.2.2.2
    have hvj := hL2.val hnl (c := -q * g.ts[j].c) (X := 1000000000000) (by omega) (by omega)
    rw [← hadd] at hvj
    refine wdrawI [(true, 0), (true, 1), (true, 2), (true, 3), (true, 6), (true, 7), (true, 8), (true, 9), (true, 10), (false, 4), (false, 5), (false, 11)] ⟨by kernel_rfl, by kernel_rfl⟩ ([0, 1, 2, 3, 6, 7, 8, 9, 10, 4] ++ ([5] ++ ([11] ++ ([])))) rfl fun K hK => ?_
    refine opsI_seg fun L hL => ?_
    simp [C.impl_DivideLaurents, fS, tS, wrapOk (x := -q) (by omega) (by omega), wrapOk (x := -q * g.ts[j].c) (by omega) (by omega)]
    refine wcall1 (impl_keyOf_calls g.ts[j].e (by omega) u0 u1 u2 u3 u4 u5 u6 u7 hpu) (by simp) (by simp) ?_
    simp [C.impl_DivideLaurents, fS, tS, wrapOk (x := -q) (by omega) (by omega), wrapOk (x := -q * g.ts[j].c) (by omega) (by omega)]
    refine hL _ ?_; clear hL L
    refine opsI_seg fun L hL => ?_
    simp [C.impl_DivideLaurents, fS, tS, wrapOk (x := -q) (by omega) (by omega), wrapOk (x := -q * g.ts[j].c) (by omega) (by omega)]
    refine wcall1 (impl_plusExp_calls 1 e0 e1 e2 e3 e4 e5 e6 e7 u0 u1 u2 u3 u4 u5 u6 u7 (by omega) hbe hbu) (by simp) (by simp) ?_
    simp [C.impl_DivideLaurents, fS, tS, wrapOk (x := -q) (by omega) (by omega), wrapOk (x := -q * g.ts[j].c) (by omega) (by omega)]
    refine hL _ ?_; clear hL L
    refine opsI_seg fun L hL => ?_
    simp [C.impl_DivideLaurents, fS, tS, wrapOk (x := -q) (by omega) (by omega), wrapOk (x := -q * g.ts[j].c) (by omega) (by omega)]
    refine wcall1 (impl_building_add_calls n (-q * g.ts[j].c) es2 (e0 + 1 * u0) (e1 + 1 * u1) (e2 + 1 * u2) (e3 + 1 * u3) (e4 + 1 * u4) (e5 + 1 * u5) (e6 + 1 * u6) (e7 + 1 * u7) (hL2.map.len8 hv) hvj) (by simp) (by simp) ?_
    simp [C.impl_DivideLaurents, fS, tS, wrapOk (x := -q) (by omega) (by omega), wrapOk (x := -q * g.ts[j].c) (by omega) (by omega)]
    refine hL _ ?_; clear hL L
    refine opsI_end fun L hL => ?_
    simp only [AOpsI]
    refine hL _ ?_; clear hL L
    simp [C.impl_DivideLaurents, fS, tS, wrapOk (x := -q) (by omega) (by omega), wrapOk (x := -q * g.ts[j].c) (by omega) (by omega)]
    simp only [Int.one_mul] at hadd
    rw [hadd]
    refine hK _ ?_; clear hK K
    show AWp _ _ _ _ _
    refine wreg fun K hK => ?_
    simp [C.impl_DivideLaurents, fS, wrap_succ (show j < 4611686018427387904 by omega)]
    refine hK _ ?_; clear hK K
    simp [C.impl_DivideLaurents, fS]
    refine cast (congrArg R4 ?_) (hR4 (j + 1, madd es2 (pad (addE 1 E g.ts[j].e)) (-q * g.ts[j].c), (addE 1 E g.ts[j].e, -q * g.ts[j].c) :: l2) ⟨hjg, ?_, ?_⟩ (by dsimp only; omega))
    · simp [fS, hn, hgn]
    · have := hL2.add hnl (c := -q * g.ts[j].c) (X := 1000000000000) (by omega)
      exact this.mono (by dsimp only; omega)
    · dsimp only
      rw [negT_step hjg, ← List.append_assoc]
      exact (List.Perm.cons _ hP2).trans (List.perm_append_singleton _ _).symm
  · have hjg : j = g.ts.length := by have := d_f hc9; omega
    rw [hjg, List.take_length] at hP2
    refine wexit ?_
    refine cast (congrArg (Q0 (.exit 6)) ?_) (hX0 es2 l2 (hL2.mono (by omega)) hP2)
    simp [fS, hn, hgn, hjg]

theorem impl_DivideLaurents_calls (hDone : DoneOk) (f g : Lau) (hx : f.ts.length < 4611686018427387904) (hxe : ∀ t ∈ f.ts, t.e.length < 4611686018427387904) (hy : g.ts.length < 4611686018427387904) (hye : ∀ t ∈ g.ts, t.e.length < 4611686018427387904) : ACalls Try.prog F.impl_DivideLaurents [aF f, aF g] [] true (fun outs res => outs = [] ∧ WkRs res [.ag (fO (divF f g).1), .one (D.bool (divF f g).2)]) := by
  have hcall := impl_bothOk_calls f g hx hxe hy hye
  generalize hB : decide (Right f ∧ Right g ∧ f.v = g.v) = B at hcall
  refine ACalls.of_body (C := C.impl_DivideLaurents) (n := Try.f13.ntmps) tabT folT Try.func13 rfl (by kernel_rfl) rfl (Nat.le_of_ble_eq_true rfl) (by decide) (by kernel_rfl) (by kernel_rfl) rfl (by simp) (by simp) ?_
  simp only [Try.f13]
  refine wseq ?_
  refine wreg fun K hK => ?_
  simp [C.impl_DivideLaurents, fS]
  refine hK _ ?_; clear hK K
  show AWp _ _ _ _ _
  refine wseq ?_
  refine wseq ?_
  refine wregI ([0, 1, 2] ++ ([3, 4, 5, 6, 7, 8, 9])) rfl fun K hK => ?_
  have hJ : K ⟨ofL [(2, .pt (2, 0) [] 0), (3, .pt (3, 0) [] 0), (4, .pt (4, 0) [] 0), (28, .bool (!(B && !decide (g.ts = []))))], ofRO [((2, 0), some (.bx (fS f))), ((3, 0), some (.bx (fS g))), ((4, 0), some (.bx [D.int 0, .v (.slice none 0 0)]))]⟩ := by
    refine hK _ ?_; clear hK K
    show AWp _ _ _ _ _
    refine wcond _ rfl (fun hc1 => ?_) (fun hc1 => ?_)
    · have hr : ¬ ((Right f ∧ Right g ∧ f.v = g.v) ∧ g.ts ≠ []) := by
        rintro ⟨h1, h2⟩
        rw [← hB, decide_eq_true h1] at hc1
        simp [h2] at hc1
      have hm : divF f g = (zeroF, false) := if_neg hr
      refine wseq ?_
      refine wreg fun K hK => ?_
      simp [C.impl_DivideLaurents, fS]
      refine hK _ ?_; clear hK K
      show AWp _ _ _ _ _
      refine wret ?_
      simp [C.impl_DivideLaurents, fS, hm, fO, zeroF, rows]
    · have hr : (Right f ∧ Right g ∧ f.v = g.v) ∧ g.ts ≠ [] := by
        rw [← hB] at hc1
        simpa using hc1
      obtain ⟨⟨hf, hg, hfg⟩, hgne⟩ := hr
      have hv0 := hf.1
      obtain ⟨n, hn⟩ : ∃ n : Nat, f.v = n := ⟨f.v.toNat, by omega⟩
      have hgn : g.v = n := by omega
      have hv : n ≤ 8 := by omega
      have hm := divF_some hf hg hn hgn hgne
      have hfl := hf.2.1
      have hgl := hg.2.1
      have he := right_he hf hn
      have heg := right_he hg hgn
      have hG0 : 0 < g.ts.length := List.length_pos_iff.2 hgne
      obtain ⟨hl1, hl2⟩ := lead_get hG0
      have hgood := hg.2.2.1 _ (List.getElem_mem hG0)
      have hgle := heg _ (List.getElem_mem hG0)
      rw [hl1] at hgle
      obtain ⟨hgle1, hgle2⟩ := hgle
      have hgc : leadC g ≠ 0 ∧ -1000000 ≤ leadC g ∧ leadC g ≤ 1000000 := by rw [← hl2]; exact ⟨hgood.2.1, hgood.2.2.1⟩
      obtain ⟨b0, b1, b2, b3, b4, b5, b6, b7, hpb⟩ := eight (pad_length (e := leadE g) (by omega))
      have hbb := pad_bd hgle2
      rw [hpb] at hbb
      refine wskip ?_
      show AWp _ _ _ _ _
      refine wseq ?_
      refine wregI ([0, 1, 2] ++ ([3])) rfl fun K hK => ?_
      refine opsI_seg fun L hL => ?_
      simp [C.impl_DivideLaurents, fS, hn]
      refine wcall1 (impl_newBuilding_calls n) (by simp) (by simp) ?_
      simp [C.impl_DivideLaurents, fS, hn]
      refine hL _ ?_; clear hL L
      refine opsI_end fun L hL => ?_
      simp [C.impl_DivideLaurents, fS, hn]
      refine hL _ ?_; clear hL L
      simp [C.impl_DivideLaurents, fS, hn]
      refine hK _ ?_; clear hK K
      show AWp _ _ _ _ _
      refine wseq ?_
      refine wseq ?_
      refine wreg fun K hK => ?_
      simp [C.impl_DivideLaurents, fS]
      refine hK _ ?_; clear hK K
      show AWp _ _ _ _ _
      refine wblock ?_
      refine wcode (c' := codeAt Try.f13 [1, 1, 1, 0, 1, 0]) (by kernel_rfl) ?_
      refine wst (σ2 := ⟨ofL [(2, .pt (2, 0) [] 0), (3, .pt (3, 0) [] 0), (4, .pt (4, 0) [] 0), (6, .pt (6, 0) [] 0), (34, .d (.sh 2 f.ts.length (rows tS f.ts))), (35, .int f.ts.length), (36, .int 0)], ofRO [((2, 0), some (.bx (fS f))), ((3, 0), some (.bx (fS g))), ((4, 0), some (.bx [D.int 0, .v (.slice none 0 0)])), ((6, 0), some (.bx [D.int n, .mp []]))]⟩) (by simp [fS, hn]) ?_
      refine impl_DivideLaurents_l1 f g n hn hv hf hfl _ ?_
      intro es l hLJ hall
      have hnf0 : nf lexlt l = f.ts.map pr := by
        rw [nf_perm hall]
        exact (nf_unique lexOrd (pr_desc hf) (pr_nz hf) fun k => rfl).symm
      show AWp _ _ _ _ _
      refine wseq ?_
      refine wregI ([0, 1, 2] ++ ([3])) rfl fun K hK => ?_
      refine opsI_seg fun L hL => ?_
      simp [C.impl_DivideLaurents, fS, hn]
      refine wcall1 (impl_newBuilding_calls n) (by simp) (by simp) ?_
      simp [C.impl_DivideLaurents, fS, hn]
      refine hL _ ?_; clear hL L
      refine opsI_end fun L hL => ?_
      simp [C.impl_DivideLaurents, fS, hn]
      refine hL _ ?_; clear hL L
      simp [C.impl_DivideLaurents, fS, hn]
      refine hK _ ?_; clear hK K
      show AWp _ _ _ _ _
      refine wseq ?_
      refine wreg fun K hK => ?_
      simp [C.impl_DivideLaurents, fS, hG0, tS_0 hG0, tS_1 hG0, hl1, hl2]
      refine hK _ ?_; clear hK K
      show AWp _ _ _ _ _
      refine wseq ?_
      refine wblock ?_
      refine wloop (fun x : (List (List Int × Int) × List (List Int × Int)) × (List (List Int × Int) × List (List Int × Int)) × List (List Int × Int) => ⟨ofL [(2, .pt (2, 0) [] 0), (3, .pt (3, 0) [] 0), (4, .pt (4, 0) [] 0), (6, .pt (6, 0) [] 0), (9, .pt (9, 0) [] 0), (10, .pt (10, 0) [] 0)], ofRO [((2, 0), some (.bx (fS f))), ((3, 0), some (.bx (fS g))), ((4, 0), some (.bx [D.int 0, .v (.slice none 0 0)])), ((6, 0), some (.bx [D.int n, .mp x.1.1])), ((9, 0), some (.bx [D.int n, .mp x.2.1.1])), ((10, 0), some (.bx [shI (leadE g), D.int (leadC g)]))]⟩) (fun x => LJ n x.1.1 x.1.2 (600000000 + x.2.2.length * 600000000000000) ∧ LJ n x.2.1.1 x.2.1.2 (x.2.2.length * 1000000) ∧ x.2.1.2.Perm x.2.2 ∧ DivJ chkI f g n (nf lexlt x.1.2) x.2.2 ∧ DivO g n (nf lexlt x.1.2) x.2.2) (fun x => 600 - x.2.2.length) ((es, l), ([], []), []) (by simp [C.impl_DivideLaurents, fS, hn]) ⟨hLJ.mono (by dsimp only [List.length_nil]; omega), ⟨MapR.nil n, by simp, by simp [absE]⟩, by simp, by dsimp only; rw [hnf0]; exact DivJ.start _ hf hn, ⟨List.Pairwise.nil, by simp [Nz], by simp, by simp⟩⟩ ?_
      intro x2 hx2 R2 hR2
      obtain ⟨⟨es, l⟩, ⟨eo, lo⟩, O⟩ := x2
      obtain ⟨hLr, hLo, hPo, hJ1, hJ2⟩ := hx2
      dsimp only at hLr hLo hPo hJ1 hJ2 ⊢
      have hOl := hJ1.ol
      have helen := unpad_len hLr.map hLr.len
      have heol : eo.length = O.length := by
        have h1 := unpad_len hLo.map hLo.len
        rw [nf_perm hPo, hJ2.nf] at h1
        exact h1.symm
      refine wseq ?_
      refine wseq ?_
      refine wreg fun K hK => ?_
      simp [C.impl_DivideLaurents, fS]
      refine hK _ ?_; clear hK K
      show AWp _ _ _ _ _
      refine wcond _ rfl (fun hc3 => ?_) (fun hc3 => ?_)
      · have hes : 0 < es.length := by have := d_t hc3; omega
        obtain ⟨⟨a, c⟩, R', hR⟩ : ∃ y R', nf lexlt l = y :: R' := by
          cases hh : nf lexlt l with
          | nil => rw [hh] at helen; simp at helen; omega
          | cons y R' => exact ⟨y, R', rfl⟩
        rw [hR] at hJ1 hJ2
        refine wskip ?_
        show AWp _ _ _ _ _
        refine wblock ?_
        refine wseq ?_
        refine wreg fun K hK => ?_
        simp [C.impl_DivideLaurents, fS]
        refine hK _ ?_; clear hK K
        show AWp _ _ _ _ _
        refine wseq ?_
        refine wreg fun K hK => ?_
        simp [C.impl_DivideLaurents, fS]
        refine hK _ ?_; clear hK K
        show AWp _ _ _ _ _
        refine wseq ?_
        refine wseq ?_
        refine wreg fun K hK => ?_
        simp [C.impl_DivideLaurents, fS]
        refine hK _ ?_; clear hK K
        show AWp _ _ _ _ _
        refine wblock ?_
        refine wcode (c' := codeAt Try.f13 [1, 1, 1, 1, 1, 1, 0, 0, 0, 1, 0, 1, 1, 0, 1, 0]) (by kernel_rfl) ?_
        refine impl_DivideLaurents_l3 f g n hn es eo (hLr.map.len8 hv) _ ?_
        intro P top cur hqe hT
        have hPne : P ≠ [] := by intro e; rw [e] at hqe; have := hqe.length_eq; simp at this; omega
        obtain ⟨htop, hget⟩ := top_head hLr.map hLr.len hqe hT hR
        have ha := hJ1.rl (a, c) (by simp)
        obtain ⟨hal, ha60⟩ := ha
        dsimp only at hal ha60
        obtain ⟨a0, a1, a2, a3, a4, a5, a6, a7, hpa⟩ := eight (pad_length (e := a) (by omega))
        have hba := pad_bd60 (B := 60) (by omega) (by omega) ha60
        rw [hpa] at hba htop
        subst htop
        have hcb : -1000000000000000000 ≤ c ∧ c ≤ 1000000000000000000 := by
          have h1 := hJ1.ra
          simp only [absK, List.map_cons, List.sum_cons] at h1
          omega
        have hEl : (addE (-1) a (leadE g)).length = n := by rw [addE_length _ _ _ (by omega)]; exact hal
        have hE80 := addE_bd (B := 60) (C := 20) (k := -1) (.inr rfl) (hal.trans hgle1.symm) ha60 hgle2
        have hpe0 : [a0 + -1 * b0, a1 + -1 * b1, a2 + -1 * b2, a3 + -1 * b3, a4 + -1 * b4, a5 + -1 * b5, a6 + -1 * b6, a7 + -1 * b7] = pad (addE (-1) a (leadE g)) := by
          rw [← pad_add (by omega), hpa, hpb]
          simp [addE]
        show AWp _ _ _ _ _
        refine wseq ?_
        refine wdraw (.take 0 (.take 1 (.take 2 (.take 3 (.take 4 (.take 5 (.take 6 (.done)))))))) ⟨by kernel_rfl, by kernel_rfl⟩ fun K hK => ?_
        simp [C.impl_DivideLaurents, fS, hget, hLr.map.len8 hv]
        refine hK _ ?_; clear hK K
        show AWp _ _ _ _ _
        refine wseq ?_
        refine wcode (c' := codeAt Try.f13 [1, 1, 1, 1, 1, 1, 0, 0, 0, 1, 0, 1, 1, 1, 1, 0]) (by kernel_rfl) ?_
        refine impl_DivideLaurents_r24 f g n es eo a0 a1 a2 a3 a4 a5 a6 a7 b0 b1 b2 b3 b4 b5 b6 b7 c (by omega) hpb hba hbb _ _ ?_
        show AWp _ _ _ _ _
        refine wseq ?_
        obtain ⟨e0, e1, e2, e3, e4, e5, e6, e7, hpe⟩ := eight (pad_length (e := addE (-1) a (leadE g)) (by omega))
        rw [hpe] at hpe0
        simp only [List.cons.injEq, and_true] at hpe0
        obtain ⟨k0, k1, k2, k3, k4, k5, k6, k7⟩ := hpe0
        simp only [k0, k1, k2, k3, k4, k5, k6, k7]
        have hqb : -1000000000000000000 ≤ c.tdiv (leadC g) ∧ c.tdiv (leadC g) ≤ 1000000000000000000 := by
          have h1 : (c.tdiv (leadC g)).natAbs ≤ c.natAbs := by
            rw [Int.natAbs_tdiv]
            exact Nat.div_le_self _ _
          omega
        generalize hQ : c.tdiv (leadC g) = q at hqb
        have htkE : List.take n [e0, e1, e2, e3, e4, e5, e6, e7] = addE (-1) a (leadE g) := by
          rw [← hpe]
          have := pad_take (e := addE (-1) a (leadE g))
          rwa [hEl] at this
        have hsh := sh8 n e0 e1 e2 e3 e4 e5 e6 e7
        rw [htkE] at hsh
        refine wreg fun K hK => ?_
        simp [C.impl_DivideLaurents, fS, hgc.1, hQ, wrapOk (x := q) (by omega) (by omega)]
        refine hK _ ?_; clear hK K
        show AWp _ _ _ _ _
        refine wseq ?_
        refine wseq ?_
        refine wcode (c' := codeAt Try.f13 [1, 1, 1, 1, 1, 1, 0, 0, 0, 1, 0, 1, 1, 1, 1, 1, 1, 0, 0]) (by kernel_rfl) ?_
        refine impl_DivideLaurents_r26 f g n hn hv es eo O (addE (-1) a (leadE g)) e0 e1 e2 e3 e4 e5 e6 e7 c q hgc.1 hsh hEl heol _ _ ?_
        show AWp _ _ _ _ _
        refine wcond _ rfl (fun hc8 => ?_) (fun hc8 => ?_)
        · have hr := nd_t hc8
          have hfail := hJ1.fail (by
            rcases Classical.em (O.length = 600) with h | h
            · exact .inr h
            · refine .inl fun h2 => hr ⟨?_, h⟩
              dsimp only at h2
              rw [hQ] at h2
              simp only [chkI, decide_eq_true_eq] at h2
              exact ⟨⟨h2.1, okE_iff.2 ⟨by omega, h2.2.1⟩⟩, h2.2.2⟩)
          refine wseq ?_
          refine wreg fun K hK => ?_
          simp [C.impl_DivideLaurents, fS]
          refine hK _ ?_; clear hK K
          show AWp _ _ _ _ _
          refine wret ?_
          simp [C.impl_DivideLaurents, fS, hm, hfail, endF, zeroF, fO, rows]
        · obtain ⟨⟨⟨g1, g2⟩, g3⟩, g4⟩ := nd_f hc8
          have hE20 := (okE_iff.1 g2).2
          have hchk : chkI (addE (-1) a (leadE g)) q = true := by simp only [chkI, decide_eq_true_eq]; exact ⟨hE20, g3⟩
          have hJ1s := hJ1.step hg hgn g1 (by dsimp only; rw [hQ]; exact hchk) (by omega) hEl (fun z hz => by have := hE20 z hz; omega) (by dsimp only; rw [hQ]; exact g3.2)
          have hJ2s := hJ2.step hJ1.rd (fun y hy => (hJ1.rl y hy).1) hg hgn hgne g1 (by dsimp only; rw [hQ]; exact g3.1)
          dsimp only at hJ1s hJ2s
          rw [hQ] at hJ1s hJ2s
          have hvo := hLo.val hEl (c := q) (X := 1000000) (by omega) (by omega)
          rw [hpe] at hvo
          have hbe := pad_bd hE20
          rw [hpe] at hbe
          refine wskip ?_
          show AWp _ _ _ _ _
          refine wseq ?_
          refine wregI ([0, 1, 2, 3] ++ ([])) rfl fun K hK => ?_
          refine opsI_seg fun L hL => ?_
          simp [C.impl_DivideLaurents, fS]
          refine wcall1 (impl_building_add_calls n q eo e0 e1 e2 e3 e4 e5 e6 e7 (hLo.map.len8 hv) hvo) (by simp) (by simp) ?_
          simp [C.impl_DivideLaurents, fS]
          refine hL _ ?_; clear hL L
          refine opsI_end fun L hL => ?_
          simp only [AOpsI]
          refine hL _ ?_; clear hL L
          simp [C.impl_DivideLaurents, fS]
          rw [← hpe]
          refine hK _ ?_; clear hK K
          show AWp _ _ _ _ _
          refine wseq ?_
          refine wreg fun K hK => ?_
          simp [C.impl_DivideLaurents, fS]
          refine hK _ ?_; clear hK K
          show AWp _ _ _ _ _
          refine wblock ?_
          refine wcode (c' := codeAt Try.f13 [1, 1, 1, 1, 1, 1, 0, 0, 0, 1, 0, 1, 1, 1, 1, 1, 1, 1, 1, 1, 0]) (by kernel_rfl) ?_
          refine impl_DivideLaurents_l4 f g n hn hgn hv hg hgl es l (madd eo (pad (addE (-1) a (leadE g))) q) O hOl hLr (addE (-1) a (leadE g)) hEl e0 e1 e2 e3 e4 e5 e6 e7 q hpe hbe g3 _ ?_
          intro es2 l2 hL2 hP2
          have hnf2 : nf lexlt l2 = nf lexlt (stepL g (a, c) R') := step_nf hR (by dsimp only; rw [hQ]; exact hP2)
          simp [C.impl_DivideLaurents, fS]
          refine cast (congrArg R2 ?_) (hR2 ((es2, l2), (madd eo (pad (addE (-1) a (leadE g))) q, (addE (-1) a (leadE g), q) :: lo), O ++ [(addE (-1) a (leadE g), q)]) ⟨?_, ?_, ?_, ?_, ?_⟩ (by simp; omega))
          · simp [fS, hn, hgn]
          · exact hL2.mono (by simp; omega)
          · exact (hLo.add hEl (c := q) (X := 1000000) (by omega)).mono (by simp; omega)
          · exact (List.Perm.cons _ hPo).trans (List.perm_append_singleton _ _).symm
          · dsimp only
            rw [hnf2]
            exact hJ1s
          · dsimp only
            rw [hnf2]
            exact hJ2s
      · have hes : es.length = 0 := by have := d_f hc3; omega
        have hR0 : nf lexlt l = [] := List.eq_nil_of_length_eq_zero (by omega)
        rw [hR0] at hJ1 hJ2
        have hdone := hJ1.done
        have hsh0 := hJ2.shut n
        rw [← shutF_perm hPo] at hsh0
        refine wexit ?_
        show AWp _ _ _ _ _
        refine wseq ?_
        refine wregI ([0, 1] ++ ([2, 3, 4, 5])) rfl fun K hK => ?_
        refine opsI_seg fun L hL => ?_
        simp [C.impl_DivideLaurents, fS, hn]
        refine wcall1 (hDone n eo lo hLo.map hLo.len (by omega) hv (by have := hPo.length_eq; omega)) (by simp) (by simp) ?_
        simp [C.impl_DivideLaurents, fS, hn]
        refine hL _ ?_; clear hL L
        refine opsI_end fun L hL => ?_
        simp [C.impl_DivideLaurents, fS, hn]
        refine hL _ ?_; clear hL L
        simp [C.impl_DivideLaurents, fS, hn]
        refine hK _ ?_; clear hK K
        show AWp _ _ _ _ _
        refine wret ?_
        simp [C.impl_DivideLaurents, fS, hm, hdone, hsh0, fO]
  clear hK
  by_cases hb : B = true
  · refine opsI_seg fun L hL => ?_
    simp [C.impl_DivideLaurents, fS, hb]
    refine wcall1 (hcall) (by simp) (by simp) ?_
    simp [C.impl_DivideLaurents, fS, hb]
    refine hL _ ?_; clear hL L
    refine opsI_end fun L hL => ?_
    simp [C.impl_DivideLaurents, fS, hb]
    refine hL _ ?_; clear hL L
    simp [C.impl_DivideLaurents, fS, hb]
    refine cast (congrArg K ?_) hJ
    simp [ieq0, fS, hb]
  · refine opsI_seg fun L hL => ?_
    simp [C.impl_DivideLaurents, fS, hb]
    refine wcall1 (hcall) (by simp) (by simp) ?_
    simp [C.impl_DivideLaurents, fS, hb]
    refine hL _ ?_; clear hL L
    refine opsI_end fun L hL => ?_
    simp [C.impl_DivideLaurents, fS, hb]
    refine hL _ ?_; clear hL L
    simp [C.impl_DivideLaurents, fS, hb]
    refine cast (congrArg K ?_) hJ
    simp [ieq0, fS, hb]
theorem iDiv_calls (hDone : DoneOk) (f g : Lau) (hx : f.ts.length < 4611686018427387904) (hxe : ∀ t ∈ f.ts, t.e.length < 4611686018427387904) (hy : g.ts.length < 4611686018427387904) (hye : ∀ t ∈ g.ts, t.e.length < 4611686018427387904) : ACalls Try.prog F.impl_DivideLaurents [aF f, aF g] [] true (fun outs res => outs = [] ∧ res = [.ag (fO (divF f g).1), .one (D.bool (divF f g).2)]) := (impl_DivideLaurents_calls hDone f g hx hxe hy hye).weak1
theorem endF_right (v : Int) (O : Option (List (List Int × Int))) : Right (endF v O).1 ∨ endF v O = (zeroF, false) := by
  cases O with
  | none => exact .inr rfl
  | some O =>
    simp only [endF]
    split
    · rename_i h; exact .inl h
    · exact .inr rfl
theorem divF_small (f g : Lau) : SmallF (divF f g).1 := by
  unfold divF
  split
  · rcases endF_right f.v (divL chkI g 600 (f.ts.map pr)) with h | h
    · exact small_right h
    · rw [h]; exact small_zero
  · exact small_zero

end Go.Proofs.Ytocknokodgnlbaa.Ab
namespace Go.Proofs.Ytocknokodgnlbaa.Ab
open Go
set_option linter.unusedSimpArgs false
set_option linter.unusedVariables false
set_option maxRecDepth 10000
set_option maxHeartbeats 2000000


end Go.Proofs.Ytocknokodgnlbaa.Ab
namespace Go.Proofs.Ytocknokodgnlbaa.Ab
open Go
set_option linter.unusedSimpArgs false
set_option linter.unusedVariables false
set_option maxRecDepth 10000
set_option maxHeartbeats 2000000
theorem SmallF.sm {f : Lau} (h : SmallF f) : f.ts.length < 4611686018427387904 ∧ ∀ t ∈ f.ts, t.e.length < 4611686018427387904 := ⟨by have := h.1; omega, fun t ht => by have := h.2.1 t ht; omega⟩
theorem addF_small (f : Lau) (k : Int) (g : Lau) : SmallF (addF f k g).1 := by
  unfold addF
  split
  · rcases shutF_right f.v (f.ts.map pr ++ g.ts.map (prk k)) with h | h
    · exact small_right h
    · rw [h]; exact small_zero
  · exact small_zero
theorem mono_small2 (e : List Int) : SmallF (monoF e) := by
  unfold monoF
  split
  · rename_i h; exact small_right h
  · exact small_zero
theorem getD_get {l : List Lau} {i : Nat} (h : i < l.length) : l[i] = l.getD i zeroF := by simp [List.getD_eq_getElem?_getD, h]
theorem small_getD {l : List Lau} (h : ∀ f ∈ l, SmallF f) (i : Nat) : SmallF (l.getD i zeroF) := by
  rw [List.getD_eq_getElem?_getD]
  by_cases q : i < l.length
  · rw [List.getElem?_eq_getElem q]; exact h _ (List.getElem_mem q)
  · rw [List.getElem?_eq_none (by omega)]; exact small_zero
theorem listF_cnt : ∀ {l : List Lau}, (∀ f ∈ l, SmallF f) → cntL cntF l ≤ l.length * 5401
  | [], _ => by simp [cntL]
  | f :: l, h => by
    have h1 := h f (by simp)
    have h2 := listF_cnt (l := l) fun x hx => h x (by simp [hx])
    have h3 := h1.2.2
    simp only [cntL, List.length_cons, cntF]
    omega
end Go.Proofs.Ytocknokodgnlbaa.Ab
namespace Go.Proofs.Ytocknokodgnlbaa.Ab
open Go
set_option linter.unusedSimpArgs false
set_option linter.unusedVariables false
set_option maxRecDepth 10000
set_option maxHeartbeats 2000000
noncomputable def smX (k : Nat) (l : List Lau) (ii : Nat) : Lau × Bool := mulF (l.getD (l.length - ii) zeroF) (l.getD (l.length - k + ii) zeroF)
noncomputable def smS (k : Nat) (l : List Lau) : Nat → Option Lau
  | 0 => some ⟨k, []⟩
  | m + 1 => match smS k l m with
    | some s => if (smX k l (m + 1)).2 = true ∧ (addF s 1 (smX k l (m + 1)).1).2 = true then some (addF s 1 (smX k l (m + 1)).1).1 else none
    | none => none
noncomputable def smL (k : Nat) : Nat → Option (List Lau)
  | 0 => some []
  | m + 1 => match smL k m with
    | some l => if m < k then some (l ++ [monoF (unitL k m)]) else (match smS k l (k / 2) with
      | some s => if (divF s (l.getD (m - k) zeroF)).2 = true then some (l ++ [(divF s (l.getD (m - k) zeroF)).1]) else none
      | none => none)
    | none => none
noncomputable def smF (k n : Int) : List Lau × Bool := if (4 ≤ k ∧ k ≤ 7) ∧ 0 ≤ n ∧ n ≤ 11 then (match smL k.toNat n.toNat with | some l => (l, true) | none => ([], false)) else ([], false)
theorem smS_none {k : Nat} {l : List Lau} {n m : Nat} (h : smS k l n = none) (hm : n ≤ m) : smS k l m = none := by
  induction m with
  | zero =>
    have : n = 0 := by omega
    subst this
    exact h
  | succ m ih =>
    rcases Nat.lt_or_ge m n with q | q
    · have : n = m + 1 := by omega
      subst this
      exact h
    · simp only [smS, ih q]
theorem smL_none {k : Nat} {n m : Nat} (h : smL k n = none) (hm : n ≤ m) : smL k m = none := by
  induction m with
  | zero =>
    have : n = 0 := by omega
    subst this
    exact h
  | succ m ih =>
    rcases Nat.lt_or_ge m n with q | q
    · have : n = m + 1 := by omega
      subst this
      exact h
    · simp only [smL, ih q]
theorem smS_small {k : Nat} {l : List Lau} : ∀ {m : Nat} {s : Lau}, smS k l m = some s → SmallF s
  | 0, s, h => by
    simp only [smS, Option.some.injEq] at h
    subst h
    exact ⟨by simp, by simp, by simp [cntL]⟩
  | m + 1, s, h => by
    simp only [smS] at h
    split at h
    · split at h
      · injection h with h
        subst h
        exact addF_small _ _ _
      · simp at h
    · simp at h
theorem smL_ok (k : Nat) : ∀ (m : Nat) (l : List Lau), smL k m = some l → l.length = m ∧ ∀ f ∈ l, SmallF f
  | 0, l, h => by
    simp only [smL, Option.some.injEq] at h
    subst h
    simp
  | m + 1, l, h => by
    simp only [smL] at h
    split at h
    · rename_i l' hl
      obtain ⟨h1, h2⟩ := smL_ok k m l' hl
      split at h
      · injection h with h
        subst h
        refine ⟨by simp [h1], fun f hf => ?_⟩
        rcases List.mem_append.1 hf with hf | hf
        · exact h2 f hf
        · simp only [List.mem_singleton] at hf
          subst hf
          exact mono_small2 _
      · split at h
        · split at h
          · injection h with h
            subst h
            refine ⟨by simp [h1], fun f hf => ?_⟩
            rcases List.mem_append.1 hf with hf | hf
            · exact h2 f hf
            · simp only [List.mem_singleton] at hf
              subst hf
              exact divF_small _ _
          · simp at h
        · simp at h
    · simp at h
theorem smF_small (k n : Int) : (smF k n).1.length ≤ 12 ∧ ∀ f ∈ (smF k n).1, SmallF f := by
  unfold smF
  split
  · rename_i h
    split
    · rename_i l hl
      obtain ⟨h1, h2⟩ := smL_ok _ _ l hl
      exact ⟨by dsimp only; omega, h2⟩
    · simp
  · simp
theorem mulF_small (f g : Lau) : SmallF (mulF f g).1 := by
  rcases mulF_right f g with h | h
  · exact small_right h
  · rw [h]; exact small_zero
theorem impl_ConstantLaurent0_calls (n : Nat) (hn : 1 ≤ n ∧ n ≤ 8) : ACalls Try.prog F.impl_ConstantLaurent [.int n, .int 0] [] true (fun outs res => outs = [] ∧ WkRs res [.ag (fO ⟨n, []⟩)]) := by
  refine ACalls.of_body (C := C.impl_ConstantLaurent) (n := Try.f75.ntmps) tabT folT Try.func75 rfl (by kernel_rfl) rfl (Nat.le_of_ble_eq_true rfl) (by decide) (by kernel_rfl) (by kernel_rfl) rfl (by simp) (by simp) ?_
  simp only [Try.f75]
  refine wseq ?_
  refine wreg fun K hK => ?_
  simp [C.impl_ConstantLaurent]
  refine hK _ ?_; clear hK K
  show AWp _ _ _ _ _
  refine wseq ?_
  refine wseq ?_
  refine wregI ([0, 1] ++ ([2, 3, 4, 5] ++ ([6, 7]))) rfl fun K hK => ?_
  refine opsI_seg fun L hL => ?_
  simp [C.impl_ConstantLaurent, show (1 ≤ (n : Int)) by omega, show ((n : Int) ≤ 8) by omega]
  refine wcall1 (impl_within_calls n 1 8) (by simp) (by simp) ?_
  simp [C.impl_ConstantLaurent, show (1 ≤ (n : Int)) by omega, show ((n : Int) ≤ 8) by omega]
  refine hL _ ?_; clear hL L
  refine opsI_seg fun L hL => ?_
  simp [C.impl_ConstantLaurent, show (1 ≤ (n : Int)) by omega, show ((n : Int) ≤ 8) by omega]
  refine wcall1 (impl_within_calls 0 (-1000000) 1000000) (by simp) (by simp) ?_
  simp [C.impl_ConstantLaurent, show (1 ≤ (n : Int)) by omega, show ((n : Int) ≤ 8) by omega]
  refine hL _ ?_; clear hL L
  refine opsI_end fun L hL => ?_
  simp [C.impl_ConstantLaurent, show (1 ≤ (n : Int)) by omega, show ((n : Int) ≤ 8) by omega]
  refine hL _ ?_; clear hL L
  simp [C.impl_ConstantLaurent, show (1 ≤ (n : Int)) by omega, show ((n : Int) ≤ 8) by omega]
  refine hK _ ?_; clear hK K
  show AWp _ _ _ _ _
  refine wcond _ rfl (fun hc1 => ?_) (fun hc1 => ?_)
  · simp at hc1
  · refine wskip ?_
    show AWp _ _ _ _ _
    refine wseq ?_
    refine wseq ?_
    refine wreg fun K hK => ?_
    simp [C.impl_ConstantLaurent]
    refine hK _ ?_; clear hK K
    show AWp _ _ _ _ _
    refine wcond _ rfl (fun hc2 => ?_) (fun hc2 => ?_)
    · refine wseq ?_
      refine wreg fun K hK => ?_
      simp [C.impl_ConstantLaurent]
      refine hK _ ?_; clear hK K
      show AWp _ _ _ _ _
      refine wret ?_
      simp [C.impl_ConstantLaurent, fO, rows]
    · simp at hc2
theorem iCon0_calls (n : Nat) (hn : 1 ≤ n ∧ n ≤ 8) : ACalls Try.prog F.impl_ConstantLaurent [.int n, .int 0] [] true (fun outs res => outs = [] ∧ res = [.ag (fO ⟨n, []⟩)]) := (impl_ConstantLaurent0_calls n hn).weak1

theorem spec_SomosLaurents_calls (k n : Int) : ACalls Try.prog F.spec_SomosLaurents [.int k, .int n] [] true (fun outs res => outs = [] ∧ WkRs res [.one (.ow 2 (smF k n).1.length (rows fO (smF k n).1)), .one (D.bool (smF k n).2)]) := by
  refine ACalls.of_body (C := C.spec_SomosLaurents) (n := Try.f42.ntmps) tabT folT Try.func42 rfl (by kernel_rfl) rfl (Nat.le_of_ble_eq_true rfl) (by decide) (by kernel_rfl) (by kernel_rfl) rfl (by simp) (by simp) ?_
  simp only [Try.f42]
  refine wseq ?_
  refine wreg fun K hK => ?_
  simp [C.spec_SomosLaurents, fO]
  refine hK _ ?_; clear hK K
  show AWp _ _ _ _ _
  refine wseq ?_
  refine wseq ?_
  refine wregI ([0, 1] ++ ([2, 3, 4, 5] ++ ([6, 7]))) rfl fun K hK => ?_
  have hJ : K ⟨ofL [(0, .int k), (1, .int n), (23, .bool (!decide ((4 ≤ k ∧ k ≤ 7) ∧ 0 ≤ n ∧ n ≤ 11)))], ofRO []⟩ := by
    refine hK _ ?_; clear hK K
    show AWp _ _ _ _ _
    refine wcond _ rfl (fun hc1 => ?_) (fun hc1 => ?_)
    · have hr := nd_t hc1
      have hm : smF k n = ([], false) := if_neg hr
      refine wseq ?_
      refine wreg fun K hK => ?_
      simp [C.spec_SomosLaurents, fO]
      refine hK _ ?_; clear hK K
      show AWp _ _ _ _ _
      refine wret ?_
      simp [C.spec_SomosLaurents, fO, hm, rows]
    · have hr := nd_f hc1
      obtain ⟨k, rfl⟩ : ∃ m : Nat, k = (m : Int) := ⟨k.toNat, by omega⟩
      obtain ⟨n, rfl⟩ : ∃ m : Nat, n = (m : Int) := ⟨n.toNat, by omega⟩
      have hk7 : 4 ≤ k ∧ k ≤ 7 := by omega
      have hn11 : n ≤ 11 := by omega
      have hm : smF k n = (match smL k n with | some l => (l, true) | none => ([], false)) := by
        unfold smF
        rw [if_pos hr]
        rfl
      refine wskip ?_
      show AWp _ _ _ _ _
      refine wseq ?_
      refine wreg fun K hK => ?_
      simp [C.spec_SomosLaurents, fO]
      refine hK _ ?_; clear hK K
      show AWp _ _ _ _ _
      refine wseq ?_
      refine wseq ?_
      refine wreg fun K hK => ?_
      simp [C.spec_SomosLaurents, fO]
      refine hK _ ?_; clear hK K
      show AWp _ _ _ _ _
      refine wblock ?_
      refine wloop (fun x : Nat × List Lau => ⟨ofL [(0, .int k), (1, .int n), (6, .al (6, 0) [] 0 x.1), (7, .int x.1)], ofRO [((6, 0), some (.ow 2 x.1 (rows fO x.2)))]⟩) (fun x => x.1 ≤ n ∧ smL k x.1 = some x.2) (fun x => n - x.1) (0, []) (by simp [C.spec_SomosLaurents, fO, rows]) ⟨by simp, rfl⟩ ?_
      intro x1 hx1 R1 hR1
      obtain ⟨at_, l⟩ := x1
      obtain ⟨hj, hl⟩ := hx1
      dsimp only at hj hl ⊢
      obtain ⟨hll, hls⟩ := smL_ok k at_ l hl
      refine wseq ?_
      refine wseq ?_
      refine wreg fun K hK => ?_
      simp [C.spec_SomosLaurents, fO]
      refine hK _ ?_; clear hK K
      show AWp _ _ _ _ _
      refine wcond _ rfl (fun hc2 => ?_) (fun hc2 => ?_)
      · have hjm : at_ < n := by have := d_t hc2; omega
        refine wskip ?_
        show AWp _ _ _ _ _
        refine wseq ?_
        refine wblock ?_
        refine wseq ?_
        refine wseq ?_
        refine wreg fun K hK => ?_
        simp [C.spec_SomosLaurents, fO]
        refine hK _ ?_; clear hK K
        show AWp _ _ _ _ _
        refine wcond _ rfl (fun hc3 => ?_) (fun hc3 => ?_)
        · have hak : at_ < k := by have := d_t hc3; omega
          have hnext : smL k (at_ + 1) = some (l ++ [monoF (unitL k at_)]) := by simp only [smL, hl, if_pos hak]
          refine wseq ?_
          refine wregI ([0, 1, 2, 3] ++ ([4] ++ ([5, 6, 7]))) rfl fun K hK => ?_
          refine opsI_seg fun L hL => ?_
          simp [C.spec_SomosLaurents, fO, fO_snoc, show (at_ + 1) * 32 ≤ 140737488355328 by omega]
          refine wcall1 (spec_l3Unit_calls k at_ (by omega) hak) (by simp) (by simp) ?_
          simp [C.spec_SomosLaurents, fO, fO_snoc, show (at_ + 1) * 32 ≤ 140737488355328 by omega]
          refine hL _ ?_; clear hL L
          refine opsI_seg fun L hL => ?_
          simp [C.spec_SomosLaurents, fO, fO_snoc, show (at_ + 1) * 32 ≤ 140737488355328 by omega]
          refine wcall1 (sMono_calls (unitL k at_) (by rw [unitL_length]; omega)) (by simp) (by simp) ?_
          simp [C.spec_SomosLaurents, fO, fO_snoc, show (at_ + 1) * 32 ≤ 140737488355328 by omega]
          refine hL _ ?_; clear hL L
          refine opsI_end fun L hL => ?_
          simp [C.spec_SomosLaurents, fO, fO_snoc, show (at_ + 1) * 32 ≤ 140737488355328 by omega]
          refine hL _ ?_; clear hL L
          simp [C.spec_SomosLaurents, fO, fO_snoc, show (at_ + 1) * 32 ≤ 140737488355328 by omega]
          refine hK _ ?_; clear hK K
          show AWp _ _ _ _ _
          refine wexit ?_
          show AWp _ _ _ _ _
          refine wreg fun K hK => ?_
          simp [C.spec_SomosLaurents, fO, wrapOk (x := (at_ : Int) + 1) (by omega) (by omega)]
          refine hK _ ?_; clear hK K
          simp [C.spec_SomosLaurents, fO]
          refine cast (congrArg R1 ?_) (hR1 (at_ + 1, l ++ [monoF (unitL k at_)]) ⟨hjm, hnext⟩ (by dsimp only; omega))
          simp
        · have hak : k ≤ at_ := by have := d_f hc3; omega
          have hnext : smL k (at_ + 1) = (match smS k l (k / 2) with
              | some s => if (divF s (l.getD (at_ - k) zeroF)).2 = true then some (l ++ [(divF s (l.getD (at_ - k) zeroF)).1]) else none
              | none => none) := by
            simp only [smL, hl, if_neg (show ¬ at_ < k by omega)]
          refine wskip ?_
          show AWp _ _ _ _ _
          refine wseq ?_
          refine wreg fun K hK => ?_
          simp [C.spec_SomosLaurents, fO]
          refine hK _ ?_; clear hK K
          show AWp _ _ _ _ _
          refine wseq ?_
          refine wseq ?_
          refine wreg fun K hK => ?_
          simp [C.spec_SomosLaurents, fO]
          refine hK _ ?_; clear hK K
          show AWp _ _ _ _ _
          refine wblock ?_
          refine wloop (fun x : Nat × Lau => ⟨ofL [(0, .int k), (1, .int n), (6, .al (6, 0) [] 0 at_), (7, .int at_), (8, .pt (8, 0) [] 0), (9, .int x.1)], ofRO [((6, 0), some (.ow 2 at_ (rows fO l))), ((8, 0), some (.bx (fO x.2)))]⟩) (fun x => 1 ≤ x.1 ∧ 2 * (x.1 - 1) ≤ k ∧ smS k l (x.1 - 1) = some x.2) (fun x => k - x.1) (1, ⟨k, []⟩) (by simp [C.spec_SomosLaurents, fO, rows]) ⟨by simp, by simp, rfl⟩ ?_
          intro x2 hx2 R2 hR2
          obtain ⟨ii, s⟩ := x2
          obtain ⟨hi1, hi2, hs⟩ := hx2
          dsimp only at hi1 hi2 hs ⊢
          have hsS := smS_small hs
          refine wseq ?_
          refine wseq ?_
          refine wreg fun K hK => ?_
          simp [C.spec_SomosLaurents, fO, wrapOk (x := 2 * (ii : Int)) (by omega) (by omega)]
          refine hK _ ?_; clear hK K
          show AWp _ _ _ _ _
          refine wcond _ rfl (fun hc4 => ?_) (fun hc4 => ?_)
          · have hik : 2 * ii ≤ k := by have := d_t hc4; omega
            obtain ⟨p1, hp1⟩ : ∃ p1 : Nat, p1 + ii = at_ := ⟨at_ - ii, by omega⟩
            obtain ⟨p0, hp0⟩ : ∃ p0 : Nat, p0 + k = at_ := ⟨at_ - k, by omega⟩
            have hw1 : IntKind.i64.wrap ((at_ : Int) - ii) = (p1 : Int) := by rw [wrapOk (by omega) (by omega)]; omega
            have hw0 : IntKind.i64.wrap ((at_ : Int) - k) = (p0 : Int) := by rw [wrapOk (by omega) (by omega)]; omega
            have hw2 : IntKind.i64.wrap ((p0 : Int) + ii) = ((p0 + ii : Nat) : Int) := by rw [wrapOk (by omega) (by omega)]; omega
            obtain ⟨p2, hp2⟩ : ∃ p2 : Nat, p2 = p0 + ii := ⟨_, rfl⟩
            rw [← hp2] at hw2
            have hF1 := getD_get (l := l) (i := p1) (by omega)
            have hF2 := getD_get (l := l) (i := p2) (by omega)
            have hs1 := (small_getD hls p1).sm
            have hs2 := (small_getD hls p2).sm
            obtain ⟨m, hmi⟩ : ∃ m, m + 1 = ii := ⟨ii - 1, by omega⟩
            have hs' : smS k l m = some s := by rw [← hs, ← hmi]; rfl
            obtain ⟨X, hX⟩ : ∃ X, X = smX k l ii := ⟨_, rfl⟩
            have hXe : mulF (l.getD p1 zeroF) (l.getD p2 zeroF) = X := by
              rw [hX]
              unfold smX
              rw [hll, show at_ - ii = p1 by omega, show at_ - k + ii = p2 by omega]
            have hXc := sMul_calls (l.getD p1 zeroF) (l.getD p2 zeroF) hs1.1 hs1.2 hs2.1 hs2.2
            have hXs : SmallF X.1 := hXe ▸ mulF_small _ _
            rw [hXe] at hXc
            obtain ⟨Y, hY⟩ : ∃ Y, Y = addF s 1 X.1 := ⟨_, rfl⟩
            have hYc := sAdd_calls s 1 X.1 hsS.sm.1 hsS.sm.2 hXs.sm.1 hXs.sm.2
            rw [← hY] at hYc
            have hnS : smS k l ii = if X.2 = true ∧ Y.2 = true then some Y.1 else none := by
              rw [hX] at hY
              rw [hY, hX, ← hmi]
              simp only [smS, hs']
            clear hX hY hXe
            refine wskip ?_
            show AWp _ _ _ _ _
            refine wseq ?_
            refine wblock ?_
            refine wseq ?_
            refine wdraw (.take 0 (.take 1 (.take 2 (.take 3 (.take 4 (.take 5 (.take 6 (.take 7 (.take 8 (.take 9 (.take 10 (.take 11 (.take 12 (.take 13 (.all [(14, .take 15 (.take 16 (.take 17 (.all [(18, .all [(19, .take 20 (.done))])])))), (18, .all [(14, .take 15 (.take 16 (.take 17 (.all [(19, .take 20 (.done))]))))])]))))))))))))))) ⟨by kernel_rfl, by kernel_rfl⟩ fun K hK => ?_
            have hJ : K ⟨ofL [(0, .int k), (1, .int n), (6, .al (6, 0) [] 0 at_), (7, .int at_), (8, .pt (8, 0) [] 0), (9, .int ii), (10, .pt (10, 0) [] 0), (11, .bool X.2)], ofRO [((6, 0), some (.ow 2 at_ (rows fO l))), ((8, 0), some (.bx (fO s))), ((10, 0), some (.bx (fO X.1)))]⟩ := by
              refine hK _ ?_; clear hK K
              show AWp _ _ _ _ _
              refine wseq ?_
              refine wregI ([0, 1, 2] ++ ([3, 4, 5, 6, 7, 8])) rfl fun K hK => ?_
              refine opsI_seg fun L hL => ?_
              simp [C.spec_SomosLaurents, fO]
              refine wcall1 (hYc) (by simp) (by simp) ?_
              simp [C.spec_SomosLaurents, fO]
              refine hL _ ?_; clear hL L
              refine opsI_end fun L hL => ?_
              simp [C.spec_SomosLaurents, fO]
              refine hL _ ?_; clear hL L
              simp [C.spec_SomosLaurents, fO]
              refine hK _ ?_; clear hK K
              show AWp _ _ _ _ _
              refine wseq ?_
              refine wseq ?_
              refine wreg fun K hK => ?_
              have hJ : K ⟨ofL [(0, .int k), (1, .int n), (6, .al (6, 0) [] 0 at_), (7, .int at_), (8, .pt (8, 0) [] 0), (9, .int ii), (12, .pt (12, 0) [] 0), (78, .bool (!(X.2 && Y.2)))], ofRO [((6, 0), some (.ow 2 at_ (rows fO l))), ((8, 0), some (.bx (fO s))), ((12, 0), some (.bx (fO Y.1)))]⟩ := by
                refine hK _ ?_; clear hK K
                show AWp _ _ _ _ _
                refine wcond _ rfl (fun hc5 => ?_) (fun hc5 => ?_)
                · have hno : ¬ (X.2 = true ∧ Y.2 = true) := by
                    rintro ⟨q1, q2⟩
                    rw [q1, q2] at hc5
                    simp at hc5
                  have hnone : smL k n = none := smL_none (n := at_ + 1) (by rw [hnext, smS_none (n := ii) (by rw [hnS, if_neg hno]) (by omega)]) (by omega)
                  refine wseq ?_
                  refine wreg fun K hK => ?_
                  simp [C.spec_SomosLaurents, fO]
                  refine hK _ ?_; clear hK K
                  show AWp _ _ _ _ _
                  refine wret ?_
                  simp [C.spec_SomosLaurents, fO, hm, hnone, rows]
                · have hyes : X.2 = true ∧ Y.2 = true := by simpa using hc5
                  refine wskip ?_
                  show AWp _ _ _ _ _
                  refine wreg fun K hK => ?_
                  simp [C.spec_SomosLaurents, fO]
                  refine hK _ ?_; clear hK K
                  show AWp _ _ _ _ _
                  refine wreg fun K hK => ?_
                  simp [C.spec_SomosLaurents, fO, wrapOk (x := (ii : Int) + 1) (by omega) (by omega)]
                  refine hK _ ?_; clear hK K
                  simp [C.spec_SomosLaurents, fO]
                  refine cast (congrArg R2 ?_) (hR2 (ii + 1, Y.1) ⟨by dsimp only; omega, by dsimp only; omega, by dsimp only; rw [Nat.add_sub_cancel, hnS, if_pos hyes]⟩ (by dsimp only; omega))
                  simp [fO]
              clear hK
              by_cases h1 : X.2 = true
              · simp [C.spec_SomosLaurents, fO, h1]
                refine cast (congrArg K ?_) hJ
                simp [fO, h1]
              · simp [C.spec_SomosLaurents, fO, h1]
                refine cast (congrArg K ?_) hJ
                simp [fO, h1]
            clear hK
            simp [C.spec_SomosLaurents, fO, hw1, hw0, hw2, hF1, hF2, fO_0 (show p1 < l.length by omega), fO_1 (show p1 < l.length by omega), fO_0 (show p2 < l.length by omega), fO_1 (show p2 < l.length by omega), show (p1 : Int) < at_ by omega, show (p2 : Int) < at_ by omega, show p1 < at_ by omega, show p2 < at_ by omega]
            repeat' first
              | (refine wcall1 (hXc) ?_ (by simp) ?_; (focus (simp; done)); simp [C.spec_SomosLaurents, fO])
              | (refine cast (congrArg K ?_) hJ; simp [fO]; done)
              | refine And.intro ?_ ?_
          · have hik : k < 2 * ii := by have := d_f hc4; omega
            have hk2 : ii - 1 = k / 2 := by omega
            rw [← hk2, hs] at hnext
            dsimp only at hnext
            obtain ⟨p0, hp0⟩ : ∃ p0 : Nat, p0 + k = at_ := ⟨at_ - k, by omega⟩
            have hw0 : IntKind.i64.wrap ((at_ : Int) - k) = (p0 : Int) := by rw [wrapOk (by omega) (by omega)]; omega
            have hF0 := getD_get (l := l) (i := p0) (by omega)
            have hs0 := (small_getD hls p0).sm
            obtain ⟨V, hV⟩ : ∃ V, V = divF s (l.getD p0 zeroF) := ⟨_, rfl⟩
            have hVc := sDiv_calls s (l.getD p0 zeroF) hsS.sm.1 hsS.sm.2 hs0.1 hs0.2
            rw [show at_ - k = p0 by omega, ← hV] at hnext
            rw [← hV] at hVc
            clear hV
            refine wexit ?_
            show AWp _ _ _ _ _
            refine wseq ?_
            refine wdraw (.take 0 (.take 1 (.take 2 (.take 3 (.take 4 (.take 5 (.take 6 (.all [(7, .take 8 (.take 9 (.take 10 (.all [(11, .all [(12, .take 13 (.done))])])))), (11, .all [(7, .take 8 (.take 9 (.take 10 (.all [(12, .take 13 (.done))]))))])])))))))) ⟨by kernel_rfl, by kernel_rfl⟩ fun K hK => ?_
            have hJ : K ⟨ofL [(0, .int k), (1, .int n), (6, .al (6, 0) [] 0 at_), (7, .int at_), (14, .pt (14, 0) [] 0), (15, .bool V.2)], ofRO [((6, 0), some (.ow 2 at_ (rows fO l))), ((14, 0), some (.bx (fO V.1)))]⟩ := by
              refine hK _ ?_; clear hK K
              show AWp _ _ _ _ _
              refine wseq ?_
              refine wseq ?_
              refine wreg fun K hK => ?_
              simp [C.spec_SomosLaurents, fO]
              refine hK _ ?_; clear hK K
              show AWp _ _ _ _ _
              refine wcond _ rfl (fun hc6 => ?_) (fun hc6 => ?_)
              · have hno : ¬ (V.2 = true) := by
                  intro q
                  rw [q] at hc6
                  simp at hc6
                have hnone : smL k n = none := smL_none (n := at_ + 1) (by rw [hnext, if_neg hno]) (by omega)
                refine wseq ?_
                refine wreg fun K hK => ?_
                simp [C.spec_SomosLaurents, fO]
                refine hK _ ?_; clear hK K
                show AWp _ _ _ _ _
                refine wret ?_
                simp [C.spec_SomosLaurents, fO, hm, hnone, rows]
              · have hyes3 : V.2 = true := by simpa using hc6
                refine wskip ?_
                show AWp _ _ _ _ _
                refine wreg fun K hK => ?_
                simp [C.spec_SomosLaurents, fO, fO_snoc, show (at_ + 1) * 32 ≤ 140737488355328 by omega]
                refine hK _ ?_; clear hK K
                show AWp _ _ _ _ _
                refine wreg fun K hK => ?_
                simp [C.spec_SomosLaurents, fO, wrapOk (x := (at_ : Int) + 1) (by omega) (by omega)]
                refine hK _ ?_; clear hK K
                simp [C.spec_SomosLaurents, fO]
                refine cast (congrArg R1 ?_) (hR1 (at_ + 1, l ++ [V.1]) ⟨hjm, by rw [hnext, if_pos hyes3]⟩ (by dsimp only; omega))
                simp
            clear hK
            simp [C.spec_SomosLaurents, fO, hw0, hF0, fO_0 (show p0 < l.length by omega), fO_1 (show p0 < l.length by omega), show (p0 : Int) < at_ by omega, show p0 < at_ by omega]
            repeat' first
              | (refine wcall1 (hVc) ?_ (by simp) ?_; (focus (simp; done)); simp [C.spec_SomosLaurents, fO])
              | (refine cast (congrArg K ?_) hJ; simp [fO]; done)
              | refine And.intro ?_ ?_
      · have hjm : at_ = n := by have := d_f hc2; omega
        subst hjm
        refine wexit ?_
        show AWp _ _ _ _ _
        refine wseq ?_
        refine wreg fun K hK => ?_
        simp [C.spec_SomosLaurents, fO]
        refine hK _ ?_; clear hK K
        show AWp _ _ _ _ _
        refine wret ?_
        simp [C.spec_SomosLaurents, fO, hm, hl, hll]
  clear hK
  by_cases ha : 4 ≤ k ∧ k ≤ 7
  · refine opsI_seg fun L hL => ?_
    simp [C.spec_SomosLaurents, fO, ha]
    refine wcall1 (spec_l1In_calls k 4 7) (by simp) (by simp) ?_
    simp [C.spec_SomosLaurents, fO, ha]
    refine hL _ ?_; clear hL L
    refine opsI_seg fun L hL => ?_
    simp [C.spec_SomosLaurents, fO, ha]
    refine wcall1 (spec_l1In_calls n 0 11) (by simp) (by simp) ?_
    simp [C.spec_SomosLaurents, fO, ha]
    refine hL _ ?_; clear hL L
    refine opsI_end fun L hL => ?_
    simp [C.spec_SomosLaurents, fO, ha]
    refine hL _ ?_; clear hL L
    simp [C.spec_SomosLaurents, fO, ha]
    refine cast (congrArg K ?_) hJ
    simp [fO, ha]
  · refine opsI_seg fun L hL => ?_
    simp [C.spec_SomosLaurents, fO, ha]
    refine wcall1 (spec_l1In_calls k 4 7) (by simp) (by simp) ?_
    simp [C.spec_SomosLaurents, fO, ha]
    refine hL _ ?_; clear hL L
    refine opsI_seg fun L hL => ?_
    simp [C.spec_SomosLaurents, fO, ha]
    refine hL _ ?_; clear hL L
    refine opsI_end fun L hL => ?_
    simp [C.spec_SomosLaurents, fO, ha]
    refine hL _ ?_; clear hL L
    simp [C.spec_SomosLaurents, fO, ha]
    refine cast (congrArg K ?_) hJ
    simp [fO, ha]
theorem sSo_calls (k n : Int) : ACalls Try.prog F.spec_SomosLaurents [.int k, .int n] [] true (fun outs res => outs = [] ∧ res = [.one (.ow 2 (smF k n).1.length (rows fO (smF k n).1)), .one (D.bool (smF k n).2)]) := (spec_SomosLaurents_calls k n).weak1

theorem impl_SomosLaurents_calls (k n : Int) : ACalls Try.prog F.impl_SomosLaurents [.int k, .int n] [] true (fun outs res => outs = [] ∧ WkRs res [.one (.ow 2 (smF k n).1.length (rows fO (smF k n).1)), .one (D.bool (smF k n).2)]) := by
  refine ACalls.of_body (C := C.impl_SomosLaurents) (n := Try.f43.ntmps) tabT folT Try.func43 rfl (by kernel_rfl) rfl (Nat.le_of_ble_eq_true rfl) (by decide) (by kernel_rfl) (by kernel_rfl) rfl (by simp) (by simp) ?_
  simp only [Try.f43]
  refine wseq ?_
  refine wreg fun K hK => ?_
  simp [C.impl_SomosLaurents, fO]
  refine hK _ ?_; clear hK K
  show AWp _ _ _ _ _
  refine wseq ?_
  refine wseq ?_
  refine wregI ([0, 1] ++ ([2, 3, 4, 5] ++ ([6, 7]))) rfl fun K hK => ?_
  have hJ : K ⟨ofL [(0, .int k), (1, .int n), (23, .bool (!decide ((4 ≤ k ∧ k ≤ 7) ∧ 0 ≤ n ∧ n ≤ 11)))], ofRO []⟩ := by
    refine hK _ ?_; clear hK K
    show AWp _ _ _ _ _
    refine wcond _ rfl (fun hc1 => ?_) (fun hc1 => ?_)
    · have hr := nd_t hc1
      have hm : smF k n = ([], false) := if_neg hr
      refine wseq ?_
      refine wreg fun K hK => ?_
      simp [C.impl_SomosLaurents, fO]
      refine hK _ ?_; clear hK K
      show AWp _ _ _ _ _
      refine wret ?_
      simp [C.impl_SomosLaurents, fO, hm, rows]
    · have hr := nd_f hc1
      obtain ⟨k, rfl⟩ : ∃ m : Nat, k = (m : Int) := ⟨k.toNat, by omega⟩
      obtain ⟨n, rfl⟩ : ∃ m : Nat, n = (m : Int) := ⟨n.toNat, by omega⟩
      have hk7 : 4 ≤ k ∧ k ≤ 7 := by omega
      have hn11 : n ≤ 11 := by omega
      have hm : smF k n = (match smL k n with | some l => (l, true) | none => ([], false)) := by
        unfold smF
        rw [if_pos hr]
        rfl
      refine wskip ?_
      show AWp _ _ _ _ _
      refine wseq ?_
      refine wreg fun K hK => ?_
      simp [C.impl_SomosLaurents, fO]
      refine hK _ ?_; clear hK K
      show AWp _ _ _ _ _
      refine wseq ?_
      refine wseq ?_
      refine wreg fun K hK => ?_
      simp [C.impl_SomosLaurents, fO]
      refine hK _ ?_; clear hK K
      show AWp _ _ _ _ _
      refine wblock ?_
      refine wloopW (fun x : Nat × List Lau => ⟨ofL [(0, .int k), (1, .int n), (6, .al (6, 0) [] 0 x.1), (7, .int x.1)], ofRO [((6, 0), some (.ow 2 x.1 (rows fO x.2)))]⟩) (fun x => x.1 ≤ n ∧ smL k x.1 = some x.2) (fun x => n - x.1) (0, []) [.tmp 6 2] (by simp [C.impl_SomosLaurents, rows]; (first | (constructor <;> funext t) | funext t) <;> simp only [ofL, ofRO] <;> (repeat' (first | rfl | split)) <;> (first | (simp_all; done) | (simp_all <;> (first | omega | (intro e; exact absurd e.symm (by assumption)))))) ⟨by simp, rfl⟩ ?_
      intro x1 hx1 R1 hR1
      obtain ⟨at_, l⟩ := x1
      obtain ⟨hj, hl⟩ := hx1
      dsimp only at hj hl ⊢
      obtain ⟨hll, hls⟩ := smL_ok k at_ l hl
      refine wseq ?_
      refine wseq ?_
      refine wreg fun K hK => ?_
      simp [C.impl_SomosLaurents, fO]
      refine hK _ ?_; clear hK K
      show AWp _ _ _ _ _
      refine wcond _ rfl (fun hc2 => ?_) (fun hc2 => ?_)
      · have hjm : at_ < n := by have := d_t hc2; omega
        refine wskip ?_
        show AWp _ _ _ _ _
        refine wseq ?_
        refine wblock ?_
        refine wseq ?_
        refine wseq ?_
        refine wreg fun K hK => ?_
        simp [C.impl_SomosLaurents, fO]
        refine hK _ ?_; clear hK K
        show AWp _ _ _ _ _
        refine wcond _ rfl (fun hc3 => ?_) (fun hc3 => ?_)
        · have hak : at_ < k := by have := d_t hc3; omega
          have hnext : smL k (at_ + 1) = some (l ++ [monoF (unitL k at_)]) := by simp only [smL, hl, if_pos hak]
          refine wseq ?_
          refine wregI ([0, 1, 2, 3] ++ ([4] ++ ([5, 6, 7]))) rfl fun K hK => ?_
          refine opsI_seg fun L hL => ?_
          simp [C.impl_SomosLaurents, fO, fO_snoc, show (at_ + 1) * 32 ≤ 140737488355328 by omega]
          refine wcall1 (impl_unit_calls k at_ (by omega) hak) (by simp) (by simp) ?_
          simp [C.impl_SomosLaurents, fO, fO_snoc, show (at_ + 1) * 32 ≤ 140737488355328 by omega]
          refine hL _ ?_; clear hL L
          refine opsI_seg fun L hL => ?_
          simp [C.impl_SomosLaurents, fO, fO_snoc, show (at_ + 1) * 32 ≤ 140737488355328 by omega]
          refine wcall1 (iMono_calls (unitL k at_) (by rw [unitL_length]; omega)) (by simp) (by simp) ?_
          simp [C.impl_SomosLaurents, fO, fO_snoc, show (at_ + 1) * 32 ≤ 140737488355328 by omega]
          refine hL _ ?_; clear hL L
          refine opsI_end fun L hL => ?_
          simp [C.impl_SomosLaurents, fO, fO_snoc, show (at_ + 1) * 32 ≤ 140737488355328 by omega]
          refine hL _ ?_; clear hL L
          simp [C.impl_SomosLaurents, fO, fO_snoc, show (at_ + 1) * 32 ≤ 140737488355328 by omega]
          refine hK _ ?_; clear hK K
          show AWp _ _ _ _ _
          refine wexit ?_
          show AWp _ _ _ _ _
          refine wreg fun K hK => ?_
          simp [C.impl_SomosLaurents, fO, wrapOk (x := (at_ : Int) + 1) (by omega) (by omega)]
          refine hK _ ?_; clear hK K
          simp [C.impl_SomosLaurents, fO]
          refine cast (congrArg R1 ?_) (hR1 (at_ + 1, l ++ [monoF (unitL k at_)]) ⟨hjm, hnext⟩ (by dsimp only; omega))
          simp
        · have hak : k ≤ at_ := by have := d_f hc3; omega
          have hnext : smL k (at_ + 1) = (match smS k l (k / 2) with
              | some s => if (divF s (l.getD (at_ - k) zeroF)).2 = true then some (l ++ [(divF s (l.getD (at_ - k) zeroF)).1]) else none
              | none => none) := by
            simp only [smL, hl, if_neg (show ¬ at_ < k by omega)]
          refine wskip ?_
          show AWp _ _ _ _ _
          refine wseq ?_
          refine wregI ([0, 1] ++ ([2, 3])) rfl fun K hK => ?_
          refine opsI_seg fun L hL => ?_
          simp [C.impl_SomosLaurents, fO]
          refine wcall1 (iCon0_calls k (by omega)) (by simp) (by simp) ?_
          simp [C.impl_SomosLaurents, fO]
          refine hL _ ?_; clear hL L
          refine opsI_end fun L hL => ?_
          simp [C.impl_SomosLaurents, fO]
          refine hL _ ?_; clear hL L
          simp [C.impl_SomosLaurents, fO]
          refine hK _ ?_; clear hK K
          show AWp _ _ _ _ _
          refine wseq ?_
          refine wseq ?_
          refine wreg fun K hK => ?_
          simp [C.impl_SomosLaurents, fO]
          refine hK _ ?_; clear hK K
          show AWp _ _ _ _ _
          refine wblock ?_
          refine wloop (fun x : Nat × Lau => ⟨ofL [(0, .int k), (1, .int n), (6, .al (6, 0) [] 0 at_), (7, .int at_), (8, .pt (8, 0) [] 0), (9, .int x.1)], ofRO [((6, 0), some (.ow 2 at_ (rows fO l))), ((8, 0), some (.bx (fO x.2)))]⟩) (fun x => 1 ≤ x.1 ∧ 2 * (x.1 - 1) ≤ k ∧ smS k l (x.1 - 1) = some x.2) (fun x => k - x.1) (1, ⟨k, []⟩) (by simp [C.impl_SomosLaurents, fO, rows]) ⟨by simp, by simp, rfl⟩ ?_
          intro x2 hx2 R2 hR2
          obtain ⟨ii, s⟩ := x2
          obtain ⟨hi1, hi2, hs⟩ := hx2
          dsimp only at hi1 hi2 hs ⊢
          have hsS := smS_small hs
          refine wseq ?_
          refine wseq ?_
          refine wreg fun K hK => ?_
          simp [C.impl_SomosLaurents, fO, wrapOk (x := 2 * (ii : Int)) (by omega) (by omega)]
          refine hK _ ?_; clear hK K
          show AWp _ _ _ _ _
          refine wcond _ rfl (fun hc4 => ?_) (fun hc4 => ?_)
          · have hik : 2 * ii ≤ k := by have := d_t hc4; omega
            obtain ⟨p1, hp1⟩ : ∃ p1 : Nat, p1 + ii = at_ := ⟨at_ - ii, by omega⟩
            obtain ⟨p0, hp0⟩ : ∃ p0 : Nat, p0 + k = at_ := ⟨at_ - k, by omega⟩
            have hw1 : IntKind.i64.wrap ((at_ : Int) - ii) = (p1 : Int) := by rw [wrapOk (by omega) (by omega)]; omega
            have hw0 : IntKind.i64.wrap ((at_ : Int) - k) = (p0 : Int) := by rw [wrapOk (by omega) (by omega)]; omega
            have hw2 : IntKind.i64.wrap ((p0 : Int) + ii) = ((p0 + ii : Nat) : Int) := by rw [wrapOk (by omega) (by omega)]; omega
            obtain ⟨p2, hp2⟩ : ∃ p2 : Nat, p2 = p0 + ii := ⟨_, rfl⟩
            rw [← hp2] at hw2
            have hF1 := getD_get (l := l) (i := p1) (by omega)
            have hF2 := getD_get (l := l) (i := p2) (by omega)
            have hs1 := (small_getD hls p1).sm
            have hs2 := (small_getD hls p2).sm
            obtain ⟨m, hmi⟩ : ∃ m, m + 1 = ii := ⟨ii - 1, by omega⟩
            have hs' : smS k l m = some s := by rw [← hs, ← hmi]; rfl
            obtain ⟨X, hX⟩ : ∃ X, X = smX k l ii := ⟨_, rfl⟩
            have hXe : mulF (l.getD p1 zeroF) (l.getD p2 zeroF) = X := by
              rw [hX]
              unfold smX
              rw [hll, show at_ - ii = p1 by omega, show at_ - k + ii = p2 by omega]
            have hXc := mulOk (l.getD p1 zeroF) (l.getD p2 zeroF) hs1.1 hs1.2 hs2.1 hs2.2
            have hXs : SmallF X.1 := hXe ▸ mulF_small _ _
            rw [hXe] at hXc
            obtain ⟨Y, hY⟩ : ∃ Y, Y = addF s 1 X.1 := ⟨_, rfl⟩
            have hYc := iAdd_calls s 1 X.1 hsS.sm.1 hsS.sm.2 hXs.sm.1 hXs.sm.2
            rw [← hY] at hYc
            have hnS : smS k l ii = if X.2 = true ∧ Y.2 = true then some Y.1 else none := by
              rw [hX] at hY
              rw [hY, hX, ← hmi]
              simp only [smS, hs']
            clear hX hY hXe
            refine wskip ?_
            show AWp _ _ _ _ _
            refine wseq ?_
            refine wblock ?_
            refine wseq ?_
            refine wdraw (.take 0 (.take 1 (.take 2 (.take 3 (.take 4 (.take 5 (.take 6 (.take 7 (.take 8 (.take 9 (.take 10 (.take 11 (.take 12 (.take 13 (.all [(14, .take 15 (.take 16 (.take 17 (.all [(18, .all [(19, .take 20 (.done))])])))), (18, .all [(14, .take 15 (.take 16 (.take 17 (.all [(19, .take 20 (.done))]))))])]))))))))))))))) ⟨by kernel_rfl, by kernel_rfl⟩ fun K hK => ?_
            have hJ : K ⟨ofL [(0, .int k), (1, .int n), (6, .al (6, 0) [] 0 at_), (7, .int at_), (8, .pt (8, 0) [] 0), (9, .int ii), (10, .pt (10, 0) [] 0), (11, .bool X.2)], ofRO [((6, 0), some (.ow 2 at_ (rows fO l))), ((8, 0), some (.bx (fO s))), ((10, 0), some (.bx (fO X.1)))]⟩ := by
              refine hK _ ?_; clear hK K
              show AWp _ _ _ _ _
              refine wseq ?_
              refine wregI ([0, 1, 2] ++ ([3, 4, 5, 6, 7, 8])) rfl fun K hK => ?_
              refine opsI_seg fun L hL => ?_
              simp [C.impl_SomosLaurents, fO]
              refine wcall1 (hYc) (by simp) (by simp) ?_
              simp [C.impl_SomosLaurents, fO]
              refine hL _ ?_; clear hL L
              refine opsI_end fun L hL => ?_
              simp [C.impl_SomosLaurents, fO]
              refine hL _ ?_; clear hL L
              simp [C.impl_SomosLaurents, fO]
              refine hK _ ?_; clear hK K
              show AWp _ _ _ _ _
              refine wseq ?_
              refine wseq ?_
              refine wreg fun K hK => ?_
              have hJ : K ⟨ofL [(0, .int k), (1, .int n), (6, .al (6, 0) [] 0 at_), (7, .int at_), (8, .pt (8, 0) [] 0), (9, .int ii), (12, .pt (12, 0) [] 0), (76, .bool (!(X.2 && Y.2)))], ofRO [((6, 0), some (.ow 2 at_ (rows fO l))), ((8, 0), some (.bx (fO s))), ((12, 0), some (.bx (fO Y.1)))]⟩ := by
                refine hK _ ?_; clear hK K
                show AWp _ _ _ _ _
                refine wcond _ rfl (fun hc5 => ?_) (fun hc5 => ?_)
                · have hno : ¬ (X.2 = true ∧ Y.2 = true) := by
                    rintro ⟨q1, q2⟩
                    rw [q1, q2] at hc5
                    simp at hc5
                  have hnone : smL k n = none := smL_none (n := at_ + 1) (by rw [hnext, smS_none (n := ii) (by rw [hnS, if_neg hno]) (by omega)]) (by omega)
                  refine wseq ?_
                  refine wreg fun K hK => ?_
                  simp [C.impl_SomosLaurents, fO]
                  refine hK _ ?_; clear hK K
                  show AWp _ _ _ _ _
                  refine wret ?_
                  simp [C.impl_SomosLaurents, fO, hm, hnone, rows]
                · have hyes : X.2 = true ∧ Y.2 = true := by simpa using hc5
                  refine wskip ?_
                  show AWp _ _ _ _ _
                  refine wreg fun K hK => ?_
                  simp [C.impl_SomosLaurents, fO]
                  refine hK _ ?_; clear hK K
                  show AWp _ _ _ _ _
                  refine wreg fun K hK => ?_
                  simp [C.impl_SomosLaurents, fO, wrapOk (x := (ii : Int) + 1) (by omega) (by omega)]
                  refine hK _ ?_; clear hK K
                  simp [C.impl_SomosLaurents, fO]
                  refine cast (congrArg R2 ?_) (hR2 (ii + 1, Y.1) ⟨by dsimp only; omega, by dsimp only; omega, by dsimp only; rw [Nat.add_sub_cancel, hnS, if_pos hyes]⟩ (by dsimp only; omega))
                  simp [fO]
              clear hK
              by_cases h1 : X.2 = true
              · simp [C.impl_SomosLaurents, fO, h1]
                refine cast (congrArg K ?_) hJ
                simp [fO, h1]
              · simp [C.impl_SomosLaurents, fO, h1]
                refine cast (congrArg K ?_) hJ
                simp [fO, h1]
            clear hK
            simp [C.impl_SomosLaurents, fO, hw1, hw0, hw2, hF1, hF2, fO_0 (show p1 < l.length by omega), fO_1 (show p1 < l.length by omega), fO_0 (show p2 < l.length by omega), fO_1 (show p2 < l.length by omega), show (p1 : Int) < at_ by omega, show (p2 : Int) < at_ by omega, show p1 < at_ by omega, show p2 < at_ by omega]
            repeat' first
              | (refine wcall1 (hXc) ?_ (by simp) ?_; (focus (simp; done)); simp [C.impl_SomosLaurents, fO])
              | (refine cast (congrArg K ?_) hJ; simp [fO]; done)
              | refine And.intro ?_ ?_
          · have hik : k < 2 * ii := by have := d_f hc4; omega
            have hk2 : ii - 1 = k / 2 := by omega
            rw [← hk2, hs] at hnext
            dsimp only at hnext
            obtain ⟨p0, hp0⟩ : ∃ p0 : Nat, p0 + k = at_ := ⟨at_ - k, by omega⟩
            have hw0 : IntKind.i64.wrap ((at_ : Int) - k) = (p0 : Int) := by rw [wrapOk (by omega) (by omega)]; omega
            have hF0 := getD_get (l := l) (i := p0) (by omega)
            have hs0 := (small_getD hls p0).sm
            obtain ⟨V, hV⟩ : ∃ V, V = divF s (l.getD p0 zeroF) := ⟨_, rfl⟩
            have hVc := iDiv_calls doneOk s (l.getD p0 zeroF) hsS.sm.1 hsS.sm.2 hs0.1 hs0.2
            rw [show at_ - k = p0 by omega, ← hV] at hnext
            rw [← hV] at hVc
            clear hV
            refine wexit ?_
            show AWp _ _ _ _ _
            refine wseq ?_
            refine wdraw (.take 0 (.take 1 (.take 2 (.take 3 (.take 4 (.take 5 (.take 6 (.all [(7, .take 8 (.take 9 (.take 10 (.all [(11, .all [(12, .take 13 (.done))])])))), (11, .all [(7, .take 8 (.take 9 (.take 10 (.all [(12, .take 13 (.done))]))))])])))))))) ⟨by kernel_rfl, by kernel_rfl⟩ fun K hK => ?_
            have hJ : K ⟨ofL [(0, .int k), (1, .int n), (6, .al (6, 0) [] 0 at_), (7, .int at_), (14, .pt (14, 0) [] 0), (15, .bool V.2)], ofRO [((6, 0), some (.ow 2 at_ (rows fO l))), ((14, 0), some (.bx (fO V.1)))]⟩ := by
              refine hK _ ?_; clear hK K
              show AWp _ _ _ _ _
              refine wseq ?_
              refine wseq ?_
              refine wreg fun K hK => ?_
              simp [C.impl_SomosLaurents, fO]
              refine hK _ ?_; clear hK K
              show AWp _ _ _ _ _
              refine wcond _ rfl (fun hc6 => ?_) (fun hc6 => ?_)
              · have hno : ¬ (V.2 = true) := by
                  intro q
                  rw [q] at hc6
                  simp at hc6
                have hnone : smL k n = none := smL_none (n := at_ + 1) (by rw [hnext, if_neg hno]) (by omega)
                refine wseq ?_
                refine wreg fun K hK => ?_
                simp [C.impl_SomosLaurents, fO]
                refine hK _ ?_; clear hK K
                show AWp _ _ _ _ _
                refine wret ?_
                simp [C.impl_SomosLaurents, fO, hm, hnone, rows]
              · have hyes3 : V.2 = true := by simpa using hc6
                refine wskip ?_
                show AWp _ _ _ _ _
                refine wreg fun K hK => ?_
                simp [C.impl_SomosLaurents, fO, fO_snoc, show (at_ + 1) * 32 ≤ 140737488355328 by omega]
                refine hK _ ?_; clear hK K
                show AWp _ _ _ _ _
                refine wreg fun K hK => ?_
                simp [C.impl_SomosLaurents, fO, wrapOk (x := (at_ : Int) + 1) (by omega) (by omega)]
                refine hK _ ?_; clear hK K
                simp [C.impl_SomosLaurents, fO]
                refine cast (congrArg R1 ?_) (hR1 (at_ + 1, l ++ [V.1]) ⟨hjm, by rw [hnext, if_pos hyes3]⟩ (by dsimp only; omega))
                simp
            clear hK
            simp [C.impl_SomosLaurents, fO, hw0, hF0, fO_0 (show p0 < l.length by omega), fO_1 (show p0 < l.length by omega), show (p0 : Int) < at_ by omega, show p0 < at_ by omega]
            repeat' first
              | (refine wcall1 (hVc) ?_ (by simp) ?_; (focus (simp; done)); simp [C.impl_SomosLaurents, fO])
              | (refine cast (congrArg K ?_) hJ; simp [fO]; done)
              | refine And.intro ?_ ?_
      · have hjm : at_ = n := by have := d_f hc2; omega
        subst hjm
        refine wexit ?_
        show AWp _ _ _ _ _
        refine wseq ?_
        refine wreg fun K hK => ?_
        simp [C.impl_SomosLaurents, fO]
        refine hK _ ?_; clear hK K
        show AWp _ _ _ _ _
        refine wret ?_
        simp [C.impl_SomosLaurents, fO, hm, hl, hll]
  clear hK
  by_cases ha : 4 ≤ k ∧ k ≤ 7
  · refine opsI_seg fun L hL => ?_
    simp [C.impl_SomosLaurents, fO, ha]
    refine wcall1 (impl_within_calls k 4 7) (by simp) (by simp) ?_
    simp [C.impl_SomosLaurents, fO, ha]
    refine hL _ ?_; clear hL L
    refine opsI_seg fun L hL => ?_
    simp [C.impl_SomosLaurents, fO, ha]
    refine wcall1 (impl_within_calls n 0 11) (by simp) (by simp) ?_
    simp [C.impl_SomosLaurents, fO, ha]
    refine hL _ ?_; clear hL L
    refine opsI_end fun L hL => ?_
    simp [C.impl_SomosLaurents, fO, ha]
    refine hL _ ?_; clear hL L
    simp [C.impl_SomosLaurents, fO, ha]
    refine cast (congrArg K ?_) hJ
    simp [fO, ha]
  · refine opsI_seg fun L hL => ?_
    simp [C.impl_SomosLaurents, fO, ha]
    refine wcall1 (impl_within_calls k 4 7) (by simp) (by simp) ?_
    simp [C.impl_SomosLaurents, fO, ha]
    refine hL _ ?_; clear hL L
    refine opsI_seg fun L hL => ?_
    simp [C.impl_SomosLaurents, fO, ha]
    refine hL _ ?_; clear hL L
    refine opsI_end fun L hL => ?_
    simp [C.impl_SomosLaurents, fO, ha]
    refine hL _ ?_; clear hL L
    simp [C.impl_SomosLaurents, fO, ha]
    refine cast (congrArg K ?_) hJ
    simp [fO, ha]
theorem iSo_calls (k n : Int) : ACalls Try.prog F.impl_SomosLaurents [.int k, .int n] [] true (fun outs res => outs = [] ∧ res = [.one (.ow 2 (smF k n).1.length (rows fO (smF k n).1)), .one (D.bool (smF k n).2)]) := (impl_SomosLaurents_calls k n).weak1

end Go.Proofs.Ytocknokodgnlbaa.Ab
namespace Go.Proofs.Ytocknokodgnlbaa.Ab
open Go
set_option linter.unusedSimpArgs false
set_option linter.unusedVariables false
set_option maxRecDepth 10000
set_option maxHeartbeats 2000000
theorem laws_FnExactSomosLaurents_calls (k n : Int) : ACalls Try.prog F.laws_FnExactSomosLaurents [.int k, .int n] [] true (fun outs res => outs = [] ∧ res = [.one (D.bool true)]) := by
  have hgs := smF_small k n
  have hw := sSo_calls k n
  have hg := iSo_calls k n
  generalize smF k n = g at hgs hw hg
  obtain ⟨g, b⟩ := g
  obtain ⟨hg1, hg2⟩ := hgs
  dsimp only at hg1 hg2 hw hg
  have hg3 := listF_cnt hg2
  have hg4 : g.length * 5401 ≤ 1000000 := by omega
  have hg5 : ∀ f ∈ g, SmF f := fun f hf => (hg2 f hf).sm
  refine ACalls.of_body (C := C.laws_FnExactSomosLaurents) (n := Try.f8.ntmps) tabT folT Try.func8 rfl (by kernel_rfl) rfl (Nat.le_of_ble_eq_true rfl) (by decide) (by kernel_rfl) (by kernel_rfl) rfl (by simp) (by simp) ?_
  simp only [Try.f8]
  refine wseq ?_
  refine wreg fun K hK => ?_
  simp [C.laws_FnExactSomosLaurents]
  refine hK _ ?_; clear hK K
  show AWp _ _ _ _ _
  refine wseq ?_
  refine wregI ([0, 1, 2] ++ ([3, 4, 5, 6, 7])) rfl fun K hK => ?_
  refine opsI_seg fun L hL => ?_
  simp [C.laws_FnExactSomosLaurents]
  refine wcall1 (hw) (by simp) (by simp) ?_
  simp [C.laws_FnExactSomosLaurents]
  refine hL _ ?_; clear hL L
  refine opsI_end fun L hL => ?_
  simp [C.laws_FnExactSomosLaurents]
  refine hL _ ?_; clear hL L
  simp [C.laws_FnExactSomosLaurents]
  refine hK _ ?_; clear hK K
  show AWp _ _ _ _ _
  refine wseq ?_
  refine wregI ([0, 1, 2] ++ ([3, 4, 5, 6, 7])) rfl fun K hK => ?_
  refine opsI_seg fun L hL => ?_
  simp [C.laws_FnExactSomosLaurents]
  refine wcall1 (hg) (by simp) (by simp) ?_
  simp [C.laws_FnExactSomosLaurents]
  refine hL _ ?_; clear hL L
  refine opsI_end fun L hL => ?_
  simp [C.laws_FnExactSomosLaurents]
  refine hL _ ?_; clear hL L
  simp [C.laws_FnExactSomosLaurents]
  refine hK _ ?_; clear hK K
  show AWp _ _ _ _ _
  refine wseq ?_
  refine wseq ?_
  refine wregI ([0, 1, 2] ++ ([3, 4, 5, 6, 7, 8])) rfl fun K hK => ?_
  refine opsI_seg fun L hL => ?_
  simp [C.laws_FnExactSomosLaurents]
  refine wcall1 (laws_eqLaurentS_calls g g (by omega) hg5) (by simp) (by simp) ?_
  simp [C.laws_FnExactSomosLaurents]
  refine hL _ ?_; clear hL L
  refine opsI_end fun L hL => ?_
  simp [C.laws_FnExactSomosLaurents]
  refine hL _ ?_; clear hL L
  simp [C.laws_FnExactSomosLaurents]
  refine hK _ ?_; clear hK K
  show AWp _ _ _ _ _
  refine wcond _ rfl (fun hc1 => ?_) (fun hc1 => ?_)
  · simp at hc1
  · refine wskip ?_
    show AWp _ _ _ _ _
    refine wseq ?_
    refine wreg fun K hK => ?_
    simp [C.laws_FnExactSomosLaurents]
    refine hK _ ?_; clear hK K
    show AWp _ _ _ _ _
    refine wseq ?_
    refine wregI ([0, 1, 2] ++ ([3])) rfl fun K hK => ?_
    refine opsI_seg fun L hL => ?_
    simp [C.laws_FnExactSomosLaurents]
    refine wcall1 (laws_markLaurentS_calls g 1 (by omega) (by omega) (by omega) hg5) (by simp) (by simp) ?_
    simp [C.laws_FnExactSomosLaurents]
    refine hL _ ?_; clear hL L
    refine opsI_end fun L hL => ?_
    simp [C.laws_FnExactSomosLaurents]
    refine hL _ ?_; clear hL L
    simp [C.laws_FnExactSomosLaurents]
    refine hK _ ?_; clear hK K
    show AWp _ _ _ _ _
    refine wseq ?_
    refine wreg fun K hK => ?_
    simp [C.laws_FnExactSomosLaurents]
    refine hK _ ?_; clear hK K
    show AWp _ _ _ _ _
    refine wseq ?_
    refine wregI ([0, 1, 2] ++ ([3])) rfl fun K hK => ?_
    refine opsI_seg fun L hL => ?_
    simp [C.laws_FnExactSomosLaurents]
    refine wcall1 (laws_heldLaurentS_calls g 1 (by omega) (by omega) (by omega) hg5) (by simp) (by simp) ?_
    simp [C.laws_FnExactSomosLaurents]
    refine hL _ ?_; clear hL L
    refine opsI_end fun L hL => ?_
    simp [C.laws_FnExactSomosLaurents]
    refine hL _ ?_; clear hL L
    simp [C.laws_FnExactSomosLaurents]
    refine hK _ ?_; clear hK K
    show AWp _ _ _ _ _
    refine wseq ?_
    refine wseq ?_
    refine wreg fun K hK => ?_
    simp [C.laws_FnExactSomosLaurents]
    refine hK _ ?_; clear hK K
    show AWp _ _ _ _ _
    refine wcond _ rfl (fun hc2 => ?_) (fun hc2 => ?_)
    · have := d_t hc2; omega
    · refine wskip ?_
      show AWp _ _ _ _ _
      refine wseq ?_
      refine wseq ?_
      refine wreg fun K hK => ?_
      simp [C.laws_FnExactSomosLaurents]
      refine hK _ ?_; clear hK K
      show AWp _ _ _ _ _
      refine wcond _ rfl (fun hc3 => ?_) (fun hc3 => ?_)
      · simp at hc3
      · refine wskip ?_
        show AWp _ _ _ _ _
        refine wseq ?_
        refine wregI ([0, 1, 2] ++ ([3, 4, 5, 6, 7])) rfl fun K hK => ?_
        refine opsI_seg fun L hL => ?_
        simp [C.laws_FnExactSomosLaurents]
        refine wcall1 (hg) (by simp) (by simp) ?_
        simp [C.laws_FnExactSomosLaurents]
        refine hL _ ?_; clear hL L
        refine opsI_end fun L hL => ?_
        simp [C.laws_FnExactSomosLaurents]
        refine hL _ ?_; clear hL L
        simp [C.laws_FnExactSomosLaurents]
        refine hK _ ?_; clear hK K
        show AWp _ _ _ _ _
        refine wseq ?_
        refine wseq ?_
        refine wregI ([0, 1, 2] ++ ([3, 4, 5, 6, 7, 8])) rfl fun K hK => ?_
        refine opsI_seg fun L hL => ?_
        simp [C.laws_FnExactSomosLaurents]
        refine wcall1 (laws_eqLaurentS_calls g g (by omega) hg5) (by simp) (by simp) ?_
        simp [C.laws_FnExactSomosLaurents]
        refine hL _ ?_; clear hL L
        refine opsI_end fun L hL => ?_
        simp [C.laws_FnExactSomosLaurents]
        refine hL _ ?_; clear hL L
        simp [C.laws_FnExactSomosLaurents]
        refine hK _ ?_; clear hK K
        show AWp _ _ _ _ _
        refine wcond _ rfl (fun hc4 => ?_) (fun hc4 => ?_)
        · simp at hc4
        · refine wskip ?_
          show AWp _ _ _ _ _
          refine wseq ?_
          refine wreg fun K hK => ?_
          simp [C.laws_FnExactSomosLaurents]
          refine hK _ ?_; clear hK K
          show AWp _ _ _ _ _
          refine wseq ?_
          refine wregI ([0, 1, 2] ++ ([3])) rfl fun K hK => ?_
          refine opsI_seg fun L hL => ?_
          simp [C.laws_FnExactSomosLaurents]
          refine wcall1 (laws_heldLaurentS_calls g 1 (by omega) (by omega) (by omega) hg5) (by simp) (by simp) ?_
          simp [C.laws_FnExactSomosLaurents]
          refine hL _ ?_; clear hL L
          refine opsI_end fun L hL => ?_
          simp [C.laws_FnExactSomosLaurents]
          refine hL _ ?_; clear hL L
          simp [C.laws_FnExactSomosLaurents]
          refine hK _ ?_; clear hK K
          show AWp _ _ _ _ _
          refine wseq ?_
          refine wseq ?_
          refine wreg fun K hK => ?_
          simp [C.laws_FnExactSomosLaurents]
          refine hK _ ?_; clear hK K
          show AWp _ _ _ _ _
          refine wcond _ rfl (fun hc5 => ?_) (fun hc5 => ?_)
          · have := d_t hc5; omega
          · refine wskip ?_
            show AWp _ _ _ _ _
            refine wseq ?_
            refine wseq ?_
            refine wreg fun K hK => ?_
            simp [C.laws_FnExactSomosLaurents]
            refine hK _ ?_; clear hK K
            show AWp _ _ _ _ _
            refine wcond _ rfl (fun hc6 => ?_) (fun hc6 => ?_)
            · simp at hc6
            · refine wskip ?_
              show AWp _ _ _ _ _
              refine wseq ?_
              refine wreg fun K hK => ?_
              simp [C.laws_FnExactSomosLaurents]
              refine hK _ ?_; clear hK K
              show AWp _ _ _ _ _
              refine wret ?_
              simp [C.laws_FnExactSomosLaurents]

end Go.Proofs.Ytocknokodgnlbaa.Ab
