/-
  What functions of chapter 13 compute, outright 11: the law 'WashNamed'.
-/
import Derived.Test.YtgogknjedpmcgaaWashD10
set_option linter.unusedVariables false
set_option linter.unusedSimpArgs false
set_option maxRecDepth 10000
set_option maxHeartbeats 2000000
namespace Go.Am.Wash
open Go.Am.G

theorem view_ptr {m : LMem} {i o L : Nat} {cs : List LV} {ow : Bool} (h : m[i]? = some ⟨cs, ow⟩) (hl : cs.length = L) (hp : LV.pures cs = true) : ∀ k, view (k + 3) m (.ptr i o L) = some (.elt cs o, [i]) := fun k => by
  simp only [view, h, viewL_pures _ _ _ hp]
  simp [nbeq, hl]
theorem views3 (k : Nat) (m : LMem) (a b c a' b' c' : LV) (i j l : List Nat) (ha : ∀ k, view (k + 3) m a = some (a', i)) (hb : ∀ k, view (k + 3) m b = some (b', j)) (hc : ∀ k, view (k + 3) m c = some (c', l)) (hn : LV.pures [a, b, c] = false) : viewL (k + 10) m [a, b, c] = some ([a', b', c'], i ++ (j ++ l)) := by
  rw [viewL.eq_def]
  simp only [hn, cond_false]
  rw [viewC.eq_def]
  simp only [ha]
  rw [viewC.eq_def]
  simp only [hb]
  rw [viewC.eq_def]
  simp only [hc]
  rw [viewC.eq_def]
  simp
theorem permsC_mem2 (n : Nat) (f : List Nat → List (List Nat)) (b : List Nat) (k : Nat) : ∀ (x : Nat) (q : List Nat), q ∈ permsC n f b k x → ∃ y, y ∉ b ∧ q ∈ f (b ++ [y]) := by
  induction k with
  | zero => intro x q h; simp [permsC] at h
  | succ k ih =>
    intro x q h
    rw [permsC, List.mem_append] at h
    rcases h with h | h
    · cases c : hasN b x
      · rw [c] at h
        exact ⟨x, (fun e => by rw [(hasN_iff b x).2 e] at c; cases c), h⟩
      · rw [c] at h; simp at h
    · exact ih _ _ h
theorem perms_nodup (n : Nat) (d : Nat) : ∀ b : List Nat, b.Nodup → ∀ q ∈ perms n d b, q.Nodup := by
  induction d with
  | zero => intro b hb q h; rw [perms, List.mem_singleton] at h; rw [h]; exact hb
  | succ d ih =>
    intro b hb q h
    obtain ⟨y, hy, h⟩ := permsC_mem2 _ _ _ _ _ _ h
    refine ih (b ++ [y]) ?_ q h
    rw [List.nodup_append]
    refine ⟨hb, by simp, ?_⟩
    intro u hu v hv
    simp at hv; subst hv
    intro e; subst e; exact hy hu
theorem permsC_in (n : Nat) (f : List Nat → List (List Nat)) (b : List Nat) (q : List Nat) (y : Nat) (hy : y ∉ b) (hq : q ∈ f (b ++ [y])) (k : Nat) : ∀ x, x ≤ y → y < x + k → q ∈ permsC n f b k x := by
  induction k with
  | zero => intro x h1 h2; omega
  | succ k ih =>
    intro x h1 h2
    rw [permsC, List.mem_append]
    by_cases e : x = y
    · subst e
      left
      cases c : hasN b x
      · exact hq
      · exact absurd ((hasN_iff b x).1 c) hy
    · exact .inr (ih _ (by omega) (by omega))
theorem perms_in (n : Nat) (d : Nat) : ∀ (b r : List Nat), r.length = d → (b ++ r).Nodup → (∀ x ∈ b ++ r, x < n) → b ++ r ∈ perms n d b := by
  induction d with
  | zero => intro b r hr _ _; rw [List.length_eq_zero_iff.1 hr, perms]; simp
  | succ d ih =>
    intro b r hr hn hx
    cases r with
    | nil => simp at hr
    | cons y r =>
      have hy : y ∉ b := fun c => (List.nodup_append.1 hn).2.2 y c y (by simp) rfl
      have := ih (b ++ [y]) r (by simpa using hr) (by simpa using hn) (by simpa using hx)
      rw [perms]
      refine permsC_in n _ b _ y hy (by simpa using this) n 0 (Nat.zero_le _) ?_
      have := hx y (by simp)
      omega
theorem perms_td {t : List Nat} (D : Td t) {l : List Nat} (h : l ∈ perms t.length t.length []) : Td l ∧ l.length = t.length := by
  have h1 := perms_all t.length t.length [] (by simp) l h
  have h2 := perms_nodup t.length t.length [] List.nodup_nil l h
  have hl : l.length = t.length := by simpa using h1.1
  exact ⟨⟨⟨rfl, h2, fun x hx => by rw [hl]; exact h1.2 x hx⟩, by rw [hl]; exact D.h1, by rw [hl]; exact D.h7⟩, hl⟩
theorem emp_filter (p : List Nat → Bool) : ∀ L : List (List Nat), emp (L.filter p) = !(L.any p)
  | [] => rfl
  | x :: r => by
    rw [List.filter_cons, List.any_cons]
    cases p x
    · simp only [Bool.false_eq_true, if_false, Bool.false_or]; exact emp_filter p r
    · simp [emp]

/-! ### What goes through all tides -/
abbrev NF1 : LV := .func n_law13_WashNamed_1 [] [.ptr 4 0 1, .ptr 3 0 1]
abbrev NTC : List LV := [.ptr 7 0 1, .ptr 6 0 1, .ptr 5 0 1]
abbrev NTB (n : Nat) : LMem := [⟨[.int .i64 (n : Int)], true⟩, ⟨[.func n_law13_WashNamed_2 [] NTC], true⟩, ⟨[.func n_law13_tides_1 [] [.ptr 8 0 1, .ptr 9 0 1, .ptr 10 0 1]], true⟩]
abbrev NTH (w8 w7 v7 : List LV) (a b : List Nat) (c : Bool) (Y : LMem) : LMem := ⟨w8, true⟩ :: ⟨w7, true⟩ :: ⟨v7, true⟩ :: ⟨[IL false false 1 (ci a)], true⟩ :: ⟨[.int .i64 (a.length : Int)], true⟩ :: ⟨[IL false false 1 (ci b)], true⟩ :: ⟨[NF1], true⟩ :: ⟨[.bool c], true⟩ :: Y
theorem NT_trim (w8 w7 v7 : List LV) (a b : List Nat) (c : Bool) (Y : LMem) (k : Nat) (vs : List LV) (hk : 8 ≤ k) : trim k vs (NTH w8 w7 v7 a b c Y) = NTH w8 w7 v7 a b c Y ∨ trim k vs (NTH w8 w7 v7 a b c Y) = NTH w8 w7 v7 a b c (Y.take (k - 8)) := by
  unfold Go.Am.trim
  cases (LV.unders k vs && belowM k ((NTH w8 w7 v7 a b c Y).take k))
  · exact .inl rfl
  · right
    rw [cond_true]
    obtain ⟨j, rfl⟩ : ∃ j, k = j + 8 := ⟨k - 8, by omega⟩
    simp
def NI (w8 w7 v7 : List LV) (a b : List Nat) (n : Nat) (s : Bool) (m : LMem) : Prop := ∃ Y, m = NTH w8 w7 v7 a b s (NTB n ++ Y)
def nvis (a b : List Nat) (s : Bool) (l : List Nat) : Bool := s || decide (namN a l = b)
theorem nvis_fold (a b : List Nat) : ∀ (L : List (List Nat)) (s : Bool), L.foldl (nvis a b) s = (s || L.any fun l => decide (namN a l = b))
  | [], s => by simp
  | x :: r, s => by
    rw [List.foldl_cons, nvis_fold a b r, nvis, List.any_cons, Bool.or_assoc]
theorem NI_vis (w8 w7 v7 : List LV) {a b : List Nat} (A : Td a) (hb7 : b.length = a.length) (s : Bool) (m : LMem) (l : List Nat) (β : Nat) (hI : NI w8 w7 v7 a b a.length s m) (hT : Tide a.length l) (hb : 11 ≤ β) (hm : m[β]? = some ⟨ints (ci l), true⟩) :
    ∃ m', clF LP n_law13_WashNamed_2 ([] ++ ([.sl β 0 a.length a.length 1 1 a.length] ++ NTC)) m = some (.W, .tup [], m') ∧ NI w8 w7 v7 a b a.length (nvis a b s l) m' ∧ m.length ≤ m'.length ∧ ∀ i, 11 ≤ i → i < m.length → m'[i]? = m[i]? := by
  have h7 := A.h7
  have h1 := A.h1
  obtain ⟨Y, rfl⟩ := hI
  have hll := hT.1
  have L : Td l := ⟨⟨rfl, hT.2.1, by rw [hll]; exact hT.2.2⟩, by omega, by omega⟩
  have W := two_td A L hll.symm
  have hv := view_tide hT.1 hm
  have v1 := view_ptr (m := NTH w8 w7 v7 a b s (NTB a.length ++ Y)) (i := 4) (o := 0) (L := 1) rfl rfl (by simp [LV.pures, LV.pure])
  have v2 := view_ptr (m := NTH w8 w7 v7 a b s (NTB a.length ++ Y)) (i := 3) (o := 0) (L := 1) rfl rfl (by simp [LV.pures, LV.pure])
  have vs := views3 30 _ _ _ _ _ _ _ _ _ _ hv v1 v2 (by simp [LV.pures, LV.pure])
  have hun := under_m false false W vs
  have hsm := fun m => same_c false true false false 1 1 (namN a l) b (by rw [namN_len]; omega) (by omega) m
  have keep : ∀ (m m' : LMem), m'.length = m.length → trim m.length [.tup []] m' = m' := fun m m' h => trim_le _ _ _ (by omega)
  have hst7 : ∀ y : Nat, ¬ (y + 1 + 1 + 1 + 1 + 1 + 1 + 1 + 1 + 1 + 1 + 1 ≤ 7) := by intros; omega
  have hst6 : ∀ y : Nat, ¬ (y + 1 + 1 + 1 + 1 + 1 + 1 + 1 + 1 + 1 + 1 + 1 ≤ 6) := by intros; omega
  have hst5 : ∀ y : Nat, ¬ (y + 1 + 1 + 1 + 1 + 1 + 1 + 1 + 1 + 1 + 1 + 1 ≤ 5) := by intros; omega
  generalize hX : IL false true 1 (ci (namN a l)) = X at *
  refine ⟨NTH w8 w7 v7 a b (nvis a b s l) (NTB a.length ++ Y), ?_, ⟨Y, rfl⟩, by simp, fun i h1 h2 => ?_⟩
  · have k := keep (NTH w8 w7 v7 a b s (NTB a.length ++ Y)) (NTH w8 w7 v7 a b (nvis a b s l) (NTB a.length ++ Y)) (by simp)
    conv => rhs; rw [← k]
    refine call_W lp_law13_WashNamed_2 rfl ?_
    unfold nvis
    generalize decide (namN a l = b) = dd at *
    simp only [List.cons_append, List.nil_append, NTH, NTB, NTC, NF1] at hun ⊢
    cases s
    · simp only [law13_WashNamed_2, law13_WashNamed_2.B, beqT, beqF, exF_seq, exF_region, exF_block, exF_cond, exF_ret, exF_exit, exF_skip, runL, wantL, stepL, evL, LEnv.at, putL, loadFine, loadL, cellsAt, Trk.putNew, Trk.up, Trk.touch, Trk.gives, Trk.calm, Trk.hit, opdsOf, Trk.fresh, LEnv.keep, LEnv.ofFrom, List.map_cons, List.map_nil, nbeq, nble, nblt, ofAV, ofAVs, lenL, bin_add, bin_sub, bin_mul, bin_eql, bin_neq, bin_lss, bin_leq, bin_gtr, bin_geq, natL_nat, natL_zero, natL_one, natL_two, Nat.zero_mul, List.any_cons, List.any_nil, Bool.or_false, Bool.false_or, Bool.true_or, Bool.or_true, Bool.and_true, Bool.true_and, Bool.and_false, Bool.false_and, Bool.not_true, Bool.not_false, Nat.reduceBEq, Nat.reduceEqDiff, decide_true, decide_false, cond_true, cond_false, List.filter_nil, List.filter_cons, Nat.reduceAdd, Nat.reduceLeDiff, reduceCtorEq, List.length_nil, List.length_cons, Nat.mul_one, if_true, if_false, Bool.false_eq_true, eq_self, and_true, true_and, retL, resultsL, resAllL, resOfL, List.append_nil, List.nil_append, List.cons_append, true_or, or_true, false_or, or_false, false_and, and_false, not_true_eq_false, not_false_eq_true, ne_eq, unL, trim_nil, views_pures, LV.pures, LV.pure, freeze, Nat.reduceDiv, Int.reduceEq, Int.reduceLT, Int.reduceLE, Int.natCast_zero, LV.cells, allocL, List.getElem?_cons_zero, List.getElem?_cons_succ, storeL, spliceL, List.take_zero, List.take_succ_cons, List.drop_zero, List.drop_succ_cons, List.drop_nil, List.take_nil, Nat.le_refl, Nat.reduceMul, List.set_cons_zero, List.set_cons_succ, LV.scalar, List.all_cons, List.all_nil, Nat.lt_add_one, Nat.zero_lt_one, Nat.reduceLT, Nat.lt_irrefl, fillL, List.length_append, foldIntL, kind_beq, pures_int, solids_int, plains_int, unders_int, scalars_int, hun, hst7, hst6, hst5, hsm]
    · simp only [law13_WashNamed_2, law13_WashNamed_2.B, beqT, beqF, exF_seq, exF_region, exF_block, exF_cond, exF_ret, exF_exit, exF_skip, runL, wantL, stepL, evL, LEnv.at, putL, loadFine, loadL, cellsAt, Trk.putNew, Trk.up, Trk.touch, Trk.gives, Trk.calm, Trk.hit, opdsOf, Trk.fresh, LEnv.keep, LEnv.ofFrom, List.map_cons, List.map_nil, nbeq, nble, nblt, ofAV, ofAVs, lenL, bin_add, bin_sub, bin_mul, bin_eql, bin_neq, bin_lss, bin_leq, bin_gtr, bin_geq, natL_nat, natL_zero, natL_one, natL_two, Nat.zero_mul, List.any_cons, List.any_nil, Bool.or_false, Bool.false_or, Bool.true_or, Bool.or_true, Bool.and_true, Bool.true_and, Bool.and_false, Bool.false_and, Bool.not_true, Bool.not_false, Nat.reduceBEq, Nat.reduceEqDiff, decide_true, decide_false, cond_true, cond_false, List.filter_nil, List.filter_cons, Nat.reduceAdd, Nat.reduceLeDiff, reduceCtorEq, List.length_nil, List.length_cons, Nat.mul_one, if_true, if_false, Bool.false_eq_true, eq_self, and_true, true_and, retL, resultsL, resAllL, resOfL, List.append_nil, List.nil_append, List.cons_append, true_or, or_true, false_or, or_false, false_and, and_false, not_true_eq_false, not_false_eq_true, ne_eq, unL, trim_nil, views_pures, LV.pures, LV.pure, freeze, Nat.reduceDiv, Int.reduceEq, Int.reduceLT, Int.reduceLE, Int.natCast_zero, LV.cells, allocL, List.getElem?_cons_zero, List.getElem?_cons_succ, storeL, spliceL, List.take_zero, List.take_succ_cons, List.drop_zero, List.drop_succ_cons, List.drop_nil, List.take_nil, Nat.le_refl, Nat.reduceMul, List.set_cons_zero, List.set_cons_succ, LV.scalar, List.all_cons, List.all_nil, Nat.lt_add_one, Nat.zero_lt_one, Nat.reduceLT, Nat.lt_irrefl, fillL, List.length_append, foldIntL, kind_beq, pures_int, solids_int, plains_int, unders_int, scalars_int, hst7, hst6, hst5]
  · obtain ⟨j, rfl⟩ : ∃ j, i = j + 8 := ⟨i - 8, by omega⟩
    simp
def namedVis (w8 w7 v7 : List LV) {a b : List Nat} (A : Td a) (hb7 : b.length = a.length) : TVis Bool a.length where
  I := NI w8 w7 v7 a b a.length
  vis := nvis a b
  f := n_law13_WashNamed_2
  first := []
  cap := NTC
  a := 8
  hI := fun s m Y h => by
    obtain ⟨Y0, rfl⟩ := h
    exact ⟨Y0 ++ Y, by simp⟩
  hT := fun s m k vs h hk => by
    obtain ⟨Y0, rfl⟩ := h
    rcases NT_trim w8 w7 v7 a b s (NTB a.length ++ Y0) k vs (by omega) with e | e
    · rw [e]; exact ⟨Y0, rfl⟩
    · rw [e]
      obtain ⟨j, rfl⟩ : ∃ j, k = j + 11 := ⟨k - 11, by omega⟩
      exact ⟨Y0.take j, by simp⟩
  hn := fun s m h => by obtain ⟨Y0, rfl⟩ := h; rfl
  hv := fun s m h => by obtain ⟨Y0, rfl⟩ := h; rfl
  hp := fun s m h => by obtain ⟨Y0, rfl⟩ := h; rfl
  size := fun s => 0
  hsz := fun s l => by omega
  hvis := fun s m l b hI hs hT hb hm => NI_vis w8 w7 v7 A hb7 s m l b hI hT hb hm
theorem tides_named (w8 w7 v7 : List LV) {a b : List Nat} (A : Td a) (hb7 : b.length = a.length) : ∃ Y, clF LP n_law13_tides [.int .i64 (a.length : Int), .func n_law13_WashNamed_2 [] NTC] (NTH w8 w7 v7 a b false []) = some (.W, .tup [], NTH w8 w7 v7 a b (!emp (nmF a b)) Y) := by
  have h1 := A.h1
  have h7 := A.h7
  have hle : (perms a.length a.length []).length ≤ 1000000 := Nat.le_trans (perms_len _ _ _) (Nat.le_trans (Nat.pow_le_pow_left h7 _) (Nat.le_trans (Nat.pow_le_pow_right (by omega) h7) (by omega)))
  obtain ⟨m', e, hI, hl⟩ := tides_c h1 h7 (namedVis w8 w7 v7 A hb7) (NTH w8 w7 v7 a b false []) rfl false (by simpa [namedVis] using hle) ⟨[], rfl⟩
  obtain ⟨Y, rfl⟩ := hI
  have hs : (perms a.length a.length []).foldl (namedVis w8 w7 v7 A hb7).vis false = !emp (nmF a b) := by
    rw [nmF_ok, emp_filter, Bool.not_not]
    refine (nvis_fold a b _ false).trans ?_
    rw [Bool.false_or]
    rw [Bool.eq_iff_iff, List.any_eq_true, List.any_eq_true]
    constructor
    · rintro ⟨l, hl, h⟩
      obtain ⟨L, hll⟩ := perms_td A hl
      exact ⟨l, hl, by rw [isNm_iff (two_td A L hll.symm) hb7]; exact h⟩
    · rintro ⟨l, hl, h⟩
      obtain ⟨L, hll⟩ := perms_td A hl
      exact ⟨l, hl, by rw [isNm_iff (two_td A L hll.symm) hb7] at h; exact h⟩
  rw [hs] at e
  rcases NT_trim w8 w7 v7 a b (!emp (nmF a b)) (NTB a.length ++ Y) 8 [.tup []] (Nat.le_refl 8) with e2 | e2
  · exact ⟨NTB a.length ++ Y, by rw [← e2]; exact e⟩
  · exact ⟨(NTB a.length ++ Y).take (8 - 8), by rw [← e2]; exact e⟩
theorem named_in (ns : List Int) (hl : ns.length = 8) (hb : ∀ n ∈ ns, 0 ≤ n ∧ n < 256) (os : List Int) (hol : os.length = 7) (hob : ∀ n ∈ os, 0 ≤ n ∧ n < 256) (us : List Int) (hul : us.length = 7) (hub : ∀ n ∈ us, 0 ≤ n ∧ n < 256) :
    clF LP n_law13_WashNamed [.agg (ns.map (LV.int .u8)), .agg (os.map (LV.int .u8)), .agg (us.map (LV.int .u8))] [] = some (.P, .bool true, []) := by
  obtain ⟨p, bs, e, hp, hb7, hbb⟩ := swell_nat hl hb
  obtain ⟨cs, e2, hc7, hcb⟩ := bytes7_nat hol hob
  obtain ⟨ds, e3, hd7, hdb⟩ := bytes7_nat hul hub
  rw [e, e2, e3]
  clear e e2 e3 hb hl hol hob hul hub
  have hm := fun m => made_c p hp 5 (by omega) (by omega) bs hb7 hbb m
  simp only [show ((5 : Nat) : Int) = 5 from rfl] at hm
  have hk : p % 5 < 5 := Nat.mod_lt _ (by omega)
  obtain ⟨A, hdl⟩ := drawN_td (show 1 ≤ 1 + p % 5 by omega) (show 1 + p % 5 ≤ 7 by omega) bs
  generalize drawN (1 + p % 5) bs = a at *
  have h1 := A.h1
  have h5 : a.length ≤ 5 := by omega
  have hdr := fun m => drawn_c a.length h1 (by omega) cs hc7 hcb m
  have hdr2 := fun m => drawn_c a.length h1 (by omega) ds hd7 hdb m
  obtain ⟨B, hbl⟩ := drawN_td h1 (by omega) cs
  obtain ⟨E, hel⟩ := drawN_td h1 (by omega) ds
  generalize drawN a.length cs = b at *
  generalize drawN a.length ds = y at *
  have hba : b.length = a.length := hbl
  have hya : y.length = a.length := hel
  obtain ⟨Ra, na, Ka⟩ := known A.T A.h1 A.h7
  obtain ⟨Rb, nb, Kb⟩ := known B.T B.h1 B.h7
  have W := two_td A E hya.symm
  have C := td_nam W
  have hcl : (namN a y).length = a.length := by rw [namN_len, hya]
  obtain ⟨Rc, nc, Kc⟩ := known C.T C.h1 C.h7
  have tB : Tide a.length b := by rw [← hba]; exact B.T
  have tC : Tide a.length (namN a y) := by rw [← hcl]; exact C.T
  have P1 := pairA A.T h1 h5 tB Ka.hp Kb.hp
  have P2 := pairA A.T h1 h5 tC Ka.hp Kc.hp
  have hfound : (!emp (nmF a b)) = alkB Ra Rb := by rw [← P1.kin]; exact kinds_alk Ka Kb
  have hkin : eqN (kindsN Ra) (kindsN Rc) = true := by
    rw [P2.kin, nmF_ok, emp_filter, Bool.not_not, List.any_eq_true]
    have hin : y ∈ perms a.length a.length [] := by
      have := perms_in a.length a.length [] y hya (by simpa using E.T.2.1) (by simpa [← hya] using E.lt)
      simpa using this
    exact ⟨y, hin, by rw [isNm_iff W hcl]; simp⟩
  have hal : alkB Ra Rc = true := by rw [← kinds_alk Ka Kc]; exact hkin
  obtain ⟨k1, k2, k3, k4⟩ := kin_same A C (by omega) (by omega) Ka Kc hkin
  have H := halved A.T h1 (by omega) Ka.hp
  have H' := halved C.T C.h1 (by omega) Kc.hp
  have hbs8 : (bys (p :: bs)).length = 8 := by simp [hb7]
  have hps : LV.pures (bys (p :: bs)) = true := pures_int _ _
  have htk : (bys (p :: bs)).take 8 = bys (p :: bs) := List.take_of_length_le (by omega)
  generalize bys (p :: bs) = w8 at *
  have hbs7 : (bys cs).length = 7 := by simp [hc7]
  have hps7 : LV.pures (bys cs) = true := pures_int _ _
  have htk7 : (bys cs).take 7 = bys cs := List.take_of_length_le (by omega)
  generalize bys cs = w7 at *
  have hds7 : (bys ds).length = 7 := by simp [hd7]
  have hpd7 : LV.pures (bys ds) = true := pures_int _ _
  have htd7 : (bys ds).take 7 = bys ds := List.take_of_length_le (by omega)
  generalize bys ds = v7 at *
  have hpure : LV.pures [LV.agg w8, LV.agg w7, LV.agg v7] = true := by simp only [LV.pures, LV.pure, hps, hps7, hpd7, Bool.and_true]
  obtain ⟨Y, htd⟩ := tides_named w8 w7 v7 A hba
  rw [hfound] at htd
  have al1 := fun m => alikeP_c false false false false (two_td A B hba.symm) Ka Kb m
  have nm1 := fun m => namedP_c false false false false W rfl m
  have al2 := fun m => alikeP_c false false false false (two_td A C hcl.symm) Ka Kc m
  rw [hal] at al2
  have v1 := fun c => view_ptr (m := NTH w8 w7 v7 a b c Y) (i := 4) (o := 0) (L := 1) rfl rfl (by simp [LV.pures, LV.pure])
  have v2 := fun c => view_ptr (m := NTH w8 w7 v7 a b c Y) (i := 3) (o := 0) (L := 1) rfl rfl (by simp [LV.pures, LV.pure])
  have vs := views3 30 (NTH w8 w7 v7 a b (alkB Ra Rb) Y) (IL false false 1 (ci y)) _ _ _ _ _ [] _ _ (fun k => view_pure (k + 1) _ _ (by simp [LV.pure])) (v1 _) (v2 _) (by simp [LV.pures, LV.pure])
  have hun := under_m false false W vs
  have hsm : ∀ m, clF LP n_law13_same [IL false false 1 (ci (namN a y)), IL false true 1 (ci (namN a y))] m = some (.P, .bool true, m) := fun m => same_refl _ _ _ _ _ _ (ci (namN a y)) (by rw [ci_len]; omega) m
  have ha1 := fun m => pHalves_c false false A Ka H A.chk m
  have ha2 := fun m => pHalves_c false false C Kc H' C.chk m
  have fr1 := fun m => pFriends_c false false A Ka H A.chk m
  have fr2 := fun m => pFriends_c false false C Kc H' C.chk m
  have bk1 := fun m => backP_c false false A Ka A.chk m
  have bk2 := fun m => backP_c false false C Kc C.chk m
  have od1 := fun m => oddP_c false false A Ka A.chk m
  have od2 := fun m => oddP_c false false C Kc C.chk m
  rw [← k1] at ha2
  rw [← k2] at fr2
  rw [← k3] at bk2
  rw [← k4] at od2
  have hl2 : (ci a).length = a.length := ci_len a
  simp only [NTH, NTC, NF1] at htd hun
  generalize (halvesF a).length = z1 at *
  generalize (friendsF a).length = z2 at *
  generalize oddB Ra = z4 at *
  generalize alkB Ra Rb = z5 at *
  generalize ci (namN a y) = cc at *
  generalize ci a = ca at *
  generalize ci b = cb at *
  generalize ci y = cy at *
  refine call_P lp_law13_WashNamed rfl hpure (m1 := ⟨w8, true⟩ :: ⟨w7, true⟩ :: ⟨v7, true⟩ :: ⟨[IL false false 1 ca], true⟩ :: ⟨[.int .i64 (a.length : Int)], true⟩ :: ⟨[IL false false 1 cb], true⟩ :: ⟨[NF1], true⟩ :: ⟨[.bool z5], true⟩ :: Y) ?_ rfl []
  simp only [law13_WashNamed, law13_WashNamed.B]
  repeat (rw [exF_seq]; try simp only [beqT, beqF, exF_region, exF_block, exF_cond, exF_ret, exF_exit, exF_skip, runL, wantL, stepL, evL, LEnv.at, putL, loadFine, loadL, cellsAt, Trk.putNew, Trk.up, Trk.touch, Trk.gives, Trk.calm, Trk.hit, opdsOf, Trk.fresh, LEnv.keep, LEnv.ofFrom, List.map_cons, List.map_nil, nbeq, nble, nblt, ofAV, ofAVs, lenL, bin_add, bin_sub, bin_mul, bin_eql, bin_neq, bin_lss, bin_leq, bin_gtr, bin_geq, natL_nat, natL_zero, natL_one, natL_two, Nat.zero_mul, List.any_cons, List.any_nil, Bool.or_false, Bool.false_or, Bool.true_or, Bool.or_true, Bool.and_true, Bool.true_and, Bool.and_false, Bool.false_and, Bool.not_true, Bool.not_false, Nat.reduceBEq, Nat.reduceEqDiff, decide_true, decide_false, cond_true, cond_false, List.filter_nil, List.filter_cons, Nat.reduceAdd, Nat.reduceLeDiff, reduceCtorEq, List.length_nil, List.length_cons, Nat.mul_one, if_true, if_false, Bool.false_eq_true, eq_self, and_true, true_and, retL, resultsL, resAllL, resOfL, List.append_nil, List.nil_append, List.cons_append, true_or, or_true, false_or, or_false, false_and, and_false, not_true_eq_false, not_false_eq_true, ne_eq, unL, trim_nil, views_pures, LV.pures, LV.pure, freeze, Nat.reduceDiv, Int.reduceEq, Int.reduceLT, Int.reduceLE, Int.natCast_zero, LV.cells, allocL, List.getElem?_cons_zero, List.getElem?_cons_succ, storeL, spliceL, List.take_zero, List.take_succ_cons, List.drop_zero, List.drop_succ_cons, List.drop_nil, List.take_nil, Nat.le_refl, Nat.reduceMul, List.set_cons_zero, List.set_cons_succ, LV.scalar, List.all_cons, List.all_nil, Nat.lt_add_one, Nat.zero_lt_one, Nat.reduceLT, Nat.lt_irrefl, fillL, List.length_append, foldIntL, kind_beq, pures_int, solids_int, plains_int, unders_int, scalars_int, NF1, hbs8, hbs7, hds7, htk, htk7, htd7, hm, hl2, hdr, hdr2, htd, al1, nm1, al2, hun, hsm, ha1, ha2, fr1, fr2, bk1, bk2, od1, od2, beq_self_eq_true, Bool.xor_self, Bool.false_xor, works_c])
end Go.Am.Wash


