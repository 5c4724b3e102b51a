import Derived.Test.YtheppipmnfjdcaaDoorRdC22
import Derived.Test.YtheppipmnfjdcaaDoorRdD3
set_option linter.unusedVariables false
set_option linter.unusedSimpArgs false
set_option maxRecDepth 10000
namespace Go.Am.Ring
open Go.Am.G
structure AVis (σ : Type) (n N : Nat) where
  I : σ → List Nat → LMem → Prop
  vis : σ → List Nat → σ
  f : Nat
  cap : List LV
  size : σ → Nat
  hsz : ∀ s o,size (vis s o) ≤ size s + 1
  hI : ∀ s O m m',I s O m → (∀ i ∈ O,m'[i]? = m[i]?) → I s O m'
  hlt : ∀ s O m,I s O m → ∀ i ∈ O,i < m.length
  hT : ∀ s O m k,I s O m → N ≤ k → belowM k (m.take k) = true → ∀ i ∈ O,i < k
  hvis : ∀ s O m o,I s O m → o ∈ ords n → size s < 1000000 → N ≤ m.length → Cl m → ∃ m' O',clF LP f (.sl m.length 0 o.length o.length 1 1 o.length :: cap) (m ++ [⟨ints (ci o),true⟩]) = some (.W,.tup [],m') ∧ I (vis s o) O' m' ∧ Exn m m' O ∧ ∀ i ∈ O',i ∈ O ∨ m.length ≤ i
theorem AVis.hszl {σ : Type} {n N : Nat} (X : AVis σ n N) : ∀ (l : List (List Nat)) (s : σ),X.size (l.foldl X.vis s) ≤ X.size s + l.length
  | [],s => by simp
  | a :: r,s => by
    have h1 := X.hsz s a
    have h2 := X.hszl r (X.vis s a)
    rw [List.foldl_cons,List.length_cons]; omega
theorem AVis.trim {σ : Type} {n N : Nat} (X : AVis σ n N) {s : σ} {O : List Nat} {m : LMem} (h : X.I s O m) (k : Nat) (hk : N ≤ k) (vs : List LV) : X.I s O (trim k vs m) := by
  rcases trim_or k vs m with e | ⟨e,hb⟩
  · rw [e]; exact h
  · rw [e]
    refine X.hI s O m _ h fun i hi => ?_
    rw [List.getElem?_take,if_pos (X.hT s O m k h hk hb i hi)]
structure AB {σ : Type} {n N : Nat} (X : AVis σ n N) (m : LMem) : Prop where
  n0 : m[N]? = some ⟨[.int .i64 (n : Int)],true⟩
  e0 : m[N + 1]? = some ⟨[.func X.f [] X.cap],true⟩
  p0 : m[N + 2]? = some ⟨[.func n_law04_all_1 [] [.ptr N 0 1,.ptr (N + 1) 0 1,.ptr (N + 2) 0 1]],true⟩
theorem AB.mono {σ : Type} {n N : Nat} {X : AVis σ n N} {m m' : LMem} (h : AB X m) (e : ∀ i,N ≤ i → i ≤ N + 2 → m'[i]? = m[i]?) : AB X m' :=
  ⟨by rw [e _ (by omega) (by omega)]; exact h.n0,by rw [e _ (by omega) (by omega)]; exact h.e0,by rw [e _ (by omega) (by omega)]; exact h.p0⟩
theorem Exn.flag {m m' : LMem} {b : Nat} (hl : m'.length = m.length) (h1 : ∀ i,i ∉ [b] → m'[i]? = m[i]?) (h2 : ∀ (i : Nat) cs w,m[i]? = some ⟨cs,w⟩ → ∃ w',m'[i]? = some ⟨cs,w'⟩) (O : List Nat) (hb : b ∈ O) : Exn m m' O := by
  have hnr : ∀ i,NR i m → NR i m' := by
    intro i h c hc
    obtain ⟨j,hj,rfl⟩ := List.getElem_of_mem hc
    have hj' : j < m.length := by omega
    have e : m[j]? = some ⟨m[j].cells,m[j].own⟩ := by rw [List.getElem?_eq_getElem hj']
    obtain ⟨w',e'⟩ := h2 j _ _ e
    rw [List.getElem?_eq_getElem hj] at e'
    rw [Option.some.inj e']
    exact h m[j] (List.getElem_mem hj')
  refine ⟨by omega,fun i _ hn => h1 i fun h => hn (by rw [List.mem_singleton.1 h]; exact hb),fun i _ h => hnr i h,fun h i hi => hnr i (h i (by omega))⟩
theorem exn_trimk {m m' : LMem} {O : List Nat} (h : Exn m m' O) (k : Nat) (hk : m.length ≤ k) (vs : List LV) : Exn m (Go.Am.trim k vs m') O := by
  rcases trim_or k vs m' with e | ⟨e,hb⟩
  · rw [e]; exact h
  · rw [e]
    have hl := h.len
    refine ⟨by rw [List.length_take]; omega,fun i hi hn => ?_,fun i hi hN b hb' => h.nr i hi hN b (List.mem_of_mem_take hb'),fun hC i hi => ?_⟩
    · rw [List.getElem?_take,if_pos (by omega),h.keep i hi hn]
    · by_cases c : k ≤ i
      · exact belowM_cl hb i c
      · rw [List.length_take] at hi
        exact fun b hb' => h.cl hC i (by omega) b (List.mem_of_mem_take hb')
theorem clip_nil (nl ex : Bool) (sz : Nat) (m : LMem) : clF LP n_slices_Clip_int_int [.lst true nl sz 0 []] m = some (.P,.lst true true sz 0 [],m) := by
  refine call_P lp_slices_Clip_int_int rfl (by simp [LV.pures,LV.pure]) (m1 := []) ?_ rfl m
  simp only [slices_Clip_int_int,slices_Clip_int_int.B,exF_seq,exF_region,exF_ret,runL,wantL,stepL,evL,evC,LEnv.at,putL,loadFine,LEnv.keep,LEnv.ofFrom,List.map_cons,List.map_nil,nbeq,nble,lenL,natL_zero,Nat.zero_mul,Bool.true_or,Bool.and_true,Nat.reduceEqDiff,decide_true,decide_false,cond_true,cond_false,reduceCtorEq,eq_self,retL,resultsL,resAllL,resOfL,Int.natCast_zero,List.drop_nil,List.take_nil,Nat.le_refl,sliceL,optNatL,Option.map_none,Option.map_some,Nat.sub_zero]
theorem clip_l (l : List Int) (hl : l.length < 1000000) (m : LMem) : clF LP n_slices_Clip_int_int [.lst false false 1 l.length (ints l)] m = some (.P,.lst false true 1 l.length (ints l),m) := by
  have ht : (ints l).take l.length = ints l := List.take_of_length_le (by simp)
  refine call_P lp_slices_Clip_int_int rfl (by simp [LV.pures,LV.pure]) (m1 := []) ?_ rfl m
  simp only [slices_Clip_int_int,slices_Clip_int_int.B,exF_seq,exF_region,exF_ret,runL,wantL,stepL,evL,evC,LEnv.at,putL,loadFine,LEnv.keep,LEnv.ofFrom,List.map_cons,List.map_nil,nbeq,nble,lenL,natL_nat,Bool.or_true,Bool.and_true,Nat.reduceEqDiff,decide_true,decide_false,cond_true,cond_false,reduceCtorEq,Nat.mul_one,eq_self,retL,resultsL,resAllL,resOfL,List.drop_zero,Nat.le_refl,sliceL,optNatL,Option.map_none,Option.map_some,Nat.sub_zero,Nat.zero_le,ht]
theorem clip_c (m : LMem) (b : Nat) (l : List Int) (hl : l.length < 1000000) (c : l ≠ []) (w : Bool) (h : m[b]? = some ⟨ints l,w⟩) : ∃ m' w',clF LP n_slices_Clip_int_int [GV b l] m = some (.P,.lst false true 1 l.length (ints l),m') ∧ m'.length = m.length ∧ m'[b]? = some ⟨ints l,w'⟩ ∧ (∀ O,b ∈ O → Exn m m' O) ∧ (∀ i,i ≠ b → m'[i]? = m[i]?) := by
  have hv : views m [GV b l] = some ([.lst false false 1 l.length (ints l)],[b]) := by
    have := views_one 92 m (GV b l) _ _ (fun k => view_gv k m b l w (fun _ => h)) (by simp [LV.pures,LV.pure,GV,c])
    rw [if_neg c,RL,decide_eq_false c] at this
    exact this
  obtain ⟨m',h1,h2,h3,h4⟩ := call_shown2 lp_slices_Clip_int_int rfl hv (by simp [LV.pures,LV.pure]) (clip_l l hl [])
  obtain ⟨w',h5⟩ := h4 b _ _ h
  exact ⟨m',w',h1,h3,h5,fun O hO => Exn.flag h3 h2 h4 O hO,fun i hi => h2 i (by simpa using hi)⟩
theorem contains_w (m : LMem) (b : Nat) (l : List Int) (x : Int) (hl : l.length < 1000000) (w : Bool) (h : l ≠ [] → m[b]? = some ⟨ints l,w⟩) : clF LP n_slices_Contains_int_int [GV b l,.int .i64 x] m = some (.P,.bool (decide (x ∈ l)),m) :=
  call_view lp_slices_Contains_int_int rfl (views_gv m b l (.int .i64 x) rfl w h) (by simp [LV.pures,LV.pure]) (contains_c _ _ _ l x hl []) rfl
theorem app_new (m : LMem) (sz : Nat) (l : List Int) (x : Int) (hl : l.length < 1000000) (hs : l = [] ∨ sz = 1) (nl : Bool) : appendL m 1 8 (.lst nl true sz l.length (ints l)) (.lst false true 1 1 [.int .i64 x]) = some (.sl m.length 0 (l.length + 1) (l.length + 1) 1 1 (l.length + 1),m ++ [⟨ints (l ++ [x]),true⟩]) := by
  have hr := room_of hl
  simp only [nble,Bool.and_eq_true,decide_eq_true_eq] at hr
  rcases hs with h | h
  · subst h
    simp [appendL,contents,newSl,LV.scalar,nbeq,nble,roomMost]
  · simp [appendL,contents,newSl,LV.scalar,nbeq,nble,hr.1,hr.2,h]
def PutOk {σ : Type} {n N : Nat} (X : AVis σ n N) (u : Nat) (b : List Nat) : Prop :=
  ∀ (s : σ) (O : List Nat) (m : LMem),AB X m → X.I s O m → Cl m → (∀ i ∈ O,i < N ∨ N + 2 < i) → X.size s + (subO n u b).length ≤ 1000000 →
    ∃ m' O',clF LP n_law04_all_1 [.sl m.length 0 b.length b.length 1 1 b.length,.ptr N 0 1,.ptr (N + 1) 0 1,.ptr (N + 2) 0 1] (m ++ [⟨ints (ci b),true⟩]) = some (.W,.tup [],m') ∧ X.I ((subO n u b).foldl X.vis s) O' m' ∧ Exn m m' O ∧ ∀ i ∈ O',i ∈ O ∨ m.length ≤ i
theorem put_loop {σ : Type} {n N : Nat} (hn : n ≤ 6) (X : AVis σ n N) {u : Nat} {b : List Nat} (hb : b.length < 6) (br : Nat) (hbr : ci b ≠ [] → N + 2 < br) (hr : ∀ x,x < n → x ∉ b → PutOk X u (b ++ [x])) (j : Nat) : ∀ (k : Nat) (s : σ) (O : List Nat) (m : LMem) (w : Bool),k + j = n → AB X m → (ci b ≠ [] → m[br]? = some ⟨ints (ci b),w⟩) → (ci b ≠ [] → br ∉ O) → X.I s O m → Cl m → (∀ i ∈ O,i < N ∨ N + 2 < i) →
      X.size s + ((List.range' k j).flatMap fun f => if f ∈ b then [] else subO n u (b ++ [f])).length ≤ 1000000 →
    ∃ m' O',exF LP law04_all_1.L0 [(0,GV br (ci b)),(3,.ptr (N + 2) 0 1),(13,.int .i64 (n : Int)),(14,.int .i64 (k : Int))] m = some (.exit 0,[],m') ∧ X.I (((List.range' k j).flatMap fun f => if f ∈ b then [] else subO n u (b ++ [f])).foldl X.vis s) O' m' ∧ Exn m m' (br :: O) ∧ ∀ i ∈ O',i ∈ O ∨ m.length ≤ i := by
  induction j with
  | zero =>
    intro k s O m w hk hA hv hO hI hC hN hs
    refine ⟨m,O,?_,hI,Exn.rfl' m _,fun i hi => .inl hi⟩
    rw [law04_all_1.L0_eq]
    simp only [law04_all_1.B0,exF_seq,exF_region,exF_cond,exF_exit,runL,wantL,stepL,evL,LEnv.at,putL,loadFine,LEnv.keep,List.map_cons,List.map_nil,nbeq,bin_lss,Nat.reduceEqDiff,decide_true,decide_false,cond_true,cond_false,reduceCtorEq,eq_self,show ¬ ((k : Int) < (n : Int)) by omega]
  | succ j ih =>
    intro k s O m w hk hA hv hbO hI hC hN hs
    have hkk : (k : Int) < (n : Int) := by omega
    have hwk := wrap_succ (show k + 1 < 9223372036854775808 by omega)
    have hcon := contains_w m br (ci b) (k : Int) (by rw [ci_len]; omega) w hv
    have hmem := ci_mem b k
    have hcl := ci_len b
    have hp := hA.p0
    have hlt := get_lt hp
    rw [List.range'_succ,List.flatMap_cons] at hs ⊢
    rw [List.length_append] at hs
    rw [List.foldl_append]
    by_cases c : k ∈ b
    · have c' := hmem.2 c
      rw [if_pos c] at hs ⊢
      obtain ⟨m',O',hex,h2,h3,h4⟩ := ih (k + 1) s O m w (by omega) hA hv hbO hI hC hN (by simpa using hs)
      refine ⟨m',O',?_,h2,h3,h4⟩
      rw [law04_all_1.L0_eq]
      generalize GV br (ci b) = gv at *
      simp only [law04_all_1.B0,exF_seq,exF_region,exF_block,exF_cond,exF_skip,runL,wantL,stepL,evL,evC,LEnv.at,putL,loadFine,LEnv.keep,List.map_cons,List.map_nil,nbeq,ofAVs,bin_add,bin_lss,Bool.not_true,Nat.reduceEqDiff,decide_true,decide_false,cond_true,cond_false,reduceCtorEq,eq_self,List.append_nil,List.nil_append,unL,hkk,hcon,c',hwk,hex]
    · have c' : ¬ (k : Int) ∈ ci b := fun h => c (hmem.1 h)
      rw [if_neg c] at hs ⊢
      have e1 : ci b ++ [(k : Int)] = ci (b ++ [k]) := by simp
      -- the list is clipped
      obtain ⟨m0,w0,hclip,hv0,hE0,hk0,hcl0⟩ : ∃ m0 w0,(∃ nl sz,(ci b = [] ∨ sz = 1) ∧ clF LP n_slices_Clip_int_int [GV br (ci b)] m = some (.P,.lst nl true sz (ci b).length (ints (ci b)),m0)) ∧ (ci b ≠ [] → m0[br]? = some ⟨ints (ci b),w0⟩) ∧ Exn m m0 (br :: O) ∧ (∀ i,(ci b = [] ∨ i ≠ br) → m0[i]? = m[i]?) ∧ m0.length = m.length := by
        by_cases c0 : ci b = []
        · refine ⟨m,w,⟨true,0,.inl c0,?_⟩,fun h => absurd c0 h,Exn.rfl' m _,fun _ _ => rfl,rfl⟩
          rw [c0,GV_nil]
          exact clip_nil true true 0 m
        · obtain ⟨m0,w0,h1,h2,h3,h4,h5⟩ := clip_c m br (ci b) (by rw [hcl]; omega) c0 w (hv c0)
          exact ⟨m0,w0,⟨false,1,.inr rfl,h1⟩,fun _ => h3,h4 _ (by simp),fun i hi => h5 i (hi.resolve_left c0),h2⟩
      obtain ⟨nl,sz,hsz,hclip⟩ := hclip
      have happ := app_new m0 sz (ci b) (k : Int) (by rw [hcl]; omega) hsz nl
      rw [e1,hcl] at happ
      rw [hcl] at hclip
      have hvl : ci b ≠ [] → br < m.length := fun h => get_lt (hv h)
      have hA0 : AB X m0 := hA.mono fun i h1 h2 => hk0 i (by
        by_cases c0 : ci b = []
        · exact .inl c0
        · exact .inr (by have := hbr c0; omega))
      have hI0 : X.I s O m0 := X.hI s O m m0 hI fun i hi => hk0 i (by
        by_cases c0 : ci b = []
        · exact .inl c0
        · exact .inr (fun e => hbO c0 (e ▸ hi)))
      obtain ⟨m1,O1,hc,hI1,hE1,hO1⟩ := hr k (by omega) c s O m0 hA0 hI0 (hE0.cl hC) hN (by omega)
      have hszl := X.hszl (subO n u (b ++ [k])) s
      have hkeep : ∀ i,N ≤ i → i ≤ N + 2 → m1[i]? = m0[i]? := fun i h1 h2 => hE1.keep i (by omega) fun h => by rcases hN i h with h | h <;> omega
      have hO2 : ci b ≠ [] → br ∉ O1 := fun h0 h => by
        rcases hO1 br h with h | h
        · exact hbO h0 h
        · have := hvl h0; omega
      obtain ⟨m',O',hex,h2,h3,h4⟩ := ih (k + 1) _ O1 m1 w0 (by omega) (hA0.mono hkeep) (fun h => by rw [hE1.keep br (by rw [hcl0]; exact hvl h) (hbO h)]; exact hv0 h) hO2 hI1 (hE1.cl (hE0.cl hC)) (fun i hi => by
        rcases hO1 i hi with h | h
        · exact hN i h
        · omega) (by omega)
      refine ⟨m',O',?_,h2,(hE0.trans (hE1.mono fun i hi => List.mem_cons_of_mem _ hi) fun i hi => .inl hi).trans h3 fun i hi => ?_,fun i hi => ?_⟩
      · rw [List.length_append,List.length_singleton] at hc
        have hp0 := hA0.p0
        have hnn : ¬ m.length ≤ N + 2 := by omega
        have hpp : (m0 ++ [(⟨ints (ci (b ++ [k])),true⟩ : LBlk)])[N + 2]? = some ⟨[.func n_law04_all_1 [] [.ptr N 0 1,.ptr (N + 1) 0 1,.ptr (N + 2) 0 1]],true⟩ := by
          rw [List.getElem?_append_left (by omega)]; exact hp0
        rw [law04_all_1.L0_eq]
        generalize GV br (ci b) = gv at *
        simp only [law04_all_1.B0,exF_seq,exF_region,exF_block,exF_cond,exF_skip,runL,wantL,stepL,evL,evC,LEnv.at,putL,loadFine,loadL,cellsAt,Trk.putNew,Trk.up,Trk.touch,Trk.gives,Trk.calm,Trk.hit,opdsOf,Trk.fresh,LEnv.keep,List.map_cons,List.map_nil,nbeq,nble,ofAV,ofAVs,bin_add,bin_lss,List.any_cons,List.any_nil,Bool.or_false,Bool.or_true,Bool.and_true,Bool.false_and,Bool.not_true,Bool.not_false,Nat.reduceEqDiff,decide_true,decide_false,cond_true,cond_false,List.filter_nil,List.filter_cons,Nat.reduceAdd,reduceCtorEq,List.length_nil,List.length_cons,Nat.mul_one,if_true,eq_self,List.append_nil,List.nil_append,List.cons_append,unL,views_pures,LV.pures,LV.pure,freeze,Nat.reduceDiv,LV.cells,List.getElem?_cons_zero,spliceL,List.take_zero,List.take_succ_cons,List.drop_zero,List.drop_succ_cons,List.drop_nil,List.take_nil,Nat.le_refl,fillL,hkk,hcon,c',hwk,hclip,happ,hnn,hpp,hc,hex]
      · rcases List.mem_cons.1 hi with rfl | hi
        · exact .inl (by simp)
        · rcases hO1 i hi with h | h
          · exact .inl (by simp [h])
          · exact .inr (by omega)
      · rcases h4 i hi with h | h
        · rcases hO1 i h with h | h
          · exact .inl h
          · exact .inr (by omega)
        · exact .inr (by have := hE1.len; omega)
theorem put_c {σ : Type} {n N : Nat} (hn : n ≤ 6) (X : AVis σ n N) : ∀ (u : Nat) (b : List Nat),b ≠ [] → b.length + u = n → (∀ o ∈ subO n u b,o ∈ ords n) → PutOk X u b
  | 0,b,hb,hu,ho => by
    intro s O m hA hI hC hN hs
    have e : subO n 0 b = [b] := by simp [subO,compsU]
    rw [e] at ho hs ⊢
    obtain ⟨m',O',hc,hI',hE,hO'⟩ := X.hvis s O m b hI (ho b (by simp)) (by simp at hs; omega) (by have := get_lt hA.p0; omega) hC
    refine ⟨trim (m.length + 1) [.tup []] m',O',?_,X.trim hI' _ (by have := get_lt hA.p0; omega) _,?_,hO'⟩
    · have hlt := get_lt hA.p0
      have up : ∀ {i : Nat} {c : LBlk},m[i]? = some c → (m ++ [(⟨ints (ci b),true⟩ : LBlk)])[i]? = some c := fun h => by rw [List.getElem?_append_left (get_lt h)]; exact h
      have h0 := up hA.n0
      have h1 := up hA.e0
      have hbn : (b.length : Int) = (n : Int) := by omega
      have := call_W lp_law04_all_1 rfl (m := m ++ [⟨ints (ci b),true⟩]) (args := [.sl m.length 0 b.length b.length 1 1 b.length,.ptr N 0 1,.ptr (N + 1) 0 1,.ptr (N + 2) 0 1]) (v := .tup []) (m1 := m') (by
        generalize m ++ [(⟨ints (ci b),true⟩ : LBlk)] = M at *
        simp only [law04_all_1,law04_all_1.B,exF_seq,exF_region,exF_cond,exF_ret,runL,wantL,stepL,evL,LEnv.at,putL,loadFine,loadL,cellsAt,Trk.putNew,Trk.up,Trk.touch,Trk.gives,Trk.calm,Trk.hit,opdsOf,Trk.fresh,LEnv.keep,LEnv.ofFrom,List.map_cons,List.map_nil,nbeq,nble,lenL,bin_eql,List.any_cons,List.any_nil,Bool.or_false,Bool.false_or,Bool.true_or,Bool.and_true,Nat.reduceEqDiff,decide_true,decide_false,cond_true,cond_false,List.filter_nil,Nat.reduceAdd,Nat.reduceLeDiff,reduceCtorEq,List.length_nil,List.length_cons,eq_self,retL,resultsL,resAllL,List.nil_append,List.cons_append,List.getElem?_cons_zero,List.take_succ_cons,List.drop_zero,List.take_nil,Nat.le_refl,h0,h1,hbn,hc])
      rw [this]; simp
    · exact exn_trimk hE _ (by omega) _
  | u + 1,b,hb,hu,ho => by
    intro s O m hA hI hC hN hs
    have hlt := get_lt hA.p0
    have e : subO n (u + 1) b = (List.range' 0 n).flatMap fun f => if f ∈ b then [] else subO n u (b ++ [f]) := by rw [subO_succ,List.range_eq_range']
    have hE0 : Exn m (m ++ [(⟨ints (ci b),true⟩ : LBlk)]) O := Exn.app O fun j => noRefs_int j _ _
    have up : ∀ {i : Nat} {c : LBlk},m[i]? = some c → (m ++ [(⟨ints (ci b),true⟩ : LBlk)])[i]? = some c := fun h => by rw [List.getElem?_append_left (get_lt h)]; exact h
    have hcb : ci b ≠ [] := fun h => hb (ci_nil.1 h)
    have hr : ∀ x,x < n → x ∉ b → PutOk X u (b ++ [x]) := fun x hx hxb => put_c hn X u (b ++ [x]) (by simp) (by simp; omega) fun o h => ho o (by
      rw [subO_succ,List.mem_flatMap]
      exact ⟨x,List.mem_range.2 hx,by rw [if_neg hxb]; exact h⟩)
    rw [e] at hs ⊢
    obtain ⟨m',O',hex,hI',hE,hO'⟩ := put_loop hn X (by omega) m.length (fun _ => by omega) hr n 0 s O (m ++ [⟨ints (ci b),true⟩]) true (by omega) (hA.mono fun i _ hi => by rw [List.getElem?_append_left (by omega)]) (fun _ => get_last _ _) (fun _ h => by
      have := X.hlt s O m hI _ h; omega) (X.hI s O m _ hI fun i hi => by rw [List.getElem?_append_left (X.hlt s O m hI i hi)]) (hE0.cl hC) hN hs
    have hE2 : Exn m m' O := by
      refine ⟨by have := hE.len; simp at this; omega,fun i hi hn => ?_,fun i hi h => hE.nr i (by simp; omega) (hE0.nr i hi h),fun h => hE.cl (hE0.cl h)⟩
      rw [hE.keep i (by simp; omega) (by simp [hn]; omega),List.getElem?_append_left hi]
    refine ⟨trim (m.length + 1) [.tup []] m',O',?_,X.trim hI' _ (by omega) _,?_,fun i hi => ?_⟩
    · have h0 := up hA.n0
      have hbn : ¬ (b.length : Int) = (n : Int) := by omega
      rw [gv_ne hcb,ci_len] at hex
      have := call_W lp_law04_all_1 rfl (m := m ++ [⟨ints (ci b),true⟩]) (args := [.sl m.length 0 b.length b.length 1 1 b.length,.ptr N 0 1,.ptr (N + 1) 0 1,.ptr (N + 2) 0 1]) (v := .tup []) (m1 := m') (by
        generalize m ++ [(⟨ints (ci b),true⟩ : LBlk)] = M at *
        simp only [Int.natCast_zero] at hex
        simp only [law04_all_1,law04_all_1.B,exF_seq,exF_region,exF_block,exF_cond,exF_skip,runL,wantL,stepL,evL,evC,LEnv.at,putL,loadFine,loadL,cellsAt,Trk.putNew,Trk.up,Trk.touch,Trk.gives,Trk.calm,Trk.hit,opdsOf,Trk.fresh,LEnv.keep,LEnv.ofFrom,List.map_cons,List.map_nil,nbeq,nble,lenL,bin_eql,List.any_cons,List.any_nil,Bool.or_false,Bool.false_or,Bool.true_or,Bool.and_true,Nat.reduceEqDiff,decide_true,decide_false,cond_true,cond_false,List.filter_nil,Nat.reduceAdd,Nat.reduceLeDiff,reduceCtorEq,List.length_nil,List.length_cons,eq_self,retL,resultsL,resAllL,List.getElem?_cons_zero,List.take_succ_cons,List.drop_zero,List.take_nil,Nat.le_refl,h0,hbn,hex])
      rw [this]; simp
    · exact exn_trimk hE2 _ (by omega) _
    · rcases hO' i hi with h | h
      · exact .inl h
      · simp at h; exact .inr (by omega)
theorem all_c {σ : Type} {m : LMem} {n : Nat} (h1 : 1 ≤ n) (hn : n ≤ 6) (X : AVis σ n m.length) (s : σ) (O : List Nat) (hI : X.I s O m) (hC : Cl m) (hf : LV.under m.length (.func X.f [] X.cap) = true) (hs : X.size s = 0) :
    ∃ m' O',clF LP n_law04_all [.int .i64 (n : Int),.func X.f [] X.cap] m = some (.W,.tup [],m') ∧ X.I ((ords n).foldl X.vis s) O' m' := by
  have hlt := X.hlt s O m hI
  let m1 : LMem := m ++ [⟨[.int .i64 (n : Int)],true⟩] ++ [⟨[.func X.f [] X.cap],true⟩] ++ [⟨[.func n_law04_all_1 [] [.ptr m.length 0 1,.ptr (m.length + 1) 0 1,.ptr (m.length + 2) 0 1]],true⟩]
  have l1 : m1.length = m.length + 3 := by simp [m1]
  have A1 : AB X m1 := ⟨by simp [m1],by simp [m1],by simp [m1]⟩
  have C1 : Cl m1 := by
    intro i hi
    rw [l1] at hi
    refine NR.app (NR.app (NR.app (hC i (by omega)) rfl) ?_) ?_
    · simp only [LV.noRefs,Bool.and_true]; exact under_noRef (by omega) hf
    · simp only [LV.noRefs,LV.noRef,nbeq,Bool.and_true,Bool.true_and,Bool.and_eq_true,Bool.not_eq_true',decide_eq_false_iff_not]; omega
  have k1 : ∀ i,i < m.length → m1[i]? = m[i]? := fun i hi => by simp only [m1]; rw [List.getElem?_append_left (by simp; omega),List.getElem?_append_left (by simp; omega),List.getElem?_append_left (by omega)]
  have I1 : X.I s O m1 := X.hI s O m m1 hI fun i hi => k1 i (hlt i hi)
  obtain ⟨u,rfl⟩ : ∃ u,n = u + 1 := ⟨n - 1,by omega⟩
  have e : ords (u + 1) = (List.range' 0 (u + 1)).flatMap fun f => if f ∈ [] then [] else subO (u + 1) u ([] ++ [f]) := by
    rw [← List.range_eq_range',← subO_succ,subO]; simp [mk]
  have hol := ords_len (u + 1) hn
  have hr : ∀ x,x < u + 1 → x ∉ [] → PutOk X u ([] ++ [x]) := fun x hx _ => put_c hn X u ([] ++ [x]) (by simp) (by simp; omega) fun o h => by
    rw [e,List.mem_flatMap]
    exact ⟨x,by simp [List.mem_range'_1]; omega,by simpa using h⟩
  obtain ⟨m',O',hex,hI',hE,hO'⟩ := put_loop hn X (b := []) (by simp) 0 (fun h => absurd rfl h) hr (u + 1) 0 s O m1 true (by omega) A1 (fun h => absurd rfl h) (fun h => absurd rfl h) I1 C1 (fun i hi => .inl (hlt i hi)) (by rw [← e]; omega)
  rw [← e] at hI'
  have hp : clF LP n_law04_all_1 [.lst true true 0 0 [],.ptr m.length 0 1,.ptr (m.length + 1) 0 1,.ptr (m.length + 2) 0 1] m1 = some (.W,.tup [],trim m1.length [.tup []] m') := by
    have h0 := A1.n0
    have hbn : ¬ (0 : Int) = ((u + 1 : Nat) : Int) := by omega
    simp only [Int.natCast_zero] at hex
    have hex : exF LP law04_all_1.L0 [(0,.lst true true 0 0 []),(3,.ptr (m.length + 2) 0 1),(13,.int .i64 ((u + 1 : Nat) : Int)),(14,.int .i64 0)] m1 = some (.exit 0,[],m') := hex
    refine call_W lp_law04_all_1 rfl ?_
    generalize m1 = M at *
    simp only [law04_all_1,law04_all_1.B,exF_seq,exF_region,exF_block,exF_cond,exF_skip,runL,wantL,stepL,evL,evC,LEnv.at,putL,loadFine,loadL,cellsAt,Trk.putNew,Trk.up,Trk.touch,Trk.gives,Trk.calm,Trk.hit,opdsOf,Trk.fresh,LEnv.keep,LEnv.ofFrom,List.map_cons,List.map_nil,nbeq,nble,lenL,bin_eql,List.any_cons,List.any_nil,Bool.or_false,Bool.false_or,Bool.true_or,Bool.and_true,Nat.reduceEqDiff,decide_true,decide_false,cond_true,cond_false,List.filter_nil,Nat.reduceAdd,Nat.reduceLeDiff,reduceCtorEq,List.length_nil,List.length_cons,eq_self,retL,resultsL,resAllL,Int.natCast_zero,List.getElem?_cons_zero,List.take_succ_cons,List.drop_zero,List.take_nil,Nat.le_refl,h0,hbn,hex]
  refine ⟨trim m.length [.tup []] (trim m1.length [.tup []] m'),O',?_,X.trim (X.trim hI' _ (by omega) _) _ (Nat.le_refl _) _⟩
  refine call_W lp_law04_all rfl ?_
  have e1 : ∀ a : LBlk,(m ++ [a]).length = m.length + 1 := fun a => by simp
  have e2 : ∀ a b : LBlk,(m ++ [a] ++ [b]).length = m.length + 2 := fun a b => by simp
  have s0 : ((m ++ [⟨[.int .i64 ((u + 1 : Nat) : Int)],true⟩] ++ [⟨[.func X.f [] X.cap],true⟩] ++ [⟨[LV.nilFunc],true⟩] : LMem).set (m.length + 2) ⟨[.func n_law04_all_1 [] [.ptr m.length 0 1,.ptr (m.length + 1) 0 1,.ptr (m.length + 2) 0 1]],true⟩) = m1 := by
    have := set_last (m ++ [⟨[.int .i64 ((u + 1 : Nat) : Int)],true⟩] ++ [⟨[.func X.f [] X.cap],true⟩]) ⟨[LV.nilFunc],true⟩ ⟨[.func n_law04_all_1 [] [.ptr m.length 0 1,.ptr (m.length + 1) 0 1,.ptr (m.length + 2) 0 1]],true⟩
    refine Eq.trans ?_ this
    congr 1
    simp
  have s2 : ((m ++ [⟨[.int .i64 ((u + 1 : Nat) : Int)],true⟩] ++ [⟨[.func X.f [] X.cap],true⟩] ++ [⟨[LV.nilFunc],true⟩] : LMem))[m.length + 2]? = some ⟨[LV.nilFunc],true⟩ := by simp
  have p0 := A1.p0
  simp only [law04_all,law04_all.B,exF_seq,exF_region,runL,wantL,stepL,evL,evC,LEnv.at,putL,loadFine,loadL,cellsAt,Trk.calm,Trk.hit,LEnv.keep,LEnv.ofFrom,List.map_cons,List.map_nil,nbeq,nble,ofAV,ofAVs,List.any_nil,Bool.or_false,Bool.false_or,Bool.true_or,Bool.and_true,Nat.reduceEqDiff,decide_true,decide_false,cond_true,cond_false,Nat.reduceAdd,Nat.reduceLeDiff,reduceCtorEq,List.length_nil,List.length_cons,eq_self,retL,resultsL,resAllL,List.append_nil,List.nil_append,List.cons_append,LV.cells,allocL,List.getElem?_cons_zero,storeL,spliceL,List.take_zero,List.take_succ_cons,List.drop_zero,List.drop_succ_cons,List.drop_nil,List.take_nil,Nat.le_refl,LV.scalar,List.all_cons,List.all_nil,e1,e2,s0,s2,p0,hp]
end Go.Am.Ring
set_option linter.unusedVariables false
set_option linter.unusedSimpArgs false
set_option maxRecDepth 10000
namespace Go.Am.Ring
open Go.Am.G
abbrev bools (l : List Bool) : List LV := l.map LV.bool
theorem set_bool (l : List Bool) (i : Nat) (x : Bool) (h : i < l.length) : (bools l).take i ++ [.bool x] ++ (bools l).drop (i + 1) = bools (l.set i x) := by
  show _ = (l.set i x).map _
  rw [List.map_set,List.set_eq_take_append_cons_drop,if_pos (by simpa using h)]
  simp
theorem set_same {α : Type} {m : List α} {i : Nat} {b : α} (h : m[i]? = some b) : m.set i b = m := by
  apply List.ext_getElem?
  intro j
  by_cases c : i = j
  · subst c
    rw [List.getElem?_set_self (List.getElem?_eq_some_iff.1 h).1,h]
  · rw [List.getElem?_set_ne c]
def fillT : Nat → Nat → List Bool → List Bool
  | _,0,C => C
  | i,j + 1,C => fillT (i + 1) j (C.set i true)
theorem fillT_len : ∀ (j i : Nat) (C : List Bool),(fillT i j C).length = C.length
  | 0,_,_ => rfl
  | j + 1,i,C => by rw [fillT,fillT_len]; simp
theorem fillT_at : ∀ (j i : Nat) (C : List Bool) (k : Nat),(fillT i j C)[k]? = if i ≤ k ∧ k < i + j then (C[k]?).map fun _ => true else C[k]?
  | 0,i,C,k => by rw [fillT,if_neg (by omega)]
  | j + 1,i,C,k => by
    rw [fillT,fillT_at j (i + 1) (C.set i true) k]
    by_cases c : i = k
    · subst c
      rw [if_neg (by omega),if_pos (by omega),List.getElem?_set]
      simp only [if_true]
      by_cases c : i < C.length
      · rw [if_pos c,List.getElem?_eq_getElem c]; rfl
      · rw [if_neg c,List.getElem?_eq_none (by omega)]; rfl
    · rw [List.getElem?_set_ne c]
      by_cases c2 : i + 1 ≤ k ∧ k < i + 1 + j
      · rw [if_pos c2,if_pos (by omega)]
      · rw [if_neg c2,if_neg (by omega)]
theorem fillT_app (j k i : Nat) : ∀ C,fillT (i + j) k (fillT i j C) = fillT i (j + k) C := by
  induction j generalizing i with
  | zero => intro C; rw [fillT,Nat.zero_add,Nat.add_zero]
  | succ j ih =>
    intro C
    rw [fillT,show j + 1 + k = (j + k) + 1 by omega,fillT,← ih (i + 1),show i + 1 + j = i + (j + 1) by omega]
def leB : List Nat → Nat → Nat → Bool
  | [],_,_ => false
  | a :: r,y,x => (decide (a = y) && decide (x ∈ a :: r)) || leB r y x
def clrRow (a : Nat) : List Nat → List Bool → List Bool
  | [],C => C
  | x :: r,C => clrRow a r (C.set (x * 6 + a) false)
def clrAll : List Nat → List Bool → List Bool
  | [],C => C
  | a :: r,C => clrAll r (clrRow a (a :: r) C)
theorem clrRow_len (a : Nat) : ∀ (l : List Nat) (C : List Bool),(clrRow a l C).length = C.length
  | [],_ => rfl
  | x :: r,C => by rw [clrRow,clrRow_len a r]; simp
theorem clrAll_len : ∀ (l : List Nat) (C : List Bool),(clrAll l C).length = C.length
  | [],_ => rfl
  | a :: r,C => by rw [clrAll,clrAll_len r,clrRow_len]
theorem clrRow_at (a : Nat) (ha : a < 6) (x y : Nat) (hy : y < 6) : ∀ (l : List Nat) (C : List Bool),(clrRow a l C)[x * 6 + y]? = (C[x * 6 + y]?).map fun b => b && !(decide (a = y) && decide (x ∈ l))
  | [],C => by simp [clrRow]
  | z :: r,C => by
    rw [clrRow,clrRow_at a ha x y hy r]
    by_cases c : z = x ∧ a = y
    · obtain ⟨rfl,rfl⟩ := c
      rw [List.getElem?_set]
      by_cases c : z * 6 + a < C.length
      · rw [if_pos rfl,if_pos c,List.getElem?_eq_getElem c]; simp
      · rw [if_pos rfl,if_neg c,List.getElem?_eq_none (by omega)]; rfl
    · rw [List.getElem?_set_ne (by omega)]
      congr 1
      funext b
      by_cases c1 : a = y
      · have : ¬ z = x := fun e => c ⟨e,c1⟩
        have hx : ¬ x = z := fun e => this e.symm
        simp [c1,hx]
      · simp [c1]
theorem clrAll_at (x y : Nat) (hy : y < 6) : ∀ (o : List Nat),(∀ a ∈ o,a < 6) → ∀ (C : List Bool),(clrAll o C)[x * 6 + y]? = (C[x * 6 + y]?).map fun b => b && !leB o y x
  | [],_,C => by simp [clrAll,leB]
  | a :: r,h,C => by
    rw [clrAll,clrAll_at x y hy r fun z hz => h z (by simp [hz]),clrRow_at a (h a (by simp)) x y hy,Option.map_map]
    congr 1
    funext b
    simp only [Function.comp,leB,Bool.not_or,Bool.and_assoc]
def surC (B : List (List Nat)) : List Bool := (List.range 36).map fun i => B.all fun o => !leB o (i % 6) (i / 6)
theorem surC_len (B : List (List Nat)) : (surC B).length = 36 := by simp [surC]
theorem surC_at (B : List (List Nat)) (x y : Nat) (hx : x < 6) (hy : y < 6) : (surC B)[x * 6 + y]? = some (B.all fun o => !leB o y x) := by
  rw [surC,List.getElem?_map,List.getElem?_range (by omega)]
  simp only [Option.map_some]
  rw [show (x * 6 + y) % 6 = y by omega,show (x * 6 + y) / 6 = x by omega]
theorem ext36 {A B : List Bool} (hA : A.length = 36) (hB : B.length = 36) (h : ∀ x y,x < 6 → y < 6 → A[x * 6 + y]? = B[x * 6 + y]?) : A = B := by
  apply List.ext_getElem?
  intro i
  by_cases c : i < 36
  · have := h (i / 6) (i % 6) (by omega) (by omega)
    rwa [show i / 6 * 6 + i % 6 = i by omega] at this
  · rw [List.getElem?_eq_none (by omega),List.getElem?_eq_none (by omega)]
theorem clr_sur (B : List (List Nat)) (o : List Nat) (ho : ∀ a ∈ o,a < 6) : clrAll o (surC B) = surC (B ++ [o]) := by
  refine ext36 (by rw [clrAll_len,surC_len]) (surC_len _) fun x y hx hy => ?_
  rw [clrAll_at x y hy o ho,surC_at B x y hx hy,surC_at _ x y hx hy]
  simp
theorem fill_sur (C : List Bool) (hC : C.length = 36) : fillT 0 36 C = surC [] := by
  refine ext36 (by rw [fillT_len,hC]) (surC_len _) fun x y hx hy => ?_
  rw [fillT_at,if_pos (by omega),surC_at [] x y hx hy,List.getElem?_eq_getElem (by omega)]
  rfl
theorem leB_pos : ∀ (o : List Nat),o.Nodup → ∀ (y x : Nat),y ∈ o → x ∈ o → leB o y x = decide (pos o y ≤ pos o x)
  | [],_,y,x,h,_ => by cases h
  | a :: r, hn,y,x,hy,hx => by
    obtain ⟨ha,hr⟩ := List.nodup_cons.1 hn
    rw [leB,pos_cons,pos_cons]
    have p1 : ∀ z,z ∈ r → 0 ≤ pos r z := fun z hz => (pos_mem r z).2 hz
    have hno : ∀ z,z ∉ r → leB r z x = false := by
      intro z hz
      have : ∀ (l : List Nat),z ∉ l → leB l z x = false := by
        intro l
        induction l with
        | nil => intro _; rfl
        | cons b l ih =>
          intro h
          rw [leB,ih (fun e => h (by simp [e])),Bool.or_false]
          have : ¬ b = z := fun e => h (by simp [e])
          simp [this]
      exact this r hz
    by_cases c : a = y
    · subst c
      have h1 : decide (x ∈ a :: r) = true := by simpa using hx
      rw [if_pos rfl,h1]
      by_cases c2 : a = x
      · simp [c2]
      · have hxr : x ∈ r := (List.mem_cons.1 hx).resolve_left fun e => c2 e.symm
        have := p1 x hxr
        rw [if_neg c2,if_pos hxr]
        simp; omega
    · have hyr : y ∈ r := (List.mem_cons.1 hy).resolve_left fun e => c e.symm
      rw [if_neg c,if_pos hyr]
      have hya := p1 y hyr
      by_cases c2 : a = x
      · subst c2
        rw [if_pos rfl]
        have hlx : leB r y a = false := by
          have : ∀ (l : List Nat),a ∉ l → leB l y a = false := by
            intro l
            induction l with
            | nil => intro _; rfl
            | cons b l ih =>
              intro h
              rw [leB,ih (fun e => h (by simp [e])),Bool.or_false]
              have : ¬ a ∈ b :: l := h
              simp only [this,decide_false,Bool.and_false]
          exact this r ha
        rw [hlx]
        simp [c]; omega
      · have hxr : x ∈ r := (List.mem_cons.1 hx).resolve_left fun e => c2 e.symm
        rw [if_neg c2,if_pos hxr,leB_pos r hr y x hyr hxr]
        simp [c]
theorem surC_R {n : Nat} (hn : n ≤ 6) {B : List (List Nat)} (hB : ∀ o ∈ B,o ∈ ords n) {x y : Nat} (hx : x < n) (hy : y < n) (hne : B ≠ []) : (B.all fun o => !leB o y x) = surR B x y := by
  rw [surR,befB]
  by_cases c : x = y
  · subst c
    rw [decide_eq_true rfl,Bool.not_true,Bool.false_and]
    obtain ⟨o,r,rfl⟩ := List.exists_cons_of_ne_nil hne
    have h := ords_ok (hB o (by simp))
    rw [List.all_cons,leB_pos o h.1 x x (h.2.2.2 x hx) (h.2.2.2 x hx),decide_eq_true (by omega)]
    rfl
  · rw [decide_eq_false c,Bool.not_false,Bool.true_and]
    have : ∀ (l : List (List Nat)),(∀ o ∈ l,o ∈ ords n) → (l.all fun o => !leB o y x) = l.all fun o => decide (pos o x < pos o y) := by
      intro l
      induction l with
      | nil => intro _; rfl
      | cons o l ih =>
        intro h
        have ho := ords_ok (h o (by simp))
        rw [List.all_cons,List.all_cons,ih fun o ho => h o (by simp [ho]),leB_pos o ho.1 y x (ho.2.2.2 y hy) (ho.2.2.2 x hx)]
        congr 1
        by_cases c : pos o y ≤ pos o x
        · rw [decide_eq_true c,decide_eq_false (by omega)]; rfl
        · rw [decide_eq_false c,decide_eq_true (by omega)]; rfl
    exact this B hB
theorem best_L0 (ov c6 : LV) (q a a' : Nat) (ha : a < 6) (j : Nat) : ∀ (b : Nat) (C : List Bool) (m : LMem),b + j = 6 → C.length = 36 → m[q]? = some ⟨bools C,true⟩ →
    exF LP law04_RingBest_1.L0 [(0,ov),(6,c6),(8,.ptr q 0 36),(14,.int .i64 (a : Int)),(59,.int .i64 (a' : Int)),(62,.int .i64 (b : Int))] m = some (.exit 2,[(0,ov),(6,c6),(8,.ptr q 0 36),(59,.int .i64 (a' : Int))],m.set q ⟨bools (fillT (a * 6 + b) j C),true⟩) := by
  induction j with
  | zero =>
    intro b C m hb hC hm
    rw [law04_RingBest_1.L0_eq,fillT,set_same hm]
    simp only [law04_RingBest_1.B0,exF_seq,exF_region,exF_cond,exF_exit,runL,wantL,stepL,evL,evC,LEnv.at,putL,loadFine,LEnv.keep,List.map_cons,List.map_nil,nbeq,bin_lss,Nat.reduceEqDiff,decide_true,decide_false,cond_true,cond_false,reduceCtorEq,eq_self,show ¬ ((b : Int) < 6) by omega]
  | succ j ih =>
    intro b C m hb hC hm
    have hlt := get_lt hm
    have hbb : (b : Int) < 6 := by omega
    have hw := wrap_succ (show b + 1 < 9223372036854775808 by omega)
    have hset := set_bool C (a * 6 + b) true (by omega)
    have hbl : (bools C).length = 36 := by simp [hC]
    have := ih (b + 1) (C.set (a * 6 + b) true) (m.set q ⟨bools (C.set (a * 6 + b) true),true⟩) (by omega) (by simp [hC]) (by rw [List.getElem?_set_self hlt])
    rw [List.set_set] at this
    rw [fillT,show a * 6 + b + 1 = a * 6 + (b + 1) by omega,← this,law04_RingBest_1.L0_eq]
    have hb6 : b < 6 := by omega
    have hle : a * 6 + b + 1 ≤ 36 := by omega
    have hle2 : a * 6 + 6 ≤ 36 := by omega
    generalize bools C = BC at *
    simp only [law04_RingBest_1.B0,exF_seq,exF_region,exF_block,exF_cond,exF_skip,runL,wantL,stepL,evL,evC,LEnv.at,putL,loadFine,LEnv.keep,List.map_cons,List.map_nil,nbeq,nble,nblt,bin_add,bin_lss,natL_nat,Bool.and_true,Nat.reduceEqDiff,decide_true,decide_false,cond_true,cond_false,reduceCtorEq,List.length_nil,List.length_cons,Nat.mul_one,eq_self,LV.cells,storeL,spliceL,LV.scalar,List.all_cons,List.all_nil,hbb,hb6,ha,Nat.zero_add,hm,hbl,hle,hset,hw]
theorem best_L1 (ov c6 : LV) (q : Nat) (j : Nat) : ∀ (a : Nat) (C : List Bool) (m : LMem),a + j = 6 → C.length = 36 → m[q]? = some ⟨bools C,true⟩ →
    exF LP law04_RingBest_1.L1 [(0,ov),(6,c6),(8,.ptr q 0 36),(59,.int .i64 (a : Int))] m = some (.exit 0,[(0,ov),(6,c6),(8,.ptr q 0 36)],m.set q ⟨bools (fillT (a * 6) (j * 6) C),true⟩) := by
  induction j with
  | zero =>
    intro a C m ha hC hm
    rw [law04_RingBest_1.L1_eq,Nat.zero_mul,fillT,set_same hm]
    simp only [law04_RingBest_1.B1,exF_seq,exF_region,exF_cond,exF_exit,runL,wantL,stepL,evL,evC,LEnv.at,putL,loadFine,LEnv.keep,List.map_cons,List.map_nil,nbeq,bin_lss,Nat.reduceEqDiff,decide_true,decide_false,cond_true,cond_false,reduceCtorEq,eq_self,show ¬ ((a : Int) < 6) by omega]
  | succ j ih =>
    intro a C m ha hC hm
    have hlt := get_lt hm
    have haa : (a : Int) < 6 := by omega
    have hw := wrap_succ (show a + 1 < 9223372036854775808 by omega)
    have h0 := best_L0 ov c6 q a a (by omega) 6 0 C m (by omega) hC hm
    have := ih (a + 1) (fillT (a * 6) 6 C) (m.set q ⟨bools (fillT (a * 6) 6 C),true⟩) (by omega) (by rw [fillT_len]; exact hC) (by rw [List.getElem?_set_self hlt])
    rw [List.set_set,show (a + 1) * 6 = a * 6 + 6 by omega,fillT_app,show 6 + j * 6 = (j + 1) * 6 by omega] at this
    rw [← this,law04_RingBest_1.L1_eq]
    simp only [Int.natCast_zero,Nat.add_zero] at h0
    simp only [law04_RingBest_1.B1,exF_seq,exF_region,exF_block,exF_cond,exF_skip,runL,wantL,stepL,evL,evC,LEnv.at,putL,loadFine,LEnv.keep,List.map_cons,List.map_nil,nbeq,bin_add,bin_lss,Nat.reduceEqDiff,decide_true,decide_false,cond_true,cond_false,reduceCtorEq,eq_self,haa,h0,hw]
theorem best_L2 (ov : LV) (br n : Nat) (hn6 : n ≤ 6) (w : Bool) (q a i : Nat) (ha : a < 6) (o : List Nat) (ho : o.length = n) (ho6 : ∀ x ∈ o,x < 6) (hin : i ≤ n) (t74 t75 : LV) (hqb : q ≠ br) (j : Nat) : ∀ (k : Nat) (C : List Bool) (m : LMem),i + k + j = n → C.length = 36 → m[q]? = some ⟨bools C,true⟩ → m[br]? = some ⟨ints (ci o),w⟩ →
    exF LP law04_RingBest_1.L2 [(0,ov),(8,.ptr q 0 36),(17,.int .i64 (a : Int)),(73,ov),(74,t74),(75,t75),(82,.sl br i (n - i) (n - i) 1 1 n),(83,.int .i64 ((n - i : Nat) : Int)),(84,.int .i64 (k : Int))] m = some (.exit 6,[(0,ov),(8,.ptr q 0 36),(73,ov),(74,t74),(75,t75)],m.set q ⟨bools (clrRow a (o.drop (i + k)) C),true⟩) := by
  induction j with
  | zero =>
    intro k C m hk hC hm hb
    rw [law04_RingBest_1.L2_eq,List.drop_eq_nil_of_le (by omega),clrRow,set_same hm]
    simp only [law04_RingBest_1.B2,exF_seq,exF_region,exF_cond,exF_exit,runL,wantL,stepL,evL,LEnv.at,putL,loadFine,LEnv.keep,List.map_cons,List.map_nil,nbeq,bin_lss,Nat.reduceEqDiff,decide_true,decide_false,cond_true,cond_false,reduceCtorEq,eq_self,show ¬ ((k : Int) < ((n - i : Nat) : Int)) by omega]
  | succ j ih =>
    intro k C m hk hC hm hb
    have hlt := get_lt hm
    have hkk : (k : Int) < ((n - i : Nat) : Int) := by omega
    have hkn : k < n - i := by omega
    have hw := wrap_succ (show k + 1 < 9223372036854775808 by omega)
    have hik : i + k < o.length := by omega
    have hat : (ints (ci o))[i + k]? = some (.int .i64 ((o[i + k] : Nat) : Int)) := by
      rw [List.getElem?_map,List.getElem?_map,List.getElem?_eq_getElem hik]; rfl
    have hx6 := ho6 o[i + k] (List.getElem_mem hik)
    have hol : (ints (ci o)).length = n := by simp [ho]
    rw [List.drop_eq_getElem_cons hik,clrRow]
    generalize o[i + k] = x at *
    have hset := set_bool C (x * 6 + a) false (by omega)
    have hbl : (bools C).length = 36 := by simp [hC]
    have := ih (k + 1) (C.set (x * 6 + a) false) (m.set q ⟨bools (C.set (x * 6 + a) false),true⟩) (by omega) (by simp [hC]) (by rw [List.getElem?_set_self hlt]) (by rw [List.getElem?_set_ne hqb]; exact hb)
    rw [List.set_set] at this
    rw [show i + k + 1 = i + (k + 1) by omega,← this,law04_RingBest_1.L2_eq]
    have hle : x * 6 + a + 1 ≤ 36 := by omega
    have hle2 : x * 6 + 6 ≤ 36 := by omega
    have hle3 : i + k + 1 ≤ n := by omega
    generalize bools C = BC at *
    generalize ints (ci o) = OI at *
    simp only [law04_RingBest_1.B2,exF_seq,exF_region,exF_block,exF_cond,exF_skip,runL,wantL,stepL,evL,evC,LEnv.at,putL,loadFine,loadL,cellsAt,Trk.putNew,Trk.up,Trk.touch,Trk.gives,Trk.calm,Trk.hit,opdsOf,Trk.fresh,LEnv.keep,List.map_cons,List.map_nil,nbeq,nble,nblt,bin_add,bin_lss,natL_nat,List.any_cons,List.any_nil,Bool.or_false,Bool.false_or,Bool.true_or,Bool.and_true,Nat.reduceEqDiff,decide_true,decide_false,cond_true,cond_false,List.filter_nil,Nat.reduceAdd,Nat.reduceLeDiff,reduceCtorEq,List.length_nil,List.length_cons,Nat.mul_one,eq_self,LV.cells,storeL,spliceL,LV.scalar,List.all_cons,List.all_nil,hkk,hkn,hb,hol,hle3,hat,hx6,ha,Nat.zero_add,hm,hbl,hle,hset,hw]
theorem best_L3 (br n : Nat) (hn : n ≤ 6) (w : Bool) (q : Nat) (o : List Nat) (ho : o.length = n) (ho6 : ∀ x ∈ o,x < 6) (hqb : q ≠ br) (j : Nat) : ∀ (i : Nat) (C : List Bool) (m : LMem),i + j = n → C.length = 36 → m[q]? = some ⟨bools C,true⟩ → m[br]? = some ⟨ints (ci o),w⟩ →
    exF LP law04_RingBest_1.L3 [(0,.sl br 0 n n 1 1 n),(8,.ptr q 0 36),(73,.sl br 0 n n 1 1 n),(74,.int .i64 (n : Int)),(75,.int .i64 (i : Int))] m = some (.exit 4,[],m.set q ⟨bools (clrAll (o.drop i) C),true⟩) := by
  induction j with
  | zero =>
    intro i C m hi hC hm hb
    rw [law04_RingBest_1.L3_eq,List.drop_eq_nil_of_le (by omega),clrAll,set_same hm]
    simp only [law04_RingBest_1.B3,exF_seq,exF_region,exF_cond,exF_exit,runL,wantL,stepL,evL,LEnv.at,putL,loadFine,LEnv.keep,List.map_cons,List.map_nil,nbeq,bin_lss,Nat.reduceEqDiff,decide_true,decide_false,cond_true,cond_false,reduceCtorEq,eq_self,show ¬ ((i : Int) < (n : Int)) by omega]
  | succ j ih =>
    intro i C m hi hC hm hb
    have hlt := get_lt hm
    have hii : (i : Int) < (n : Int) := by omega
    have hin : i < n := by omega
    have hw := wrap_succ (show i + 1 < 9223372036854775808 by omega)
    have hio : i < o.length := by omega
    have hat : (ints (ci o))[i]? = some (.int .i64 ((o[i] : Nat) : Int)) := by
      rw [List.getElem?_map,List.getElem?_map,List.getElem?_eq_getElem hio]; rfl
    have hx6 := ho6 o[i] (List.getElem_mem hio)
    have hol : (ints (ci o)).length = n := by simp [ho]
    have h2 := best_L2 (.sl br 0 n n 1 1 n) br n hn w q o[i] i hx6 o ho ho6 (by omega) (.int .i64 (n : Int)) (.int .i64 (i : Int)) hqb (n - i) 0 C m (by omega) hC hm hb
    rw [Nat.add_zero,List.drop_eq_getElem_cons hio] at h2
    have := ih (i + 1) (clrRow o[i] (o[i] :: o.drop (i + 1)) C) (m.set q ⟨bools (clrRow o[i] (o[i] :: o.drop (i + 1)) C),true⟩) (by omega) (by rw [clrRow_len]; exact hC) (by rw [List.getElem?_set_self hlt]) (by rw [List.getElem?_set_ne hqb]; exact hb)
    rw [List.set_set] at this
    rw [List.drop_eq_getElem_cons hio,clrAll,← this,law04_RingBest_1.L3_eq]
    generalize o[i] = a at *
    have hle3 : i + 1 ≤ n := by omega
    generalize ints (ci o) = OI at *
    simp only [Int.natCast_zero] at h2
    simp only [law04_RingBest_1.B3,exF_seq,exF_region,exF_block,exF_cond,exF_skip,runL,wantL,stepL,evL,evC,LEnv.at,putL,loadFine,loadL,cellsAt,Trk.putNew,Trk.up,Trk.touch,Trk.gives,Trk.calm,Trk.hit,opdsOf,Trk.fresh,LEnv.keep,List.map_cons,List.map_nil,nbeq,nble,nblt,lenL,bin_add,bin_lss,natL_nat,List.any_cons,List.any_nil,Bool.or_false,Bool.false_or,Bool.true_or,Bool.or_true,Bool.and_true,Nat.reduceEqDiff,decide_true,decide_false,cond_true,cond_false,List.filter_nil,Nat.reduceAdd,Nat.reduceLeDiff,reduceCtorEq,Nat.mul_one,eq_self,Nat.le_refl,sliceL,optNatL,Option.map_none,Option.map_some,Option.isSome_none,hii,hin,hb,hol,hle3,hat,Nat.zero_add,Nat.le_of_lt hin,h2,hw]
end Go.Am.Ring
