import Derived.Test.YtheppipmnfjdcaaDoorRdC22
import Derived.Test.YtheppipmnfjdcaaDoorRdD3
set_option linter.unusedVariables false
set_option linter.unusedSimpArgs false
set_option maxRecDepth 10000
namespace Go.Am.Ring
open Go.Am.G
structure AVis (σ : Type) (n N : Nat) where
  I : σ → List Nat → LMem → Prop
  vis : σ → List Nat → σ
  f : Nat
  cap : List LV
  size : σ → Nat
  hsz : ∀ s o,size (vis s o) ≤ size s + 1
  hI : ∀ s O m m',I s O m → (∀ i ∈ O,m'[i]? = m[i]?) → I s O m'
  hlt : ∀ s O m,I s O m → ∀ i ∈ O,i < m.length
  hT : ∀ s O m k,I s O m → N ≤ k → belowM k (m.take k) = true → ∀ i ∈ O,i < k
  hvis : ∀ s O m o,I s O m → o ∈ ords n → size s < 1000000 → N ≤ m.length → Cl m → ∃ m' O',clF LP f (.sl m.length 0 o.length o.length 1 1 o.length :: cap) (m ++ [⟨ints (ci o),true⟩]) = some (.W,.tup [],m') ∧ I (vis s o) O' m' ∧ Exn m m' O ∧ ∀ i ∈ O',i ∈ O ∨ m.length ≤ i
theorem AVis.hszl {σ : Type} {n N : Nat} (X : AVis σ n N) : ∀ (l : List (List Nat)) (s : σ),X.size (l.foldl X.vis s) ≤ X.size s + l.length
  | [],s => by simp
  | a :: r,s => by
    have h1 := X.hsz s a
    have h2 := X.hszl r (X.vis s a)
    rw [List.foldl_cons,List.length_cons]; omega
theorem AVis.trim {σ : Type} {n N : Nat} (X : AVis σ n N) {s : σ} {O : List Nat} {m : LMem} (h : X.I s O m) (k : Nat) (hk : N ≤ k) (vs : List LV) : X.I s O (trim k vs m) := by
  rcases trim_or k vs m with e | ⟨e,hb⟩
  · rw [e]; exact h
  · rw [e]
    refine X.hI s O m _ h fun i hi => ?_
    rw [List.getElem?_take,if_pos (X.hT s O m k h hk hb i hi)]
structure AB {σ : Type} {n N : Nat} (X : AVis σ n N) (m : LMem) : Prop where
  n0 : m[N]? = some ⟨[.int .i64 (n : Int)],true⟩
  e0 : m[N + 1]? = some ⟨[.func X.f [] X.cap],true⟩
  p0 : m[N + 2]? = some ⟨[.func n_law04_all_1 [] [.ptr N 0 1,.ptr (N + 1) 0 1,.ptr (N + 2) 0 1]],true⟩
theorem AB.mono {σ : Type} {n N : Nat} {X : AVis σ n N} {m m' : LMem} (h : AB X m) (e : ∀ i,N ≤ i → i ≤ N + 2 → m'[i]? = m[i]?) : AB X m' :=
  ⟨by rw [e _ (by omega) (by omega)]; exact h.n0,by rw [e _ (by omega) (by omega)]; exact h.e0,by rw [e _ (by omega) (by omega)]; exact h.p0⟩
theorem Exn.flag {m m' : LMem} {b : Nat} (hl : m'.length = m.length) (h1 : ∀ i,i ∉ [b] → m'[i]? = m[i]?) (h2 : ∀ (i : Nat) cs w,m[i]? = some ⟨cs,w⟩ → ∃ w',m'[i]? = some ⟨cs,w'⟩) (O : List Nat) (hb : b ∈ O) : Exn m m' O := by
  have hnr : ∀ i,NR i m → NR i m' := by
    intro i h c hc
    obtain ⟨j,hj,rfl⟩ := List.getElem_of_mem hc
    have hj' : j < m.length := by omega
    have e : m[j]? = some ⟨m[j].cells,m[j].own⟩ := by rw [List.getElem?_eq_getElem hj']
    obtain ⟨w',e'⟩ := h2 j _ _ e
    rw [List.getElem?_eq_getElem hj] at e'
    rw [Option.some.inj e']
    exact h m[j] (List.getElem_mem hj')
  refine ⟨by omega,fun i _ hn => h1 i fun h => hn (by rw [List.mem_singleton.1 h]; exact hb),fun i _ h => hnr i h,fun h i hi => hnr i (h i (by omega))⟩
theorem exn_trimk {m m' : LMem} {O : List Nat} (h : Exn m m' O) (k : Nat) (hk : m.length ≤ k) (vs : List LV) : Exn m (Go.Am.trim k vs m') O := by
  rcases trim_or k vs m' with e | ⟨e,hb⟩
  · rw [e]; exact h
  · rw [e]
    have hl := h.len
    refine ⟨by rw [List.length_take]; omega,fun i hi hn => ?_,fun i hi hN b hb' => h.nr i hi hN b (List.mem_of_mem_take hb'),fun hC i hi => ?_⟩
    · rw [List.getElem?_take,if_pos (by omega),h.keep i hi hn]
    · by_cases c : k ≤ i
      · exact belowM_cl hb i c
      · rw [List.length_take] at hi
        exact fun b hb' => h.cl hC i (by omega) b (List.mem_of_mem_take hb')
theorem clip_nil (nl ex : Bool) (sz : Nat) (m : LMem) : clF LP n_slices_Clip_int_int [.lst true nl sz 0 []] m = some (.P,.lst true true sz 0 [],m) := by
  refine call_P lp_slices_Clip_int_int rfl (by simp [LV.pures,LV.pure]) (m1 := []) ?_ rfl m
  simp only [slices_Clip_int_int,slices_Clip_int_int.B,exF_seq,exF_region,exF_ret,runL,wantL,stepL,evL,evC,LEnv.at,putL,loadFine,LEnv.keep,LEnv.ofFrom,List.map_cons,List.map_nil,nbeq,nble,lenL,natL_zero,Nat.zero_mul,Bool.true_or,Bool.and_true,Nat.reduceEqDiff,decide_true,decide_false,cond_true,cond_false,reduceCtorEq,eq_self,retL,resultsL,resAllL,resOfL,Int.natCast_zero,List.drop_nil,List.take_nil,Nat.le_refl,sliceL,optNatL,Option.map_none,Option.map_some,Nat.sub_zero]
theorem clip_l (l : List Int) (hl : l.length < 1000000) (m : LMem) : clF LP n_slices_Clip_int_int [.lst false false 1 l.length (ints l)] m = some (.P,.lst false true 1 l.length (ints l),m) := by
  have ht : (ints l).take l.length = ints l := List.take_of_length_le (by simp)
  refine call_P lp_slices_Clip_int_int rfl (by simp [LV.pures,LV.pure]) (m1 := []) ?_ rfl m
  simp only [slices_Clip_int_int,slices_Clip_int_int.B,exF_seq,exF_region,exF_ret,runL,wantL,stepL,evL,evC,LEnv.at,putL,loadFine,LEnv.keep,LEnv.ofFrom,List.map_cons,List.map_nil,nbeq,nble,lenL,natL_nat,Bool.or_true,Bool.and_true,Nat.reduceEqDiff,decide_true,decide_false,cond_true,cond_false,reduceCtorEq,Nat.mul_one,eq_self,retL,resultsL,resAllL,resOfL,List.drop_zero,Nat.le_refl,sliceL,optNatL,Option.map_none,Option.map_some,Nat.sub_zero,Nat.zero_le,ht]
theorem clip_c (m : LMem) (b : Nat) (l : List Int) (hl : l.length < 1000000) (c : l ≠ []) (w : Bool) (h : m[b]? = some ⟨ints l,w⟩) : ∃ m' w',clF LP n_slices_Clip_int_int [GV b l] m = some (.P,.lst false true 1 l.length (ints l),m') ∧ m'.length = m.length ∧ m'[b]? = some ⟨ints l,w'⟩ ∧ (∀ O,b ∈ O → Exn m m' O) ∧ (∀ i,i ≠ b → m'[i]? = m[i]?) := by
  have hv : views m [GV b l] = some ([.lst false false 1 l.length (ints l)],[b]) := by
    have := views_one 92 m (GV b l) _ _ (fun k => view_gv k m b l w (fun _ => h)) (by simp [LV.pures,LV.pure,GV,c])
    rw [if_neg c,RL,decide_eq_false c] at this
    exact this
  obtain ⟨m',h1,h2,h3,h4⟩ := call_shown2 lp_slices_Clip_int_int rfl hv (by simp [LV.pures,LV.pure]) (clip_l l hl [])
  obtain ⟨w',h5⟩ := h4 b _ _ h
  exact ⟨m',w',h1,h3,h5,fun O hO => Exn.flag h3 h2 h4 O hO,fun i hi => h2 i (by simpa using hi)⟩
theorem contains_w (m : LMem) (b : Nat) (l : List Int) (x : Int) (hl : l.length < 1000000) (w : Bool) (h : l ≠ [] → m[b]? = some ⟨ints l,w⟩) : clF LP n_slices_Contains_int_int [GV b l,.int .i64 x] m = some (.P,.bool (decide (x ∈ l)),m) :=
  call_view lp_slices_Contains_int_int rfl (views_gv m b l (.int .i64 x) rfl w h) (by simp [LV.pures,LV.pure]) (contains_c _ _ _ l x hl []) rfl
theorem app_new (m : LMem) (sz : Nat) (l : List Int) (x : Int) (hl : l.length < 1000000) (hs : l = [] ∨ sz = 1) (nl : Bool) : appendL m 1 8 (.lst nl true sz l.length (ints l)) (.lst false true 1 1 [.int .i64 x]) = some (.sl m.length 0 (l.length + 1) (l.length + 1) 1 1 (l.length + 1),m ++ [⟨ints (l ++ [x]),true⟩]) := by
  have hr := room_of hl
  simp only [nble,Bool.and_eq_true,decide_eq_true_eq] at hr
  rcases hs with h | h
  · subst h
    simp [appendL,contents,newSl,LV.scalar,nbeq,nble,roomMost]
  · simp [appendL,contents,newSl,LV.scalar,nbeq,nble,hr.1,hr.2,h]
def PutOk {σ : Type} {n N : Nat} (X : AVis σ n N) (u : Nat) (b : List Nat) : Prop :=
  ∀ (s : σ) (O : List Nat) (m : LMem),AB X m → X.I s O m → Cl m → (∀ i ∈ O,i < N ∨ N + 2 < i) → X.size s + (subO n u b).length ≤ 1000000 →
    ∃ m' O',clF LP n_law04_all_1 [.sl m.length 0 b.length b.length 1 1 b.length,.ptr N 0 1,.ptr (N + 1) 0 1,.ptr (N + 2) 0 1] (m ++ [⟨ints (ci b),true⟩]) = some (.W,.tup [],m') ∧ X.I ((subO n u b).foldl X.vis s) O' m' ∧ Exn m m' O ∧ ∀ i ∈ O',i ∈ O ∨ m.length ≤ i
theorem put_loop {σ : Type} {n N : Nat} (hn : n ≤ 6) (X : AVis σ n N) {u : Nat} {b : List Nat} (hb : b.length < 6) (br : Nat) (hbr : ci b ≠ [] → N + 2 < br) (hr : ∀ x,x < n → x ∉ b → PutOk X u (b ++ [x])) (j : Nat) : ∀ (k : Nat) (s : σ) (O : List Nat) (m : LMem) (w : Bool),k + j = n → AB X m → (ci b ≠ [] → m[br]? = some ⟨ints (ci b),w⟩) → (ci b ≠ [] → br ∉ O) → X.I s O m → Cl m → (∀ i ∈ O,i < N ∨ N + 2 < i) →
      X.size s + ((List.range' k j).flatMap fun f => if f ∈ b then [] else subO n u (b ++ [f])).length ≤ 1000000 →
    ∃ m' O',exF LP law04_all_1.L0 [(0,GV br (ci b)),(3,.ptr (N + 2) 0 1),(13,.int .i64 (n : Int)),(14,.int .i64 (k : Int))] m = some (.exit 0,[],m') ∧ X.I (((List.range' k j).flatMap fun f => if f ∈ b then [] else subO n u (b ++ [f])).foldl X.vis s) O' m' ∧ Exn m m' (br :: O) ∧ ∀ i ∈ O',i ∈ O ∨ m.length ≤ i := by
  induction j with
  | zero =>
    intro k s O m w hk hA hv hO hI hC hN hs
    refine ⟨m,O,?_,hI,Exn.rfl' m _,fun i hi => .inl hi⟩
    rw [law04_all_1.L0_eq]
    simp only [law04_all_1.B0,exF_seq,exF_region,exF_cond,exF_exit,runL,wantL,stepL,evL,LEnv.at,putL,loadFine,LEnv.keep,List.map_cons,List.map_nil,nbeq,bin_lss,Nat.reduceEqDiff,decide_true,decide_false,cond_true,cond_false,reduceCtorEq,eq_self,show ¬ ((k : Int) < (n : Int)) by omega]
  | succ j ih =>
    intro k s O m w hk hA hv hbO hI hC hN hs
    have hkk : (k : Int) < (n : Int) := by omega
    have hwk := wrap_succ (show k + 1 < 9223372036854775808 by omega)
    have hcon := contains_w m br (ci b) (k : Int) (by rw [ci_len]; omega) w hv
    have hmem := ci_mem b k
    have hcl := ci_len b
    have hp := hA.p0
    have hlt := get_lt hp
    rw [List.range'_succ,List.flatMap_cons] at hs ⊢
    rw [List.length_append] at hs
    rw [List.foldl_append]
    by_cases c : k ∈ b
    · have c' := hmem.2 c
      rw [if_pos c] at hs ⊢
      obtain ⟨m',O',hex,h2,h3,h4⟩ := ih (k + 1) s O m w (by omega) hA hv hbO hI hC hN (by simpa using hs)
      refine ⟨m',O',?_,h2,h3,h4⟩
      rw [law04_all_1.L0_eq]
      generalize GV br (ci b) = gv at *
      simp only [law04_all_1.B0,exF_seq,exF_region,exF_block,exF_cond,exF_skip,runL,wantL,stepL,evL,evC,LEnv.at,putL,loadFine,LEnv.keep,List.map_cons,List.map_nil,nbeq,ofAVs,bin_add,bin_lss,Bool.not_true,Nat.reduceEqDiff,decide_true,decide_false,cond_true,cond_false,reduceCtorEq,eq_self,List.append_nil,List.nil_append,unL,hkk,hcon,c',hwk,hex]
    · have c' : ¬ (k : Int) ∈ ci b := fun h => c (hmem.1 h)
      rw [if_neg c] at hs ⊢
      have e1 : ci b ++ [(k : Int)] = ci (b ++ [k]) := by simp
      -- the list is clipped
      obtain ⟨m0,w0,hclip,hv0,hE0,hk0,hcl0⟩ : ∃ m0 w0,(∃ nl sz,(ci b = [] ∨ sz = 1) ∧ clF LP n_slices_Clip_int_int [GV br (ci b)] m = some (.P,.lst nl true sz (ci b).length (ints (ci b)),m0)) ∧ (ci b ≠ [] → m0[br]? = some ⟨ints (ci b),w0⟩) ∧ Exn m m0 (br :: O) ∧ (∀ i,(ci b = [] ∨ i ≠ br) → m0[i]? = m[i]?) ∧ m0.length = m.length := by
        by_cases c0 : ci b = []
        · refine ⟨m,w,⟨true,0,.inl c0,?_⟩,fun h => absurd c0 h,Exn.rfl' m _,fun _ _ => rfl,rfl⟩
          rw [c0,GV_nil]
          exact clip_nil true true 0 m
        · obtain ⟨m0,w0,h1,h2,h3,h4,h5⟩ := clip_c m br (ci b) (by rw [hcl]; omega) c0 w (hv c0)
          exact ⟨m0,w0,⟨false,1,.inr rfl,h1⟩,fun _ => h3,h4 _ (by simp),fun i hi => h5 i (hi.resolve_left c0),h2⟩
      obtain ⟨nl,sz,hsz,hclip⟩ := hclip
      have happ := app_new m0 sz (ci b) (k : Int) (by rw [hcl]; omega) hsz nl
      rw [e1,hcl] at happ
      rw [hcl] at hclip
      have hvl : ci b ≠ [] → br < m.length := fun h => get_lt (hv h)
      have hA0 : AB X m0 := hA.mono fun i h1 h2 => hk0 i (by
        by_cases c0 : ci b = []
        · exact .inl c0
        · exact .inr (by have := hbr c0; omega))
      have hI0 : X.I s O m0 := X.hI s O m m0 hI fun i hi => hk0 i (by
        by_cases c0 : ci b = []
        · exact .inl c0
        · exact .inr (fun e => hbO c0 (e ▸ hi)))
      obtain ⟨m1,O1,hc,hI1,hE1,hO1⟩ := hr k (by omega) c s O m0 hA0 hI0 (hE0.cl hC) hN (by omega)
      have hszl := X.hszl (subO n u (b ++ [k])) s
      have hkeep : ∀ i,N ≤ i → i ≤ N + 2 → m1[i]? = m0[i]? := fun i h1 h2 => hE1.keep i (by omega) fun h => by rcases hN i h with h | h <;> omega
      have hO2 : ci b ≠ [] → br ∉ O1 := fun h0 h => by
        rcases hO1 br h with h | h
        · exact hbO h0 h
        · have := hvl h0; omega
      obtain ⟨m',O',hex,h2,h3,h4⟩ := ih (k + 1) _ O1 m1 w0 (by omega) (hA0.mono hkeep) (fun h => by rw [hE1.keep br (by rw [hcl0]; exact hvl h) (hbO h)]; exact hv0 h) hO2 hI1 (hE1.cl (hE0.cl hC)) (fun i hi => by
        rcases hO1 i hi with h | h
        · exact hN i h
        · omega) (by omega)
      refine ⟨m',O',?_,h2,(hE0.trans (hE1.mono fun i hi => List.mem_cons_of_mem _ hi) fun i hi => .inl hi).trans h3 fun i hi => ?_,fun i hi => ?_⟩
      · rw [List.length_append,List.length_singleton] at hc
        have hp0 := hA0.p0
        have hnn : ¬ m.length ≤ N + 2 := by omega
        have hpp : (m0 ++ [(⟨ints (ci (b ++ [k])),true⟩ : LBlk)])[N + 2]? = some ⟨[.func n_law04_all_1 [] [.ptr N 0 1,.ptr (N + 1) 0 1,.ptr (N + 2) 0 1]],true⟩ := by
          rw [List.getElem?_append_left (by omega)]; exact hp0
        rw [law04_all_1.L0_eq]
        generalize GV br (ci b) = gv at *
        simp only [law04_all_1.B0,exF_seq,exF_region,exF_block,exF_cond,exF_skip,runL,wantL,stepL,evL,evC,LEnv.at,putL,loadFine,loadL,cellsAt,Trk.putNew,Trk.up,Trk.touch,Trk.gives,Trk.calm,Trk.hit,opdsOf,Trk.fresh,LEnv.keep,List.map_cons,List.map_nil,nbeq,nble,ofAV,ofAVs,bin_add,bin_lss,List.any_cons,List.any_nil,Bool.or_false,Bool.or_true,Bool.and_true,Bool.false_and,Bool.not_true,Bool.not_false,Nat.reduceEqDiff,decide_true,decide_false,cond_true,cond_false,List.filter_nil,List.filter_cons,Nat.reduceAdd,reduceCtorEq,List.length_nil,List.length_cons,Nat.mul_one,if_true,eq_self,List.append_nil,List.nil_append,List.cons_append,unL,views_pures,LV.pures,LV.pure,freeze,Nat.reduceDiv,LV.cells,List.getElem?_cons_zero,spliceL,List.take_zero,List.take_succ_cons,List.drop_zero,List.drop_succ_cons,List.drop_nil,List.take_nil,Nat.le_refl,fillL,hkk,hcon,c',hwk,hclip,happ,hnn,hpp,hc,hex]
      · rcases List.mem_cons.1 hi with rfl | hi
        · exact .inl (by simp)
        · rcases hO1 i hi with h | h
          · exact .inl (by simp [h])
          · exact .inr (by omega)
      · rcases h4 i hi with h | h
        · rcases hO1 i h with h | h
          · exact .inl h
          · exact .inr (by omega)
        · exact .inr (by have := hE1.len; omega)
theorem put_c {σ : Type} {n N : Nat} (hn : n ≤ 6) (X : AVis σ n N) : ∀ (u : Nat) (b : List Nat),b ≠ [] → b.length + u = n → (∀ o ∈ subO n u b,o ∈ ords n) → PutOk X u b
  | 0,b,hb,hu,ho => by
    intro s O m hA hI hC hN hs
    have e : subO n 0 b = [b] := by simp [subO,compsU]
    rw [e] at ho hs ⊢
    obtain ⟨m',O',hc,hI',hE,hO'⟩ := X.hvis s O m b hI (ho b (by simp)) (by simp at hs; omega) (by have := get_lt hA.p0; omega) hC
    refine ⟨trim (m.length + 1) [.tup []] m',O',?_,X.trim hI' _ (by have := get_lt hA.p0; omega) _,?_,hO'⟩
    · have hlt := get_lt hA.p0
      have up : ∀ {i : Nat} {c : LBlk},m[i]? = some c → (m ++ [(⟨ints (ci b),true⟩ : LBlk)])[i]? = some c := fun h => by rw [List.getElem?_append_left (get_lt h)]; exact h
      have h0 := up hA.n0
      have h1 := up hA.e0
      have hbn : (b.length : Int) = (n : Int) := by omega
      have := call_W lp_law04_all_1 rfl (m := m ++ [⟨ints (ci b),true⟩]) (args := [.sl m.length 0 b.length b.length 1 1 b.length,.ptr N 0 1,.ptr (N + 1) 0 1,.ptr (N + 2) 0 1]) (v := .tup []) (m1 := m') (by
        generalize m ++ [(⟨ints (ci b),true⟩ : LBlk)] = M at *
        simp only [law04_all_1,law04_all_1.B,exF_seq,exF_region,exF_cond,exF_ret,runL,wantL,stepL,evL,LEnv.at,putL,loadFine,loadL,cellsAt,Trk.putNew,Trk.up,Trk.touch,Trk.gives,Trk.calm,Trk.hit,opdsOf,Trk.fresh,LEnv.keep,LEnv.ofFrom,List.map_cons,List.map_nil,nbeq,nble,lenL,bin_eql,List.any_cons,List.any_nil,Bool.or_false,Bool.false_or,Bool.true_or,Bool.and_true,Nat.reduceEqDiff,decide_true,decide_false,cond_true,cond_false,List.filter_nil,Nat.reduceAdd,Nat.reduceLeDiff,reduceCtorEq,List.length_nil,List.length_cons,eq_self,retL,resultsL,resAllL,List.nil_append,List.cons_append,List.getElem?_cons_zero,List.take_succ_cons,List.drop_zero,List.take_nil,Nat.le_refl,h0,h1,hbn,hc])
      rw [this]; simp
    · exact exn_trimk hE _ (by omega) _
  | u + 1,b,hb,hu,ho => by
    intro s O m hA hI hC hN hs
    have hlt := get_lt hA.p0
    have e : subO n (u + 1) b = (List.range' 0 n).flatMap fun f => if f ∈ b then [] else subO n u (b ++ [f]) := by rw [subO_succ,List.range_eq_range']
    have hE0 : Exn m (m ++ [(⟨ints (ci b),true⟩ : LBlk)]) O := Exn.app O fun j => noRefs_int j _ _
    have up : ∀ {i : Nat} {c : LBlk},m[i]? = some c → (m ++ [(⟨ints (ci b),true⟩ : LBlk)])[i]? = some c := fun h => by rw [List.getElem?_append_left (get_lt h)]; exact h
    have hcb : ci b ≠ [] := fun h => hb (ci_nil.1 h)
    have hr : ∀ x,x < n → x ∉ b → PutOk X u (b ++ [x]) := fun x hx hxb => put_c hn X u (b ++ [x]) (by simp) (by simp; omega) fun o h => ho o (by
      rw [subO_succ,List.mem_flatMap]
      exact ⟨x,List.mem_range.2 hx,by rw [if_neg hxb]; exact h⟩)
    rw [e] at hs ⊢
    obtain ⟨m',O',hex,hI',hE,hO'⟩ := put_loop hn X (by omega) m.length (fun _ => by omega) hr n 0 s O (m ++ [⟨ints (ci b),true⟩]) true (by omega) (hA.mono fun i _ hi => by rw [List.getElem?_append_left (by omega)]) (fun _ => get_last _ _) (fun _ h => by
      have := X.hlt s O m hI _ h; omega) (X.hI s O m _ hI fun i hi => by rw [List.getElem?_append_left (X.hlt s O m hI i hi)]) (hE0.cl hC) hN hs
    have hE2 : Exn m m' O := by
      refine ⟨by have := hE.len; simp at this; omega,fun i hi hn => ?_,fun i hi h => hE.nr i (by simp; omega) (hE0.nr i hi h),fun h => hE.cl (hE0.cl h)⟩
      rw [hE.keep i (by simp; omega) (by simp [hn]; omega),List.getElem?_append_left hi]
    refine ⟨trim (m.length + 1) [.tup []] m',O',?_,X.trim hI' _ (by omega) _,?_,fun i hi => ?_⟩
    · have h0 := up hA.n0
      have hbn : ¬ (b.length : Int) = (n : Int) := by omega
      rw [gv_ne hcb,ci_len] at hex
      have := call_W lp_law04_all_1 rfl (m := m ++ [⟨ints (ci b),true⟩]) (args := [.sl m.length 0 b.length b.length 1 1 b.length,.ptr N 0 1,.ptr (N + 1) 0 1,.ptr (N + 2) 0 1]) (v := .tup []) (m1 := m') (by
        generalize m ++ [(⟨ints (ci b),true⟩ : LBlk)] = M at *
        simp only [Int.natCast_zero] at hex
        simp only [law04_all_1,law04_all_1.B,exF_seq,exF_region,exF_block,exF_cond,exF_skip,runL,wantL,stepL,evL,evC,LEnv.at,putL,loadFine,loadL,cellsAt,Trk.putNew,Trk.up,Trk.touch,Trk.gives,Trk.calm,Trk.hit,opdsOf,Trk.fresh,LEnv.keep,LEnv.ofFrom,List.map_cons,List.map_nil,nbeq,nble,lenL,bin_eql,List.any_cons,List.any_nil,Bool.or_false,Bool.false_or,Bool.true_or,Bool.and_true,Nat.reduceEqDiff,decide_true,decide_false,cond_true,cond_false,List.filter_nil,Nat.reduceAdd,Nat.reduceLeDiff,reduceCtorEq,List.length_nil,List.length_cons,eq_self,retL,resultsL,resAllL,List.getElem?_cons_zero,List.take_succ_cons,List.drop_zero,List.take_nil,Nat.le_refl,h0,hbn,hex])
      rw [this]; simp
    · exact exn_trimk hE2 _ (by omega) _
    · rcases hO' i hi with h | h
      · exact .inl h
      · simp at h; exact .inr (by omega)
theorem all_c {σ : Type} {m : LMem} {n : Nat} (h1 : 1 ≤ n) (hn : n ≤ 6) (X : AVis σ n m.length) (s : σ) (O : List Nat) (hI : X.I s O m) (hC : Cl m) (hf : LV.under m.length (.func X.f [] X.cap) = true) (hs : X.size s = 0) :
    ∃ m' O',clF LP n_law04_all [.int .i64 (n : Int),.func X.f [] X.cap] m = some (.W,.tup [],m') ∧ X.I ((ords n).foldl X.vis s) O' m' := by
  have hlt := X.hlt s O m hI
  let m1 : LMem := m ++ [⟨[.int .i64 (n : Int)],true⟩] ++ [⟨[.func X.f [] X.cap],true⟩] ++ [⟨[.func n_law04_all_1 [] [.ptr m.length 0 1,.ptr (m.length + 1) 0 1,.ptr (m.length + 2) 0 1]],true⟩]
  have l1 : m1.length = m.length + 3 := by simp [m1]
  have A1 : AB X m1 := ⟨by simp [m1],by simp [m1],by simp [m1]⟩
  have C1 : Cl m1 := by
    intro i hi
    rw [l1] at hi
    refine NR.app (NR.app (NR.app (hC i (by omega)) rfl) ?_) ?_
    · simp only [LV.noRefs,Bool.and_true]; exact under_noRef (by omega) hf
    · simp only [LV.noRefs,LV.noRef,nbeq,Bool.and_true,Bool.true_and,Bool.and_eq_true,Bool.not_eq_true',decide_eq_false_iff_not]; omega
  have k1 : ∀ i,i < m.length → m1[i]? = m[i]? := fun i hi => by simp only [m1]; rw [List.getElem?_append_left (by simp; omega),List.getElem?_append_left (by simp; omega),List.getElem?_append_left (by omega)]
  have I1 : X.I s O m1 := X.hI s O m m1 hI fun i hi => k1 i (hlt i hi)
  obtain ⟨u,rfl⟩ : ∃ u,n = u + 1 := ⟨n - 1,by omega⟩
  have e : ords (u + 1) = (List.range' 0 (u + 1)).flatMap fun f => if f ∈ [] then [] else subO (u + 1) u ([] ++ [f]) := by
    rw [← List.range_eq_range',← subO_succ,subO]; simp [mk]
  have hol := ords_len (u + 1) hn
  have hr : ∀ x,x < u + 1 → x ∉ [] → PutOk X u ([] ++ [x]) := fun x hx _ => put_c hn X u ([] ++ [x]) (by simp) (by simp; omega) fun o h => by
    rw [e,List.mem_flatMap]
    exact ⟨x,by simp [List.mem_range'_1]; omega,by simpa using h⟩
  obtain ⟨m',O',hex,hI',hE,hO'⟩ := put_loop hn X (b := []) (by simp) 0 (fun h => absurd rfl h) hr (u + 1) 0 s O m1 true (by omega) A1 (fun h => absurd rfl h) (fun h => absurd rfl h) I1 C1 (fun i hi => .inl (hlt i hi)) (by rw [← e]; omega)
  rw [← e] at hI'
  have hp : clF LP n_law04_all_1 [.lst true true 0 0 [],.ptr m.length 0 1,.ptr (m.length + 1) 0 1,.ptr (m.length + 2) 0 1] m1 = some (.W,.tup [],trim m1.length [.tup []] m') := by
    have h0 := A1.n0
    have hbn : ¬ (0 : Int) = ((u + 1 : Nat) : Int) := by omega
    simp only [Int.natCast_zero] at hex
    have hex : exF LP law04_all_1.L0 [(0,.lst true true 0 0 []),(3,.ptr (m.length + 2) 0 1),(13,.int .i64 ((u + 1 : Nat) : Int)),(14,.int .i64 0)] m1 = some (.exit 0,[],m') := hex
    refine call_W lp_law04_all_1 rfl ?_
    generalize m1 = M at *
    simp only [law04_all_1,law04_all_1.B,exF_seq,exF_region,exF_block,exF_cond,exF_skip,runL,wantL,stepL,evL,evC,LEnv.at,putL,loadFine,loadL,cellsAt,Trk.putNew,Trk.up,Trk.touch,Trk.gives,Trk.calm,Trk.hit,opdsOf,Trk.fresh,LEnv.keep,LEnv.ofFrom,List.map_cons,List.map_nil,nbeq,nble,lenL,bin_eql,List.any_cons,List.any_nil,Bool.or_false,Bool.false_or,Bool.true_or,Bool.and_true,Nat.reduceEqDiff,decide_true,decide_false,cond_true,cond_false,List.filter_nil,Nat.reduceAdd,Nat.reduceLeDiff,reduceCtorEq,List.length_nil,List.length_cons,eq_self,retL,resultsL,resAllL,Int.natCast_zero,List.getElem?_cons_zero,List.take_succ_cons,List.drop_zero,List.take_nil,Nat.le_refl,h0,hbn,hex]
  refine ⟨trim m.length [.tup []] (trim m1.length [.tup []] m'),O',?_,X.trim (X.trim hI' _ (by omega) _) _ (Nat.le_refl _) _⟩
  refine call_W lp_law04_all rfl ?_
  have e1 : ∀ a : LBlk,(m ++ [a]).length = m.length + 1 := fun a => by simp
  have e2 : ∀ a b : LBlk,(m ++ [a] ++ [b]).length = m.length + 2 := fun a b => by simp
  have s0 : ((m ++ [⟨[.int .i64 ((u + 1 : Nat) : Int)],true⟩] ++ [⟨[.func X.f [] X.cap],true⟩] ++ [⟨[LV.nilFunc],true⟩] : LMem).set (m.length + 2) ⟨[.func n_law04_all_1 [] [.ptr m.length 0 1,.ptr (m.length + 1) 0 1,.ptr (m.length + 2) 0 1]],true⟩) = m1 := by
    have := set_last (m ++ [⟨[.int .i64 ((u + 1 : Nat) : Int)],true⟩] ++ [⟨[.func X.f [] X.cap],true⟩]) ⟨[LV.nilFunc],true⟩ ⟨[.func n_law04_all_1 [] [.ptr m.length 0 1,.ptr (m.length + 1) 0 1,.ptr (m.length + 2) 0 1]],true⟩
    refine Eq.trans ?_ this
    congr 1
    simp
  have s2 : ((m ++ [⟨[.int .i64 ((u + 1 : Nat) : Int)],true⟩] ++ [⟨[.func X.f [] X.cap],true⟩] ++ [⟨[LV.nilFunc],true⟩] : LMem))[m.length + 2]? = some ⟨[LV.nilFunc],true⟩ := by simp
  have p0 := A1.p0
  simp only [law04_all,law04_all.B,exF_seq,exF_region,runL,wantL,stepL,evL,evC,LEnv.at,putL,loadFine,loadL,cellsAt,Trk.calm,Trk.hit,LEnv.keep,LEnv.ofFrom,List.map_cons,List.map_nil,nbeq,nble,ofAV,ofAVs,List.any_nil,Bool.or_false,Bool.false_or,Bool.true_or,Bool.and_true,Nat.reduceEqDiff,decide_true,decide_false,cond_true,cond_false,Nat.reduceAdd,Nat.reduceLeDiff,reduceCtorEq,List.length_nil,List.length_cons,eq_self,retL,resultsL,resAllL,List.append_nil,List.nil_append,List.cons_append,LV.cells,allocL,List.getElem?_cons_zero,storeL,spliceL,List.take_zero,List.take_succ_cons,List.drop_zero,List.drop_succ_cons,List.drop_nil,List.take_nil,Nat.le_refl,LV.scalar,List.all_cons,List.all_nil,e1,e2,s0,s2,p0,hp]
end Go.Am.Ring
set_option linter.unusedVariables false
set_option linter.unusedSimpArgs false
set_option maxRecDepth 10000
namespace Go.Am.Ring
open Go.Am.G
abbrev bools (l : List Bool) : List LV := l.map LV.bool
def leB : List Nat → Nat → Nat → Bool
  | [],_,_ => false
  | a :: r,y,x => (decide (a = y) && decide (x ∈ a :: r)) || leB r y x
def surC (B : List (List Nat)) : List Bool := (List.range 36).map fun i => B.all fun o => !leB o (i % 6) (i / 6)
end Go.Am.Ring
