/- Texts for LTreeNone, part 16. -/
import Derived.Test.YtcamoanigdfihaaGreatQTn15
set_option maxRecDepth 100000
namespace Go.V
def opsL (l : List OpV) (kvs : List KV) : List KV := l.foldl (fun a x => kvOp x.key (opV x.d x.val) a) kvs
def lastOp (l : List OpV) (key : List Int) : Option OpV := l.foldl (fun o x => if x.key = key then some x else o) none
theorem lastOp_snoc (l : List OpV) (x : OpV) (key : List Int) : lastOp (l ++ [x]) key = if x.key = key then some x else lastOp l key := by simp [lastOp]
theorem opsL_snoc (l : List OpV) (x : OpV) (kvs : List KV) : opsL (l ++ [x]) kvs = kvOp x.key (opV x.d x.val) (opsL l kvs) := by simp [opsL]
theorem snoc_ind {α : Type} {P : List α → Prop} (h0 : P []) (h1 : ∀ l x, P l → P (l ++ [x])) (l : List α) : P l := by
  have : ∀ n (l : List α), l.length = n → P l := by
    intro n
    induction n with
    | zero => intro l h; rw [List.eq_nil_of_length_eq_zero h]; exact h0
    | succ n ih =>
      intro l h
      have hne : l ≠ [] := by intro e; rw [e] at h; simp at h
      rw [← List.dropLast_concat_getLast hne]
      exact h1 _ _ (ih _ (by simp [h]))
  exact this _ l rfl
theorem kvGet_opsL (kvs : List KV) (key : List Int) (l : List OpV) : kvGet (opsL l kvs) key = match lastOp l key with | some x => opV x.d x.val | none => kvGet kvs key := by
  refine snoc_ind (P := fun l => kvGet (opsL l kvs) key = match lastOp l key with | some x => opV x.d x.val | none => kvGet kvs key) rfl (fun l x ih => ?_) l
  rw [opsL_snoc, kvGet_op, lastOp_snoc]
  by_cases h : x.key = key
  · rw [if_pos h.symm, if_pos h]
  · rw [if_neg (fun e => h e.symm), if_neg h]; exact ih
theorem kvOp_sort {k : List Int} {o : Option (List Int)} {l : List KV} (h : SortK l) : SortK (kvOp k o l) := by
  unfold kvOp
  refine List.pairwise_append.2 ⟨h.sublist List.filter_sublist, List.pairwise_append.2 ⟨?_, h.sublist List.filter_sublist, fun x hx y hy => ?_⟩, fun x hx y hy => ?_⟩
  · cases o <;> simp
  · have h2 := of_decide_eq_true (List.mem_filter.1 hy).2
    cases o with
    | none => simp at hx
    | some v => simp at hx; rw [hx]; exact h2
  · have h1 := of_decide_eq_true (List.mem_filter.1 hx).2
    rcases List.mem_append.1 hy with h' | h'
    · cases o with
      | none => simp at h'
      | some v => simp at h'; rw [h']; exact h1
    · exact h1.trans (of_decide_eq_true (List.mem_filter.1 h').2)
theorem opsL_sort {l : List OpV} {kvs : List KV} (h : SortK kvs) : SortK (opsL l kvs) :=
  snoc_ind (P := fun l => SortK (opsL l kvs)) h (fun l x ih => by rw [opsL_snoc]; exact kvOp_sort ih) l
theorem kvGet_mem {l : List KV} (h : SortK l) {x : KV} : x ∈ l ↔ kvGet l x.1 = some x.2 := by
  induction l with
  | nil => simp [kvGet]
  | cons y l ih =>
    have h2 := List.pairwise_cons.1 h
    have e : kvGet (y :: l) x.1 = if y.1 = x.1 then some y.2 else kvGet l x.1 := by
      unfold kvGet; by_cases hh : y.1 = x.1 <;> simp [hh]
    rw [e, List.mem_cons]
    by_cases hh : y.1 = x.1
    · rw [if_pos hh]
      constructor
      · rintro (h' | h')
        · rw [h']
        · exact absurd (h2.1 x h') (by rw [hh]; exact fun h => h.irrefl)
      · intro h'; left
        simp only [Option.some.injEq] at h'
        exact Prod.ext hh.symm h'.symm
    · rw [if_neg hh, ← ih h2.2]
      exact ⟨fun h' => h'.resolve_left fun e => hh (by rw [e]), .inr⟩
theorem sort_ext {a b : List KV} (ha : SortK a) (hb : SortK b) (h : ∀ k, kvGet a k = kvGet b k) : a = b := by
  have nd : ∀ {l : List KV}, SortK l → l.Nodup := fun h => h.imp fun {x y} h e => by rw [e] at h; exact h.irrefl
  have hp : a.Perm b := (List.perm_ext_iff_of_nodup (nd ha) (nd hb)).2 fun x => by rw [kvGet_mem ha, kvGet_mem hb, h]
  exact hp.eq_of_pairwise (fun x y _ _ h1 h2 => absurd (h1.trans h2) (fun h => h.irrefl)) ha hb
theorem lastOp_mem {l : List OpV} {key : List Int} {x : OpV} (h : lastOp l key = some x) : x ∈ l ∧ x.key = key := by
  revert h
  refine snoc_ind (P := fun l => lastOp l key = some x → x ∈ l ∧ x.key = key) (fun h => by cases h) (fun l y ih h => ?_) l
  rw [lastOp_snoc] at h
  split at h
  · rename_i hy; cases h; exact ⟨by simp, hy⟩
  · obtain ⟨a, b⟩ := ih h; exact ⟨by simp [a], b⟩
theorem lastOp_some {l : List OpV} {key : List Int} {x : OpV} (hx : x ∈ l) (hk : x.key = key) : ∃ y, lastOp l key = some y := by
  revert hx
  refine snoc_ind (P := fun l => x ∈ l → ∃ y, lastOp l key = some y) (fun h => by cases h) (fun l y ih h => ?_) l
  rw [lastOp_snoc]
  split
  · exact ⟨_, rfl⟩
  · rename_i hy
    rcases List.mem_append.1 h with h | h
    · exact ih h
    · rw [List.mem_singleton] at h; subst h; exact (hy hk).elim
theorem oGet_mem {a : ByteArray} {x : OpV} : ∀ {l : List (ByteArray × OpV)}, (l.map Prod.fst).Nodup → (a, x) ∈ l → oGet a l = some x
  | [], _, h => by cases h
  | p :: l, hn, h => by
    simp only [List.map_cons, List.nodup_cons] at hn
    simp only [oGet]
    rcases List.mem_cons.1 h with h' | h'
    · rw [← h']; simp
    · rw [if_neg (show ¬ a = p.1 from fun e => hn.1 (by rw [← e]; exact List.mem_map.2 ⟨_, h', rfl⟩))]
      exact oGet_mem hn.2 h'
theorem ops_perm {xs done : List OpV} {l : List (ByteArray × OpV)} {kvs : List KV} (hs : SortK kvs) (h8 : ∀ x ∈ xs, B8 x.key) (hl : ∀ key, B8 key → oGet (strK key) l = lastOp xs key) (hn : (l.map Prod.fst).Nodup) (hk : ∀ p ∈ l, p.1 = strK p.2.key ∧ p.2 ∈ xs)
    (hd : ∀ x ∈ done, (strK x.key, x) ∈ l) (hp : (done.map fun x => strK x.key).Perm (l.map Prod.fst)) : opsL done kvs = opsL xs kvs := by
  refine sort_ext (opsL_sort hs) (opsL_sort hs) fun key => ?_
  rw [kvGet_opsL, kvGet_opsL]
  have : lastOp done key = lastOp xs key := by
    cases h1 : lastOp done key with
    | some x =>
      obtain ⟨a, rfl⟩ := lastOp_mem h1
      have hm := hd x a
      have hb := h8 x (hk _ hm).2
      rw [← hl x.key hb, oGet_mem hn hm]
    | none =>
      cases h2 : lastOp xs key with
      | none => rfl
      | some y =>
        obtain ⟨a, rfl⟩ := lastOp_mem h2
        have hb := h8 y a
        have h3 := hl y.key hb
        rw [h2] at h3
        have hm : strK y.key ∈ l.map Prod.fst := by
          refine Classical.byContradiction fun hc => ?_
          have : oGet (strK y.key) l = none := by
            clear hl hn hk hd hp h3
            induction l with
            | nil => rfl
            | cons p l ih =>
              simp only [List.map_cons, List.mem_cons, not_or] at hc
              simp only [oGet]; rw [if_neg hc.1]; exact ih hc.2
          rw [this] at h3; cases h3
        obtain ⟨x, hx, he⟩ := List.mem_map.1 (hp.mem_iff.2 hm)
        have hxk : x.key = y.key := strK_inj (h8 x (hk _ (hd x hx)).2) hb he
        obtain ⟨z, hz⟩ := lastOp_some hx hxk
        rw [h1] at hz; cases hz
  rw [this]
structure ChgW (M M' : Mm) (k : Nat) (ds ns : List Rf) : Prop where
  commit : M'.commit = M.commit
  gen : M'.gen = M.gen
  cnt : ∀ q, (live M'.pages).count q + ds.count q = (live M.pages).count q + ns.count q
  kp : ∀ n p, M.f n = some p → p.r.c ≠ M.commit → ∃ p', M'.f n = some p' ∧ p'.r = p.r ∧ p'.t = p.t ∧ p'.k = p.k ∧ p'.v = p.v ∧ p'.pay = p.pay
  len : M'.pages.length ≤ M.pages.length + k
theorem Chg.w {M M' : Mm} {k : Nat} {ds ns : List Rf} (h : Chg M M' k ds ns) : ChgW M M' k ds ns := ⟨h.commit, h.gen, h.cnt, fun n p hp hc => h.kp n p hp (.inr hc), h.len⟩
theorem ChgW.trans {M0 M1 M2 : Mm} {k1 k2 : Nat} {a b c : List Rf} (h1 : ChgW M0 M1 k1 a b) (h2 : ChgW M1 M2 k2 b c) : ChgW M0 M2 (k1 + k2) a c := by
  refine ⟨h2.commit.trans h1.commit, h2.gen.trans h1.gen, fun q => by have := h1.cnt q; have := h2.cnt q; omega, fun n p hp hc => ?_, by have := h1.len; have := h2.len; omega⟩
  obtain ⟨p1, e1, e2, e3, e4, e5, e6⟩ := h1.kp n p hp hc
  obtain ⟨p2, f1, f2, f3, f4, f5, f6⟩ := h2.kp n p1 e1 (by rw [e2, h1.commit]; exact hc)
  exact ⟨p2, f1, f2.trans e2, f3.trans e3, f4.trans e4, f5.trans e5, f6.trans e6⟩
theorem ChgW.le {M M' : Mm} {k k' : Nat} {ds ns : List Rf} (h : ChgW M M' k ds ns) (hk : k ≤ k') : ChgW M M' k' ds ns := ⟨h.commit, h.gen, h.cnt, h.kp, by have := h.len; omega⟩
theorem ChgW.sub {M M' : Mm} {k : Nat} {ds ns : List Rf} (h : ChgW M M' k ds ns) (hs : Sub ds M) : Sub ns M' := fun q => by have := h.cnt q; have := hs q; omega
end Go.V
namespace Go.Proofs.YtcamoanigdfihaaGreat
open Go.V
section
variable {w : World} {T : Nat → Option Nat} {m : MemV} {M : Mm}
structure ApS (w w' : World) (T T' : Nat → Option Nat) (m m' : MemV) (M M' : Mm) (t : Int) (n : Nat) (kvs' : List KV) (ps ps' : List Rf) (r' : Rf) (lv' : Nat) : Prop where
  mem : MemR w'.heap T' m' M'
  bm : m'.bm = m.bm
  tg : Tg w T T'
  ext : Ext (Ts T) w w'
  tree : TreeT M'.f t r' lv' kvs' ps'
  lv : lv' ≤ 30
  chg : ChgW M M' (60 * n) ps ps'
theorem opCs_len (l : List OpV) : ∀ x ∈ l, (OpV.cs x).length = 3 := fun _ _ => rfl
set_option maxHeartbeats 4000000 in
theorem apply_spec {t : Int} {lev : Nat} {r : Rf} {kvs : List KV} {ps : List Rf} {ops : Sl} {xs : List OpV} {K : Int → Int → Int → Int → Int → World → Prop} (R : MemR w.heap T m M) (hT : TreeT M.f t r lev kvs ps) (hl30 : lev ≤ 30) (hs : Sub ps M) (hops : Rd w.heap ops 3 (xs.flatMap OpV.cs)) (hx : ∀ x ∈ xs, OpR w.heap T x) (hl : xs.length ≤ 12) (hn : M.pages.length ≤ 900000)
    (kbad : ∀ w', (∃ x ∈ xs, ¬ x.fit) → Ext No w w' → K 0 0 0 0 2 w')
    (k : ∀ (r' : Rf) (lv' : Nat) ps' T' m' M' w', (∀ x ∈ xs, x.fit) → ApS w w' T T' m m' M M' t xs.length (opsL xs kvs) ps ps' r' lv' → K r'.p r'.c r'.g lv' 0 w') : C_tree_Apply (srcV m) t r.p r.c r.g lev ops w K := by
  apply S_tree_Apply
  have sup : ∀ q, w.heap.size ≤ q → T q = none := fun q hq => R.supT hq
  have nT : ∀ {q}, T q = none → ¬ Ts T q := fun h h' => h' h
  refine NewW.mk fun b w1 n1 => NewW.mk fun b1 w2 n2 => ⟨trivial, If.no ?_⟩
  refine NewW.mk fun b2 w4 n4 => NewW.mk fun b3 w5 n5 => St1.mk n5.get (by simp) rfl fun w6 h6 => ?_
  have hb := n1.at_; have hb1 := n2.at_; have hb2 := n4.at_; have hb3 := n5.at_
  have z1 := n1.size; have z2 := n2.size; have z4 := n4.size; have z5 := n5.size
  have x56 : Ext (· = b3) w5 w6 := h6.ext
  have z6 : w6.heap.size = w5.heap.size := h6.size
  have x05 : Ext No w w5 := ((n1.ext.no n2.ext).no n4.ext).no n5.ext
  have x06 : Ext No w w6 := x05.trans x56 fun q hq h => by omega
  have g6 := get_ext (get_no (get_no (get_no n1.get n2.ext) n4.ext) n5.ext) x56 (by omega)
  have g16 := get_ext (get_no (get_no n2.get n4.ext) n5.ext) x56 (by omega)
  have gm6 := get_ext (get_no n4.get n5.ext) x56 (by omega)
  have g36 : w6.heap[b3]? = some (.cells [.map (some b2)].toArray 155 (0, 0)) := h6.get n5.get
  have hops6 := hops.no x06
  have hol : ops.len = xs.length := by have := hops.len; rw [flat_len' (opCs_len xs)] at this; omega
  refine ⟨fun q tt w' => ∃ (j : Nat) (l : List (ByteArray × OpV)), tt = j ∧ j ≤ xs.length ∧ q = xs.length - j ∧ MapR w'.heap Value.string b2 (opM l) ∧ (l.map Prod.fst).Nodup ∧ l.length ≤ j ∧ Ext (· = b2) w6 w' ∧ (∀ x ∈ xs.take j, x.fit) ∧ (∀ key, B8 key → oGet (strK key) l = lastOp (xs.take j) key) ∧ (∀ p ∈ l, p.1 = strK p.2.key ∧ p.2 ∈ xs),
    ⟨xs.length, 0, [], rfl, by omega, by omega, ⟨#[], 0, gm6, rfl, BornOK.nil⟩, .nil, by simp, Ext.refl _ _, by simp, fun key _ => by simp [oGet, lastOp], by simp⟩, ?_⟩
  rintro _ m0 tt w7 ⟨j, l, rfl, hj, hq, hm, hnd, hlj, x67, hfit, hlast, hmem⟩
  have x07 : Ext No w w7 := x06.trans x67 fun q hq h => by omega
  have g7 := get_ext g6 x67 (by omega)
  have g17 := get_ext g16 x67 (by omega)
  have g37 := get_ext g36 x67 (by omega)
  have z67 := x67.size
  refine If.dec (fun h => ?_) fun h => ?_
  · have hjl : j < xs.length := by omega
    have hops7 := hops.no x07
    refine Ix.elem hops7 (opCs_len xs) (by decide) (by omega) h fun bb o hi2 _ hcell => ?_
    simp only [Int.toNat_natCast] at hi2 hcell
    have hxj : xs[j] ∈ xs := List.getElem_mem hjl
    refine ⟨_, hcell 0 _ rfl, _, hcell 1 _ rfl, _, hcell 2 _ rfl, new_set (vs := OpV.cs xs[j]) rfl rfl (by simp [OpV.cs, oneC]) fun b4 w9 g9 hb4 z9 x9 => ?_⟩
    have r9 := (hx _ hxj).ext (x07.no x9) fun q _ h => h.elim
    refine ⟨_, Cell.lst g9 rfl, _, Cell.lst g9 rfl, _, Cell.lst g9 rfl, opRight_spec (RdB.len r9.k) (RdB.len r9.v) fun w10 x10 => If.not (If.dec (fun hft => ?_) fun hft => ?_)⟩
    · have g10 := get_no g9 x10
      have x710 : Ext No w7 w10 := x9.no x10
      have g310 := get_no g37 x710
      have r10 := r9.ext x10 fun q _ h => h.elim
      have hm10 := hm.ext x710 fun h => h
      obtain ⟨w12, hup, hm12, x12, z12⟩ := run_mapUpdate (P := Tryz.prog) (mt := 155) (kt := 9) (et := 58) (a := strK xs[j].key) (v := xs[j].agg) str9 (by kernel_rfl) hm10
      rw [oPut_M] at hm12
      have hkeys := oPut_keys (strK xs[j].key) xs[j] hnd
      refine ⟨_, Cell.lst g310 rfl, _, Cell.lst g10 rfl, StrC.mk r10.k (fun bb o v hv => by show w10.cell? _ = _; rw [cell_eq]; exact hv) ⟨_, Cell.lst g10 rfl, _, Cell.lst g10 rfl, _, Cell.lst g10 rfl, w12, hup, Ar.i64 (by omega) ⟨xs.length - (j + 1), by omega, j + 1, oPut (strK xs[j].key) xs[j] l, by omega, by omega, rfl, hm12, hkeys.1, by have := hkeys.2.2; omega, ?_, fun x hx' => ?_, fun key hk => ?_, fun p hp => ?_⟩⟩⟩
      · exact (x67.no x710).trans x12 fun q _ h => h
      · rw [List.take_add_one, List.getElem?_eq_getElem hjl] at hx'
        rcases List.mem_append.1 hx' with h' | h'
        · exact hfit x h'
        · simp at h'; rw [h']; exact hft
      · rw [oGet_put, List.take_add_one, List.getElem?_eq_getElem hjl, Option.toList_some, lastOp_snoc]
        by_cases he : xs[j].key = key
        · rw [if_pos he, if_pos (by rw [he])]
        · rw [if_neg he, if_neg fun e => he (strK_inj hk r9.k8 e).symm]; exact hlast key hk
      · have : ∀ {l : List (ByteArray × OpV)} {p}, p ∈ oPut (strK xs[j].key) xs[j] l → p = (strK xs[j].key, xs[j]) ∨ p ∈ l := fun {l p} => by
          induction l with
          | nil => intro h; simp [oPut] at h; exact .inl h
          | cons y l ih =>
            intro h
            simp only [oPut] at h
            split at h
            · rcases List.mem_cons.1 h with h | h
              · exact .inl h
              · exact .inr (List.mem_cons_of_mem _ h)
            · rcases List.mem_cons.1 h with h | h
              · exact .inr (by rw [h]; exact List.mem_cons_self)
              · exact (ih h).imp id (List.mem_cons_of_mem _)
        rcases this hp with h' | h'
        · rw [h']; exact ⟨rfl, hxj⟩
        · exact hmem p h'
    · have x710 : Ext No w7 w10 := x9.no x10
      refine ret4 (get_no g17 x710) rfl fun w11 x11 z11 => kbad w11 ⟨_, hxj, hft⟩ ?_
      exact (x07.no x710).trans x11 fun q hq h => by omega
  · have hjl : j = xs.length := by omega
    rw [List.take_of_length_le (by omega)] at hfit hlast
    refine ⟨_, Cell.lst g37 rfl, ?_⟩
    apply S_maps_Keys_map_string_api_Op_string_api_Op
    refine NewW.mk fun bk w13 n13 => ?_
    have hbk := n13.at_; have z13 := n13.size
    apply S_slices_SortedFunc_string
    apply S_slices_Collect_string
    refine appendKeys_spec n13.get (hm.ext n13.ext fun h => h) (by rw [List.length_map]; omega) fun s ks w14 hks o14 x14 => ?_
    have hks' : ks.Perm (l.map Prod.fst) := by simpa [opM, List.map_map, Function.comp_def] using hks
    have x714 : Ext No w7 w14 := n13.ext.no x14
    have slt : ∀ q, s.blk = some q → w13.heap.size ≤ q ∧ q < w14.heap.size := fun q hq => o14.lt hq
    have g314 := get_no g37 x714
    have hm14 := hm.ext x714 fun h => h
    have hcmp : CmpP w14 s (.func (.func 71) #[] #[.pointer (some ⟨b3, 0, none⟩)]) := cmp_ok g314 hm14 (fun h => by have := slt _ h; omega) (fun h => by have := slt _ h; omega)
    refine sortFunc_spec hcmp o14 (by have := hks'.length_eq; rw [List.length_map] at this; omega) fun L w15 hL o15 x15 => ⟨rfl, new_set rfl rfl (by simp [oneC]) fun b5 w16 g516 hb5 z16 x16 => ?_⟩
    have x15' : Ext (fun q => s.blk = some q) w14 w15 := x15
    have s15 := x15'.size; have s14 := x714.size
    have nbs : ∀ q, q < w13.heap.size → ¬ s.blk = some q := fun q hq h => by have := slt q h; omega
    have x016 : Ext No w w16 := ((x07.no x714).trans x15' fun q hq h => by have := slt q h; have := x07.size; omega).no x16
    have g16' := get_no (get_ext (get_no g7 x714) x15' (nbs _ (by omega))) x16
    have g116 := get_no (get_ext (get_no g17 x714) x15' (nbs _ (by omega))) x16
    have g316 := get_no (get_ext g314 x15' (nbs _ (by omega))) x16
    have hm16 := (hm14.ext x15' (nbs _ (by omega))).ext x16 fun h => h
    have o16 := o15.no x16
    have hLp : L.Perm (l.map Prod.fst) := hL.trans hks'
    have hLl : L.length ≤ xs.length := by have := hLp.length_eq; rw [List.length_map] at this; omega
    have hsl : s.len = L.length := by have := o15.len; simp only [List.length_map, Nat.mul_one] at this; omega
    have s016 := x016.size
    refine ⟨fun q tt w' => ∃ (j : Nat) (done : List OpV) (T' : Nat → Option Nat) (m' : MemV) (M' : Mm) (r' : Rf) (lv' : Nat) (ps' : List Rf), tt = j ∧ j ≤ L.length ∧ q = L.length - j ∧ done.map (fun x => strK x.key) = L.take j ∧ (∀ x ∈ done, (strK x.key, x) ∈ l) ∧ MemR w'.heap T' m' M' ∧ m'.bm = m.bm ∧ Tg w16 T T' ∧ Ext (fun q => Ts T q ∨ q = b) w16 w' ∧ w'.heap[b]? = some (.cells [.int .u32 r'.p, .int .u64 r'.c, .int .u16 r'.g, .int .u8 lv'].toArray 47 (0, 0)) ∧ TreeT M'.f t r' lv' (opsL done kvs) ps' ∧ lv' ≤ 30 ∧ ChgW M M' (60 * j) ps ps',
      ⟨L.length, 0, [], T, m, M, r, lev, ps, rfl, by omega, by omega, rfl, by simp, R.no x016, rfl, fun _ _ => rfl, Ext.refl _ _, g16', hT, hl30, ((Chg.refl M).as (by omega) (by simp) (by simp)).w⟩, ?_⟩
    rintro _ m0 tt w17 ⟨j2, done, T', m', M', r', lv', ps', rfl, hj2, hq2, hdone, hdl, R17, hbm, tg, x17, gb17, tr, hlv, cg⟩
    have nS : ∀ {q}, w.heap.size ≤ q → q ≠ b → ¬ (Ts T q ∨ q = b) := fun h1 h2 h => h.elim (nT (sup _ h1)) h2
    have g517 := get_ext g516 x17 (nS (by omega) (by omega))
    have g117 := get_ext g116 x17 (nS (by omega) (by omega))
    have g317 := get_ext g316 x17 (nS (by omega) (by omega))
    have hm17 := hm16.ext x17 (nS (by omega) (by omega))
    have o17 := o16.ext x17 fun q hq => nS (by have := slt q hq; omega) (by have := slt q hq; omega)
    have s17 := x17.size
    have tT : ∀ q, q < w16.heap.size → T' q = T q := tg
    refine If.dec (fun h2 => ?_) fun h2 => ?_
    · have hjL : j2 < L.length := by omega
      refine Ix.str o17 (by omega) (by simpa using hjL) fun bb _ hc => ?_
      simp only [Int.toNat_natCast] at hc
      have hin : L[j2] ∈ l.map Prod.fst := hLp.mem_iff.1 (List.getElem_mem hjL)
      obtain ⟨x, hox, hxl⟩ := oGet_some hin
      have hpx := hmem _ hxl
      have hxx : x ∈ xs := hpx.2
      have hkey : L[j2] = strK x.key := hpx.1
      have hlook := opLook hm17 L[j2]
      rw [hox] at hlook
      have x017 : Ext (fun q => Ts T q ∨ q = b) w w17 := x016.of_no.trans x17 fun _ _ h => h
      have rx := ((hx x hxx).tg (T' := T') fun q hq => tT q (by omega)).ext x017 fun q hq h => by rw [tT q (by omega)]; exact h.elim id (by omega)
      have hf := hfit x hxx
      refine ⟨_, hc, _, Cell.lst g517 rfl, _, Cell.lst g517 rfl, _, Cell.lst gb17 rfl, _, Cell.lst gb17 rfl, _, Cell.lst gb17 rfl, _, Cell.lst gb17 rfl, _, Cell.lst g317 rfl, x.k, x.v, x.d, w17, hlook, ?_⟩
      rw [← srcV_eq hbm]
      have tb' : T' b = none := by rw [tT b (by omega)]; exact sup b (by omega)
      refine change_spec R17 tr (cg.sub hs) ⟨rx.k, rx.v, rx.k8, rx.v8, hf.1, hf.2.1, fun q hq => (rx.ku q hq).1, fun q hq => (rx.vu q hq).1⟩ (by have := cg.len; omega) fun r2 lv2 ps2 T2 m2 M2 w19 C => ?_
      have gb19 := get_ext gb17 C.ext (fun h => h tb')
      have s19 := C.ext.size
      have tb2 : T2 b = none := by rw [C.tg b (by omega)]; exact tb'
      refine st_all gb19 rfl rfl (by simp [oneC]) fun w20 g20 x20 z20 => If.bne (fun h => (h rfl).elim) fun _ => Ar.i64 (by omega) ?_
      have x20' : Ext (· = b) w19 w20 := x20
      refine ⟨L.length - (j2 + 1), by omega, j2 + 1, done ++ [x], T2, m2, M2, r2, lv2, ps2, by omega, by omega, rfl, ?_, fun y hy => ?_, C.mem.ext x20' fun q hq => by rw [hq]; exact tb2, C.bm.trans hbm, fun q hq => by rw [C.tg q (by omega)]; exact tT q hq, ?_, g20, by rw [opsL_snoc]; exact C.tree, C.lv, ?_⟩
      · rw [List.map_append, hdone, List.take_add_one, List.getElem?_eq_getElem hjL, Option.toList_some]
        simp [hkey]
      · rcases List.mem_append.1 hy with h' | h'
        · exact hdl y h'
        · rw [List.mem_singleton] at h'; rw [h', ← hkey]; exact hxl
      · exact (x17.trans C.ext fun q hq h => .inl (by show T q ≠ none; rw [← tT q hq]; exact h)).trans x20' fun q hq h => .inr h
      · exact (cg.trans C.chg.w).le (by omega)
    · have hjL : j2 = L.length := by omega
      rw [hjL, List.take_length] at hdone
      have heq : opsL done kvs = opsL xs kvs := ops_perm hT.sort (fun x hx' => (hx x hx').k8) hlast hnd hmem hdl (by rw [hdone]; exact hLp)
      rw [heq] at tr
      refine ⟨_, Cell.lst gb17 rfl, _, Cell.lst gb17 rfl, _, Cell.lst gb17 rfl, _, Cell.lst gb17 rfl, ret4 g117 rfl fun w22 x22 z22 => ?_⟩
      have x22' : Ext (· = b1) w17 w22 := x22
      refine k r' lv' ps' T' m' M' w22 hfit ⟨R17.ext x22' fun q hq => by rw [hq, tT b1 (by omega)]; exact sup b1 (by omega), hbm, fun q hq => tT q (by omega), ?_, tr, hlv, cg.le (by omega)⟩
      exact (x016.of_no.trans x17 fun q hq h => h.elim id fun h => by omega).trans x22' fun q hq h => by omega
end
end Go.Proofs.YtcamoanigdfihaaGreat
set_option maxRecDepth 100000
namespace Go.V
def refCs (r : Rf) : List Value := [.int .u32 r.p, .int .u64 r.c, .int .u16 r.g]
theorem refCs_len (l : List Rf) : ∀ x ∈ l, (refCs x).length = 3 := fun _ _ => rfl
def refsM (M : Mm) (b : Bool) : List Rf := (M.pages.filter fun p => p.2.waits == b).map fun p => p.2.r
theorem refsM_live (M : Mm) : refsM M false = live M.pages := by
  unfold refsM live; congr 2; funext p; cases p.2.waits <;> rfl
def refG (l : List (Int × Pg)) (b : Bool) (n : Int) : Option Rf := (pgA n l).bind fun p => if p.waits == b then some p.r else none
theorem refG_all {M : Mm} (hn : (M.pages.map Prod.fst).Nodup) (b : Bool) : (M.pages.map Prod.fst).filterMap (refG M.pages b) = refsM M b := by
  have h : ∀ p ∈ M.pages, refG M.pages b p.1 = if p.2.waits == b then some p.2.r else none := fun p hp => by
    unfold refG; rw [pgA_of_mem hn hp]; rfl
  unfold refsM
  revert h
  generalize refG M.pages b = g
  generalize M.pages = l
  intro h
  induction l with
  | nil => rfl
  | cons p l ih =>
    have h1 := h p (by simp)
    have h2 := ih fun q hq => h q (List.mem_cons_of_mem _ hq)
    rw [List.map_cons, List.filter_cons]
    cases hw : (p.2.waits == b) with
    | true => rw [hw, if_pos rfl] at h1; rw [List.filterMap_cons, h1, if_pos rfl, List.map_cons, h2]
    | false => rw [hw] at h1; rw [List.filterMap_cons, h1]; simpa using h2
end Go.V
namespace Go.Proofs.YtcamoanigdfihaaGreat
open Go.V
section
variable {w : World} {T : Nat → Option Nat} {m : MemV} {M : Mm}
set_option maxHeartbeats 2000000 in
theorem refs_spec {waits : Bool} {K : Sl → World → Prop} (R : MemR w.heap T m M) (hn : M.pages.length ≤ 65535)
    (k : ∀ s (rs : List Rf) w', rs.Perm (refsM M waits) → Own w'.heap w.heap.size 36 3 s (rs.flatMap refCs) → Ext No w w' → K s w') : C_tree_Mem_refs (some ⟨m.bm, 0, none⟩) waits w K := by
  apply S_tree_Mem_refs
  refine If.no ⟨_, rfl, some m.r, Cell.lst R.mem rfl, ?_⟩
  apply S_maps_Keys_map_uint32_tree_page_uint32_tree_page
  refine NewW.mk fun bk w1 n1 => ?_
  apply S_slices_Sorted_uint32
  apply S_slices_Collect_uint32
  refine appendKeysU_spec n1.get (R.map.ext n1.ext fun h => h) (by rw [List.length_map]; omega) fun s ks w2 hks o2 x2 => ?_
  have hks' : ks.Perm (M.pages.map Prod.fst) := by simpa [MemV.vals, List.map_map, Function.comp_def] using hks
  have x02 : Ext No w w2 := n1.ext.no x2
  have s1 := n1.size; have s2 := x2.size
  have hkl : ks.length = M.pages.length := by have := hks'.length_eq; rwa [List.length_map] at this
  refine sortFunc_specU o2 (by omega) fun L w3 hL o3 x3 => ?_
  have x3' : Ext (fun q => s.blk = some q) w2 w3 := x3
  have slt : ∀ q, s.blk = some q → w1.heap.size ≤ q ∧ q < w2.heap.size := fun q hq => o2.lt hq
  have x03 : Ext No w w3 := x02.trans x3' fun q hq h => by have := slt q h; omega
  have hLp : L.Perm (M.pages.map Prod.fst) := hL.trans hks'
  have hLl : L.length = M.pages.length := by have := hLp.length_eq; rwa [List.length_map] at this
  have hsl : s.len = L.length := by have := o3.len; simp only [List.length_map, Nat.mul_one] at this; omega
  have s03 := x03.size
  refine ⟨fun q out tt w' => ∃ (j : Nat) (rs : List Rf), tt = j ∧ j ≤ L.length ∧ q = L.length - j ∧ rs = (L.take j).filterMap (refG M.pages waits) ∧ rs.length ≤ j ∧ Own w'.heap w.heap.size 36 3 out (rs.flatMap refCs) ∧ (∀ q, out.blk = some q → w3.heap.size ≤ q) ∧ Ext No w3 w', ⟨L.length, 0, [], rfl, by omega, by omega, by simp, by simp, Own.nil _ _ _ _, by simp [Sl.blk], Ext.refl _ _⟩, ?_⟩
  rintro _ m0 out tt w4 ⟨j, rs, rfl, hj, hq, hrs, hrl, oo, ob, x34⟩
  have x04 := x03.no x34
  have R4 := R.no x04
  have o4 := o3.no x34
  have s34 := x34.size
  refine If.dec (fun h => ?_) fun h => ?_
  · have hjL : j < L.length := by omega
    refine Ix.u32 o4 (by omega) (by simpa using hjL) fun bb _ hc => ?_
    simp only [Int.toNat_natCast] at hc
    have hin : L[j] ∈ M.pages.map Prod.fst := hLp.mem_iff.1 (List.getElem_mem hjL)
    obtain ⟨p, hp, hpn⟩ := List.mem_map.1 hin
    have hpg : pgA L[j] M.pages = some p.2 := by rw [← hpn]; exact pgA_of_mem R.nd hp
    have hlook := mem_look R4 L[j]
    rw [hpg] at hlook
    have hP := R4.find hpg
    have hg : refG M.pages waits L[j] = if p.2.waits == waits then some p.2.r else none := by unfold refG; rw [hpg]; rfl
    have htk : (L.take (j + 1)).filterMap (refG M.pages waits) = rs ++ (if p.2.waits == waits then [p.2.r] else []) := by
      rw [List.take_add_one, List.getElem?_eq_getElem hjL, Option.toList_some, List.filterMap_append, ← hrs, List.filterMap_cons, hg]
      cases p.2.waits == waits <;> rfl
    refine ⟨_, hc, _, rfl, some m.r, Cell.lst R4.mem rfl, _, w4, hlook, _, rfl, _, Cell.lst hP.blk rfl, If.cases (fun hw => ?_) fun hw => ?_⟩
    · rw [hw] at htk
      refine ⟨_, rfl, some m.r, Cell.lst R4.mem rfl, _, w4, hlook, _, rfl, _, Cell.lst hP.blk rfl, _, Cell.lst hP.blk rfl, _, Cell.lst hP.blk rfl, NewW.mk fun b w6 n6 => ?_⟩
      have oo6 := oo.no n6.ext
      have hol : out.len = rs.length := by have := oo6.len; rw [flat_len' (refCs_len rs)] at this; omega
      have oy : Own w6.heap w4.heap.size 36 3 ⟨some ⟨b, 0, none⟩, 1, 1⟩ (refCs p.2.r) := Own.new n6 rfl (by simp [refCs, oneC])
      have z6 := n6.size
      refine app_api_Ref oo6 (by omega) oy.rd.src (by show (out.len + 1) * 24 ≤ _; omega) fun s7 w7 o7 l7 x7 hbl => Ar.i64 (by omega) ?_
      have x7' : Ext (fun q => out.blk = some q) w6 w7 := x7
      refine ⟨L.length - (j + 1), by omega, j + 1, rs ++ [p.2.r], by omega, by omega, rfl, by rw [htk]; rfl, by simp; omega, by rw [List.flatMap_append]; simpa using o7, fun q hq => ?_, (x34.no n6.ext).trans x7' fun q hq h => by have := ob q h; omega⟩
      rcases hbl with h3 | ⟨c', h3, h4⟩
      · rw [h3] at hq; exact ob q hq
      · rw [h3] at hq; cases hq; omega
    · rw [hw] at htk
      exact Ar.i64 (by omega) ⟨L.length - (j + 1), by omega, j + 1, rs, by omega, by omega, rfl, by rw [htk]; simp, by omega, oo, ob, x34⟩
  · have hjL : j = L.length := by omega
    refine k out rs w4 ?_ oo x04
    rw [hrs, hjL, List.take_length, ← refG_all R.nd waits]
    exact hLp.filterMap _
theorem pages_spec {K : Sl → World → Prop} (R : MemR w.heap T m M) (hn : M.pages.length ≤ 65535)
    (k : ∀ s (rs : List Rf) w', rs.Perm (live M.pages) → Own w'.heap w.heap.size 36 3 s (rs.flatMap refCs) → Ext No w w' → K s w') : C_tree_Mem_Pages (some ⟨m.bm, 0, none⟩) w K :=
  S_tree_Mem_Pages (refs_spec R hn fun s rs w' h1 h2 h3 => k s rs w' (refsM_live M ▸ h1) h2 h3)
end
end Go.Proofs.YtcamoanigdfihaaGreat
set_option maxRecDepth 100000
namespace Go.Proofs.YtcamoanigdfihaaGreat
open Go.V
section
variable {w : World} {T : Nat → Option Nat} {m : MemV} {M : Mm}
theorem conv40 {b n c : Nat} {cs : Array Value} {t : TypeId} {fz : Nat × Nat} (hb : w.heap[b]? = some (.cells cs t fz)) : ∃ w', Sem.run Tryz.prog (convert 40 40 (.slice (some ⟨b, 0, none⟩) n c)) w = .ok (.slice (some ⟨b, 0, none⟩) n c) w' ∧ Ext (· = b) w w' ∧ w'.heap.size = w.heap.size ∧ ∃ fz', w'.heap[b]? = some (.cells cs t fz') := by
  have h40 : Tryz.prog.underlying 40 = some (.slice 5) := by kernel_rfl
  have h5 : Tryz.prog.underlying 5 = some (.int .u8) := by kernel_rfl
  have hsh : w.shape? b = some (t, cs.size) := by simp [World.shape?, hb]
  refine ⟨w.freeze { block := b, off := cs.size } 1, ?_, ⟨rfl, rfl, rfl, ?_, fun i hi hne => ?_⟩, ?_, ?_⟩
  · simp [convert, run_und h40, run_und h5, markStringish, shape, Sem.run, hsh, freeze]
  · simp [World.freeze]
  · have hne' : ¬ b = i := fun e => hne e.symm
    simp [World.freeze, Array.getElem?_modify, hne']
  · simp [World.freeze]
  · obtain ⟨lo, hi⟩ := fz
    simp [World.freeze, Array.getElem?_modify, hb]
theorem getNil {t p c g v : Int} {key : Sl} {K : Sl → Int → World → Prop} (k : ∀ w', Ext No w w' → K ⟨none, 0, 0⟩ 1 w') : C_tree_Get .nilIface t p c g v key w K := by
  apply S_tree_Get
  exact NewW.mk fun b w1 n1 => ⟨fun _ => False, ⟨trivial, If.yes (k w1 n1.ext)⟩, fun _ _ h => h.elim⟩
theorem applyNil {t p c g v : Int} {ops : Sl} {K : Int → Int → Int → Int → Int → World → Prop} (k : ∀ w', Ext No w w' → K 0 0 0 0 1 w') : C_tree_Apply .nilIface t p c g v ops w K := by
  apply S_tree_Apply
  refine NewW.mk fun b w1 n1 => NewW.mk fun b1 w2 n2 => ⟨trivial, If.yes (ret4 n2.get rfl fun w3 x3 z3 => k w3 ?_)⟩
  have x3' : Ext (· = b1) w2 w3 := x3
  have hb1 := n2.at_; have z1 := n1.size
  exact (n1.ext.no n2.ext).trans x3' fun q hq h => by omega
theorem labelsNil {t p c g v : Int} {K : Sl → Int → World → Prop} (k : ∀ w', Ext No w w' → K ⟨none, 0, 0⟩ 1 w') : C_tree_Labels .nilIface t p c g v w K := by
  apply S_tree_Labels
  exact NewW.mk fun b w1 n1 => ⟨trivial, If.yes (k w1 n1.ext)⟩
theorem turnNil {t p c g v gen most : Int} {K : Int → Int → Int → Int → Int → Int → World → Prop} (k : ∀ w', Ext No w w' → K 0 0 0 0 0 1 w') : C_tree_Turn .nilIface t p c g v gen most w K := by
  apply S_tree_Turn
  refine NewW.mk fun b w1 n1 => NewW.mk fun b1 w2 n2 => NewW.mk fun b2 w3 n3 => ⟨trivial, If.yes (ret4 n3.get rfl fun w4 x4 z4 => k w4 ?_)⟩
  have x4' : Ext (· = b2) w3 w4 := x4
  have hb2 := n3.at_; have z1 := n1.size; have z2 := n2.size
  exact ((n1.ext.no n2.ext).no n3.ext).trans x4' fun q hq h => by omega
theorem clearNil {t p c g v : Int} {K : Int → World → Prop} (k : ∀ w', Ext No w w' → K 1 w') : C_tree_Clear .nilIface t p c g v w K := by
  apply S_tree_Clear
  refine NewW.mk fun b w1 n1 => ⟨_, Cell.lst n1.get rfl, _, Cell.lst n1.get rfl, _, Cell.lst n1.get rfl, _, Cell.lst n1.get rfl, labelsNil fun w2 x2 => ?_⟩
  refine ⟨fun _ e i w' => e = 1 ∧ i = 0 ∧ Ext No w w', ⟨0, rfl, rfl, n1.ext.no x2⟩, ?_⟩
  rintro _ m0 e i w3 ⟨rfl, rfl, x3⟩
  exact If.dec (fun h => by simp at h) fun _ => k w3 x3
theorem treeGet_other {t t' : Int} {lev : Nat} {r : Rf} {ks : Sl} {key : List Int} {kvs : List KV} {ps : List Rf} {K : Sl → Int → World → Prop} (R : MemR w.heap T m M) (hr : r ≠ .z) (hS : SubT M.f t lev r kvs ps) (hne : t' ≠ t) (hk : RdB w.heap ks key) (kl : 1 ≤ key.length ∧ key.length ≤ 32) (k : ∀ w', Ext No w w' → K ⟨none, 0, 0⟩ 150 w') : C_tree_Get (srcV m) t' r.p r.c r.g lev ks w K := by
  apply S_tree_Get
  have hkl := RdB.len hk
  refine NewW.mk fun b w1 n1 => ⟨fun w' => w' = w1, ⟨trivial, If.no (If.beq (fun h => by omega) fun h => If.dec (fun h' => by omega) fun h' => rfl)⟩, ?_⟩
  rintro _ w2 rfl
  refine ⟨rfl, new_set rfl rfl (by simp [oneC]) fun b1 w4 g4 hb1 z4 x4 => ?_⟩
  have x04 := n1.ext.no x4
  have gb4 := get_no n1.get x4
  refine ⟨fun _ w' => w' = w4, ⟨0, rfl⟩, ?_⟩
  rintro _ m0 w5 rfl
  refine ⟨_, Cell.lst gb4 rfl, _, Cell.lst gb4 rfl, _, Cell.lst gb4 rfl, _, Cell.lst gb4 rfl, ?_⟩
  rw [z_iff, decide_eq_false hr]
  refine If.yes ⟨_, Cell.lst g4 rfl, _, Cell.lst g4 rfl, _, Cell.lst gb4 rfl, _, Cell.lst gb4 rfl, _, Cell.lst gb4 rfl, _, Cell.lst gb4 rfl, ?_⟩
  obtain ⟨_, _, _, p, hp, _, hpt, _⟩ := SubT.at_ hS
  have hp' : pgA r.p M.pages = some p := hp
  have no : ∀ p', pgA r.p M.pages = some p' → p'.t = t' → False := fun p' h1 h2 => by rw [hp'] at h1; cases h1; exact hne (h2.symm.trans hpt)
  refine node_spec (l := []) (R.no x04) (fun p' s L w' h1 h2 => (no p' h1 h2).elim) (fun p' h1 h2 => (no p' h1 h2).elim) (fun w' h1 => by rw [hp'] at h1; cases h1) (fun p' w6 _ _ x6 => ?_) (fun p' w' h1 h2 => (no p' h1 h2).elim)
  refine new_set rfl rfl (by simp [oneC]) fun b2 w8 g8 hb2 z8 x8 => If.bne (fun _ => k _ ((x04.no x6).no x8)) fun h => by omega
end
end Go.Proofs.YtcamoanigdfihaaGreat
set_option maxRecDepth 100000
namespace Go.V
section
variable {f : Pages} {t : Int}
theorem KidsP.fewer {Q : Rf → List KV → List Rf → Prop} (hQ : ∀ r kv p, Q r kv p → kv ≠ []) {l : List Ent} {kvs : List KV} {ps : List Rf} (h : KidsP Q l kvs ps) : l.length ≤ kvs.length := by
  induction h with
  | nil => simp
  | cons h lo hi r ih => have := List.length_pos_iff.2 (hQ _ _ _ h); simp only [List.length_cons, List.length_append]; omega
theorem one_page {lev : Nat} {r : Rf} {x : KV} {ps : List Rf} (h : SubT f t lev r [x] ps) (hv : x.2.length ≤ 64) : ps = [r] := by
  cases lev with
  | zero =>
    obtain ⟨l, ps', hN, _, hL, rfl⟩ := h
    cases hL with
    | @cons e _ _ _ p _ he hr =>
      cases hr
      have h2 := he.2
      have h3 : RightP 1 0 [e] := hN.right
      have h4 := (h3.lef.ent e (by simp)).2
      rw [if_neg (by decide)] at h4
      split at h2
      · rw [h2.2]; rfl
      · rename_i h0
        rw [if_neg h0] at h4
        have h5 := h4.2.1; have h6 := h2.1; omega
  | succ lev =>
    obtain ⟨l, ps', _, h2, hk, _⟩ := h
    have := KidsP.fewer (fun r kv p h => SubT.ne h) hk
    simp at this; omega
end
end Go.V
namespace Go.Proofs.YtcamoanigdfihaaGreat
open Go.V
section
variable {w : World} {T : Nat → Option Nat} {m : MemV} {M : Mm}
theorem lit1 {c : Int} {K : Sl → World → Prop} (k : ∀ b w', RdB w'.heap ⟨some ⟨b, 0, none⟩, 1, 1⟩ [c] → w.heap.size ≤ b → b < w'.heap.size → Ext No w w' → K ⟨some ⟨b, 0, none⟩, 1, 1⟩ w') :
    NewW w (.cells [.int .u8 c].toArray 5) fun b w2 => ∃ r : Sl, ∃ w3, Sem.run Tryz.prog (convert 40 40 (.slice (some (Addr.mk b 0 none)) 1 1)) w2 = .ok (.slice r.a r.len r.cap) w3 ∧ K r w3 := by
  refine NewW.mk fun b w2 n2 => ?_
  obtain ⟨w3, h1, x3, z3, fz, g3⟩ := conv40 (n := 1) (c := 1) n2.get
  have hb := n2.at_; have z2 := n2.size
  refine ⟨⟨some ⟨b, 0, none⟩, 1, 1⟩, w3, h1, k b w3 ⟨rfl, by simp, fun _ => ⟨b, 0, rfl, fun i hi => ?_⟩, by simp [oneC]⟩ (by omega) (by omega) (n2.ext.trans x3 fun q hq h => by omega)⟩
  unfold hcell; rw [g3]
  simp only [List.map_cons, List.map_nil, List.length_cons, List.length_nil] at hi
  have : i = 0 := by omega
  subst this; rfl
theorem known15 {K : Bool → World → Prop} (k : ∀ w', Ext No w w' → K true w') : C_law15_known w K := by
  apply S_law15_known
  refine newMem_spec (by omega) fun T m w1 R1 hT x1 => lit1 fun c1 w2 r1 hc1 hl1 x2 => lit1 fun c2 w3 r2 hc2 hl2 x3 => lit1 fun c3 w4 r3 hc3 hl3 x4 => lit1 fun c4 w5 r4 hc4 hl4 x5 => lit1 fun c5 w6 r5 hc5 hl5 x6 => NewW.mk fun b5 w12 n12 => ?_
  have sup : ∀ q, w1.heap.size ≤ q → T q = none := fun q hq => R1.supT hq
  have s2 := x2.size; have s3 := x3.size; have s4 := x4.size; have s5 := x5.size; have s6 := x6.size; have z12 := n12.size
  have x612 := n12.ext
  have R12 := R1.no (((((x2.no x3).no x4).no x5).no x6).no x612)
  have x112 : Ext No w1 w12 := ((((x2.no x3).no x4).no x5).no x6).no x612
  generalize hxs : ([⟨⟨some ⟨c1, 0, none⟩, 1, 1⟩, ⟨some ⟨c2, 0, none⟩, 1, 1⟩, false, [97], [49]⟩, ⟨⟨some ⟨c3, 0, none⟩, 1, 1⟩, ⟨some ⟨c4, 0, none⟩, 1, 1⟩, false, [98], [50]⟩, ⟨⟨some ⟨c5, 0, none⟩, 1, 1⟩, ⟨none, 0, 0⟩, true, [97], []⟩] : List OpV) = xs
  have hops : Rd w12.heap ⟨some ⟨b5, 0, none⟩, 3, 3⟩ 3 (xs.flatMap OpV.cs) := by
    rw [← hxs]; exact (Own.new n12 rfl (by simp [oneC])).rd
  have hlen : xs.length = 3 := by rw [← hxs]; rfl
  have hx : ∀ x ∈ xs, OpR w12.heap T x := fun x hx => by
    rw [← hxs] at hx
    simp only [List.mem_cons, List.not_mem_nil, or_false] at hx
    have b8 : ∀ c : Int, 0 ≤ c → c ≤ 255 → B8 [c] := fun c h1 h2 => by intro y hy; rw [List.mem_singleton] at hy; subst hy; omega
    have bl : ∀ {c : Nat}, w1.heap.size ≤ c → c < w12.heap.size → ∀ q, (⟨some ⟨c, 0, none⟩, 1, 1⟩ : Sl).blk = some q → T q = none ∧ q < w12.heap.size := fun {c} h1 h2 q hq => by
      simp [Sl.blk] at hq; subst hq; exact ⟨sup _ h1, h2⟩
    rcases hx with h | h | h <;> subst h
    · exact ⟨Rd.no r1 ((((x3.no x4).no x5).no x6).no x612), Rd.no r2 (((x4.no x5).no x6).no x612), b8 _ (by decide) (by decide), b8 _ (by decide) (by decide), bl (by omega) (by omega), bl (by omega) (by omega)⟩
    · exact ⟨Rd.no r3 ((x5.no x6).no x612), Rd.no r4 (x6.no x612), b8 _ (by decide) (by decide), b8 _ (by decide) (by decide), bl (by omega) (by omega), bl (by omega) (by omega)⟩
    · exact ⟨Rd.no r5 x612, Rd.nil _ _, b8 _ (by decide) (by decide), B8.nil, bl (by omega) (by omega), fun q hq => by simp [Sl.blk] at hq⟩
  have hkv : opsL xs [] = [([98], [50])] := by
    rw [← hxs]; show kvOp [97] none (kvOp [98] (some [50]) (kvOp [97] (some [49]) [])) = _; decide
  refine apply_spec (t := 7) (lev := 0) (r := .z) (kvs := []) (ps := []) R12 (.inl ⟨rfl, rfl, rfl, rfl⟩) (by omega) (fun q => by simp) hops hx (by omega) (by simp) (fun w' hb _ => ?_) fun r' lv' ps' T' m' M' w13 _ A => ?_
  · exfalso
    obtain ⟨x, hx', hf⟩ := hb
    rw [← hxs] at hx'
    simp only [List.mem_cons, List.not_mem_nil, or_false] at hx'
    rcases hx' with h | h | h <;> subst h <;> exact hf (by simp [OpV.fit])
  obtain ⟨R13, hbm, tg, x13, tr, hlv, cg⟩ := A
  rw [hkv] at tr
  have x13' : Ext No w w13 := (x1.no x112).of_no.trans x13 fun q hq h => h (hT q hq)
  refine new_set rfl rfl (by simp [oneC]) fun b6 w15 g15 hb6 z15 x15 => ⟨_, Cell.lst g15 rfl, _, Cell.lst g15 rfl, _, Cell.lst g15 rfl, _, Cell.lst g15 rfl, ?_⟩
  refine lit1 fun c6 w17 r6 _ _ x17 => ?_
  have b8 : ∀ c : Int, 0 ≤ c → c ≤ 255 → B8 [c] := fun c h1 h2 => by intro y hy; rw [List.mem_singleton] at hy; subst hy; omega
  have hsrc : (Value.iface 24 (.pointer (some ⟨m.bm, 0, none⟩))) = srcV m' := (srcV_eq hbm).symm
  have ng1 : kvGet [(([98] : List Int), ([50] : List Int))] [98] = some [50] := by decide
  have ng2 : kvGet [(([98] : List Int), ([50] : List Int))] [97] = none := by decide
  have x1317 : Ext No w13 w17 := x15.no x17
  rw [hsrc]
  refine treeGet_spec (R13.no x1317) tr (by omega) r6 (b8 _ (by decide) (by decide)) (fun w' h _ => by simp at h) (fun w' _ _ h _ => by rw [ng1] at h; cases h) fun v s w18 _ _ hv o18 x18 => ?_
  rw [ng1] at hv
  cases hv
  have g18 := get_no (get_no g15 x17) x18
  refine ⟨_, Cell.lst g18 rfl, _, Cell.lst g18 rfl, _, Cell.lst g18 rfl, _, Cell.lst g18 rfl, lit1 fun c7 w20 r7 _ _ x20 => ?_⟩
  have x1320 := (x1317.no x18).no x20
  refine treeGet_spec (R13.no x1320) tr (by omega) r7 (b8 _ (by decide) (by decide)) (fun w' h _ => by simp at h) (fun w21 _ _ _ x21 => ?_) (fun v s' w21 _ _ h _ _ => by rw [ng2] at h; cases h)
  refine If.beq (fun _ => If.beq (fun _ => If.beq (fun _ => ?_) fun h => (h rfl).elim) fun h => (h rfl).elim) fun h => (h rfl).elim
  refine StrC.mk ((o18.no x20).no x21).rd (fun bb o v hv => by show w21.cell? _ = _; rw [cell_eq]; exact hv) ?_
  have e1 : ByteArray.toList ⟨(toB [50]).toArray⟩ = [50] := by rw [toList_mk]; rfl
  have e2 : ByteArray.toList (⟨#[50]⟩ : ByteArray) = [50] := e1
  rw [e1, e2]
  refine If.yes ?_
  have x1321 := x1320.no x21
  have hps : ps' = [r'] := by
    rcases tr with ⟨_, _, h, _⟩ | ⟨_, _, h⟩
    · cases h
    · exact one_page h (by decide)
  have hlive : ∀ q, (live M'.pages).count q = ([r'] : List Rf).count q := fun q => by
    have := cg.cnt q
    rw [hps] at this
    have h0 : live ([] : List (Int × Pg)) = [] := rfl
    simp only [h0, List.count_nil] at this ⊢; omega
  have hll : (live M'.pages).length = 1 := by
    have h1 := count_len (a := live M'.pages) (b := [r']) fun q => by rw [hlive q]; exact Nat.le_refl _
    have h2 := count_len (a := [r']) (b := live M'.pages) fun q => by rw [hlive q]; exact Nat.le_refl _
    simp at h1 h2; omega
  rw [← hbm]
  refine pages_spec (R13.no x1321) (by have := cg.len; rw [hlen] at this; simp at this; omega) fun s8 rs w22 hrs o22 x22 => ?_
  have hlr : s8.len = 1 := by
    have h1 := o22.len
    rw [flat_len' (refCs_len rs)] at h1
    have := hrs.length_eq; omega
  rw [hlr]
  exact k w22 ((x13'.no x1321).no x22)
end
end Go.Proofs.YtcamoanigdfihaaGreat
set_option maxRecDepth 100000
namespace Go.Proofs.YtcamoanigdfihaaGreat
open Go.V
section
variable {w : World} {T : Nat → Option Nat} {m : MemV} {M : Mm}
def codeOf (kvs : List KV) (key : List Int) : Int := if key.length = 0 ∨ 32 < key.length then 2 else match kvGet kvs key with | none => 7 | some _ => 0
theorem treeGet_code {t : Int} {lev : Nat} {r : Rf} {ks : Sl} {key : List Int} {kvs : List KV} {ps : List Rf} {K : Sl → Int → World → Prop} (R : MemR w.heap T m M) (hT : TreeT M.f t r lev kvs ps) (hlev : lev ≤ 30) (hk : RdB w.heap ks key) (k8 : B8 key)
    (k : ∀ s w', Ext No w w' → K s (codeOf kvs key) w') : C_tree_Get (srcV m) t r.p r.c r.g lev ks w K := by
  refine treeGet_spec R hT (by omega) hk k8 (fun w' h x => ?_) (fun w' h1 h2 h x => ?_) (fun v s w' h1 h2 h _ x => ?_)
  · have : codeOf kvs key = 2 := if_pos h
    rw [← this]; exact k _ _ x
  · have : codeOf kvs key = 7 := by unfold codeOf; rw [if_neg (by omega), h]
    rw [← this]; exact k _ _ x
  · have : codeOf kvs key = 0 := by unfold codeOf; rw [if_neg (by omega), h]
    rw [← this]; exact k _ _ x
theorem treeNone_spec {tenant : Int} {key : Sl} {kb : List Int} {K : Bool → World → Prop} (hk : RdB w.heap key kb) (k8 : B8 kb) (k : ∀ w', Ext No w w' → K true w') : C_law15_TreeNone tenant key w K := by
  apply S_law15_TreeNone
  have hkl := RdB.len hk
  refine If.dec (fun _ => known15 k) fun hl => getNil fun w2 x2 => applyNil fun w3 x3 => new_set rfl rfl (by simp [oneC]) fun b w5 g5 hb z5 x5 => labelsNil fun w6 x6 => turnNil fun w7 x7 => new_set rfl rfl (by simp [oneC]) fun b1 w9 g9 hb1 z9 x9 => ?_
  have x09 := ((((x2.no x3).no x5).no x6).no x7).no x9
  refine ⟨fun w' => Ext No w w', If.bne (fun h => (h rfl).elim) fun _ => If.bne (fun h => (h rfl).elim) fun _ => If.bne (fun h => (h rfl).elim) fun _ => If.bne (fun h => (h rfl).elim) fun _ => clearNil fun w10 x10 => If.bne (fun h => (h rfl).elim) fun _ => x09.no x10, ?_⟩
  rintro _ w11 x11
  refine newMem_spec (by omega) fun T m w12 R1 hT x12 => lit1 fun c1 w14 r1 hc1 hl1 x14 => lit1 fun c2 w16 r2 hc2 hl2 x16 => NewW.mk fun b4 w17 n17 => ?_
  have sup : ∀ q, w12.heap.size ≤ q → T q = none := fun q hq => R1.supT hq
  have s14 := x14.size; have s16 := x16.size; have z17 := n17.size
  have x1217 : Ext No w12 w17 := (x14.no x16).no n17.ext
  generalize hxs : ([⟨⟨some ⟨c1, 0, none⟩, 1, 1⟩, ⟨some ⟨c2, 0, none⟩, 1, 1⟩, false, [107], [118]⟩] : List OpV) = xs
  have hops : Rd w17.heap ⟨some ⟨b4, 0, none⟩, 1, 1⟩ 3 (xs.flatMap OpV.cs) := by
    rw [← hxs]; exact (Own.new n17 rfl (by simp [oneC])).rd
  have hlen : xs.length = 1 := by rw [← hxs]; rfl
  have b8 : ∀ c : Int, 0 ≤ c → c ≤ 255 → B8 [c] := fun c h1 h2 => by intro y hy; rw [List.mem_singleton] at hy; subst hy; omega
  have hx : ∀ x ∈ xs, OpR w17.heap T x := fun x hx => by
    rw [← hxs, List.mem_singleton] at hx
    have bl : ∀ {c : Nat}, w12.heap.size ≤ c → c < w17.heap.size → ∀ q, (⟨some ⟨c, 0, none⟩, 1, 1⟩ : Sl).blk = some q → T q = none ∧ q < w17.heap.size := fun {c} h1 h2 q hq => by
      simp [Sl.blk] at hq; subst hq; exact ⟨sup _ h1, h2⟩
    subst hx
    exact ⟨Rd.no r1 (x16.no n17.ext), Rd.no r2 n17.ext, b8 _ (by decide) (by decide), b8 _ (by decide) (by decide), bl (by omega) (by omega), bl (by omega) (by omega)⟩
  have hkv : opsL xs [] = [([107], [118])] := by
    rw [← hxs]; show kvOp [107] (some [118]) [] = _; decide
  refine apply_spec (t := tenant) (lev := 0) (r := .z) (kvs := []) (ps := []) (R1.no x1217) (.inl ⟨rfl, rfl, rfl, rfl⟩) (by omega) (fun q => by simp) hops hx (by omega) (by simp) (fun w' hb _ => ?_) fun r' lv' ps' T' m' M' w18 _ A => ?_
  · exfalso
    obtain ⟨x, hx', hf⟩ := hb
    rw [← hxs, List.mem_singleton] at hx'
    subst hx'
    exact hf (by simp [OpV.fit])
  obtain ⟨R18, hbm, tg, x18, tr, hlv, cg⟩ := A
  rw [hkv] at tr
  have x18' : Ext No w11 w18 := (x12.no x1217).of_no.trans x18 fun q hq h => h (hT q hq)
  refine new_set rfl rfl (by simp [oneC]) fun b5 w20 g20 hb5 z20 x20 => ?_
  intro z hz
  have hzt : z ≠ tenant := by
    have hw : IntKind.wrap .u32 (tenant + 1) = (tenant + 1) % 4294967296 := by simp [IntKind.wrap, IntKind.bits, IntKind.signed]
    rw [hw] at hz; omega
  refine ⟨_, Cell.lst g20 rfl, _, Cell.lst g20 rfl, _, Cell.lst g20 rfl, _, Cell.lst g20 rfl, lit1 fun c6 w22 r6 _ _ x22 => ?_⟩
  have hsrc : (Value.iface 24 (.pointer (some ⟨m.bm, 0, none⟩))) = srcV m' := (srcV_eq hbm).symm
  have hS : r' ≠ .z ∧ SubT M'.f tenant lv' r' [([107], [118])] ps' := by
    rcases tr with ⟨_, _, h, _⟩ | ⟨h1, _, h⟩
    · cases h
    · exact ⟨h1, by simpa using h⟩
  have x1822 := x20.no x22
  rw [hsrc]
  refine treeGet_other (R18.no x1822) hS.1 hS.2 hzt r6 (by simp) fun w23 x23 => ?_
  have g23 := get_no (get_no g20 x22) x23
  have x1823 := x1822.no x23
  have x023 : Ext No w w23 := (x11.no x18').no x1823
  refine ⟨_, Cell.lst g23 rfl, _, Cell.lst g23 rfl, _, Cell.lst g23 rfl, _, Cell.lst g23 rfl, ?_⟩
  refine treeGet_code (R18.no x1823) tr hlv (Rd.no hk x023) k8 fun s w24 x24 => ?_
  have x024 := x023.no x24
  refine ⟨fun want w' => want = codeOf [([107], [118])] kb ∧ Ext No w w', ⟨fun t w' => t = decide (kb.length = 0 ∨ 32 < kb.length) ∧ Ext No w w', If.dec (fun h => ⟨(decide_eq_true (by omega)).symm, x024⟩) fun h => ⟨decide_eq_decide.2 (by omega), x024⟩, ?_⟩, ?_⟩
  · rintro _ t w25 ⟨rfl, x25⟩
    refine If.dec (fun h => ⟨(if_pos h : codeOf [([107], [118])] kb = 2).symm, x25⟩) fun h => ?_
    refine StrC.mk (Rd.no hk x25) (fun bb o v hv => by show w25.cell? _ = _; rw [cell_eq]; exact hv) ?_
    have e1 : ByteArray.toList ⟨(toB kb).toArray⟩ = toB kb := toList_mk _
    have e2 : ByteArray.toList (⟨#[107]⟩ : ByteArray) = toB [107] := toList_mk (toB [107])
    rw [e1, e2]
    have hc : codeOf [([107], [118])] kb = if kb = [107] then 0 else 7 := by
      unfold codeOf kvGet
      rw [if_neg h]
      by_cases hkb : kb = [107]
      · subst hkb; rfl
      · simp [hkb, Ne.symm hkb]
    rw [hc]
    by_cases hkb : kb = [107]
    · rw [if_pos hkb, hkb]
      exact If.cases (fun _ => ⟨rfl, x25⟩) fun h => absurd h (by simp)
    · rw [if_neg hkb]
      exact If.cases (fun h => (hkb ((toB_inj k8 (b8 107 (by decide) (by decide))).1 (eq_of_beq h))).elim) fun _ => ⟨rfl, x25⟩
  · rintro _ want w26 ⟨rfl, x26⟩
    exact If.beq (fun _ => If.beq (fun _ => If.beq (fun _ => known15 fun w27 x27 => k w27 (x26.no x27)) fun h => (h rfl).elim) fun h => (h rfl).elim) fun h => (h rfl).elim
end
end Go.Proofs.YtcamoanigdfihaaGreat
