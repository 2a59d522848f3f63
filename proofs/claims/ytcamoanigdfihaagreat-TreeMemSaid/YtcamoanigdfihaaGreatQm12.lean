/- Texts for LTreeMem, part 12. -/
import Derived.Test.YtcamoanigdfihaaGreatQm11
set_option maxRecDepth 100000
namespace Go.V
abbrev kindL(lev:Nat):Int:=if lev=0 then 1 else 2
theorem not_LtB_nil(x:List Int):¬ LtB x []:=by
 intro h; unfold LtB at h; cases x <;> simp [cmpB] at h
theorem LtB.ne_nil{x y:List Int}(h:LtB x y):y≠[]:=fun e=>not_LtB_nil x (e ▸ h)
theorem LtB.of_le{a b c:List Int}(h:¬ LtB b a)(k:LtB b c):LtB a c:=by
 rcases LtB.total a b with h' | h' | h'
 .exact h'.trans k
 .exact h' ▸ k
 .exact (h h').elim
theorem LtB.lt_le{a b c:List Int}(h:LtB a b)(k:¬ LtB c b):LtB a c:=by
 rcases LtB.total b c with h' | h' | h'
 .exact h.trans h'
 .exact h' ▸ h
 .exact (k h').elim
abbrev RiseP(l:List Ent):Prop:=l.Pairwise fun a b=>LtB a.key b.key
theorem rise_iff{l:List Ent}:Rise l ↔ RiseP l:=by
 unfold RiseP
 rw [List.pairwise_iff_getElem]
 exact ⟨fun h i j hi hj hij=>h.lt hij hj,fun h i hi=>h i (i+1) (by omega) hi (by omega)⟩
structure InnP(l:List Ent):Prop where
 ent:∀ e∈l,e.cd ≠ .z/\e.ch = .z/\e.val.length=0/\e.n=0/\e.key.length<=32
 rise:RiseP l
 hd:∀ e l',l=e::l'->e.key=[]
theorem RightP.inn{lev:Int}{l:List Ent}(h:RightP 2 lev l):InnP l:=by
 refine ⟨fun e he=>?_,rise_iff.1 h.ord,fun e l' hl=>?_⟩
 .obtain ⟨i,hi,rfl⟩:=List.getElem_of_mem he
  have h2:=(h.ent i hi).2
  have h3:=h.small _ he
  rw [if_pos rfl] at h2
  exact ⟨h2.1,h2.2.1,h2.2.2.1,h2.2.2.2,h3.1⟩
 .subst hl
  have:=(h.ent 0 (by simp)).1
  unfold keyP at this
  rw [if_pos ⟨rfl,rfl⟩] at this
  exact List.eq_nil_of_length_eq_zero (by simpa using this)
theorem InnP.right{lev:Int}{l:List Ent}(h:InnP l)(hne:l≠[])(hl:1<=lev/\lev<=30):RightP 2 lev l:=by
 refine ⟨.inr ⟨rfl,hl⟩,fun _=>hne,fun i hi=>⟨?_,?_⟩,rise_iff.2 h.rise⟩
 .unfold keyP
  cases i with
  | zero =>
   rw [if_pos ⟨rfl,rfl⟩]
   cases l with
   | nil=>simp at hi
   | cons e l=>have:=h.hd e l rfl; simp [this]
  | succ i =>
   rw [if_neg (by omega)]
   have h1:=(rise_iff.2 h.rise) i hi
   have h2:=(h.ent _ (List.getElem_mem hi)).2.2.2.2
   have h3:=List.length_pos_iff.2 h1.ne_nil
   omega
 .rw [if_pos rfl]
  have:=h.ent _ (List.getElem_mem hi)
  exact ⟨this.1,this.2.1,this.2.2.1,this.2.2.2.1⟩
structure LefP(l:List Ent):Prop where
 ent:∀ e∈l,entP 1 0 e
 rise:RiseP l
theorem RightP.lef{lev:Int}{l:List Ent}(h:RightP 1 lev l):LefP l:=by
 refine ⟨fun e he=>?_,rise_iff.1 h.ord⟩
 obtain ⟨i,hi,rfl⟩:=List.getElem_of_mem he
 exact entP_key (h.ent i hi) fun h=>absurd h (by decide)
theorem LefP.right{l:List Ent}(h:LefP l):RightP 1 0 l :=
 ⟨.inl ⟨rfl,rfl⟩,fun h=>absurd h (by decide),fun _ hi=>entP_key (h.ent _ (List.getElem_mem hi)) (fun h=>absurd h (by decide)),rise_iff.2 h.rise⟩
section
variable {f:Pages} {t:Int}
theorem LeafL.append{a b:List Ent}{ka kb:List KV}{pa pb:List Rf}(h:LeafL f t a ka pa)(k:LeafL f t b kb pb):LeafL f t (a++b) (ka++kb) (pa++pb):=by
 induction h with
 | nil=>exact k
 | cons h r ih=>simp only [List.cons_append,List.append_assoc]; exact .cons h ih
theorem LeafL.split{b:List Ent}:∀{a:List Ent}{kvs:List KV}{ps:List Rf},LeafL f t (a++b) kvs ps->∃ ka kb pa pb,LeafL f t a ka pa/\LeafL f t b kb pb/\kvs=ka++kb/\ps=pa++pb
 | [],kvs,ps,h=>⟨[],kvs,[],ps, .nil,h,rfl,rfl⟩
 | e::a,_,_, .cons h r=>by
  obtain ⟨ka,kb,pa,pb,h1,h2,rfl,rfl⟩:=LeafL.split (a:=a) r
  exact ⟨_,kb,_,pb, .cons h h1,h2,rfl,by rw [List.append_assoc]⟩
theorem LeafL.keys{l:List Ent}{kvs:List KV}{ps:List Rf}(h:LeafL f t l kvs ps):kvs.map Prod.fst=l.map Ent.key:=by
 induction h with
 | nil=>rfl
 | cons h r ih=>simp only [List.map_cons,ih,h.1]
theorem LeafL.mem{l:List Ent}{kvs:List KV}{ps:List Rf}(h:LeafL f t l kvs ps){x:KV}(hx:x∈kvs):∃ e∈l,e.key=x.1:=by
 have:x.1∈l.map Ent.key:=h.keys ▸ List.mem_map.2 ⟨x,hx,rfl⟩
 obtain ⟨e,he,hk⟩:=List.mem_map.1 this
 exact ⟨e,he,hk⟩
theorem LeafL.mem'{l:List Ent}{kvs:List KV}{ps:List Rf}(h:LeafL f t l kvs ps){e:Ent}(he:e∈l):∃ x∈kvs,e.key=x.1:=by
 have:e.key∈kvs.map Prod.fst:=h.keys ▸ List.mem_map.2 ⟨e,he,rfl⟩
 obtain ⟨x,hx,hk⟩:=List.mem_map.1 this
 exact ⟨x,hx,hk.symm⟩
variable {Q:Rf->List KV->List Rf->Prop}
theorem KidsP.append{a b:List Ent}{ka kb:List KV}{pa pb:List Rf}(h:KidsP Q a ka pa)(k:KidsP Q b kb pb):(∀ e b',b=e::b'->∀ x∈ka,LtB x.1 e.key)->KidsP Q (a++b) (ka++kb) (pa++pb):=by
 induction h with
 | nil=>intro _; exact k
 | @cons e l kv kvs p ps h lo hi r ih =>
  intro hb
  simp only [List.cons_append,List.append_assoc]
  refine .cons h lo (fun e' l' hl x hx=>?_) (ih fun e' b' he x hx=>hb e' b' he x (List.mem_append_right _ hx))
  cases l with
  | nil =>
   cases r
   exact hb e' l' hl x (List.mem_append_left _ hx)
  | cons e2 l2 =>
   simp only [List.cons_append,List.cons.injEq] at hl
   exact hl.1 ▸ hi e2 l2 rfl x hx
theorem KidsP.split{b:List Ent}:∀{a:List Ent}{kvs:List KV}{ps:List Rf},KidsP Q (a++b) kvs ps->RiseP (a++b)->∃ ka kb pa pb,KidsP Q a ka pa/\KidsP Q b kb pb/\kvs=ka++kb/\ps=pa++pb/\(∀ e∈b,∀ x∈ka,LtB x.1 e.key)
 | [],kvs,ps,h,_=>⟨[],kvs,[],ps, .nil,h,rfl,rfl,by simp⟩
 | e::a,_,_, .cons h lo hi r,hr=>by
  simp only [List.cons_append,List.pairwise_cons] at hr
  obtain ⟨ka,kb,pa,pb,h1,h2,rfl,rfl,h3⟩:=KidsP.split (a:=a) r hr.2
  refine ⟨_,kb,_,pb, .cons h lo (fun e' l' hl x hx=>hi e' (l'++b) (by rw [hl]; rfl) x hx) h1,h2,by rw [List.append_assoc],by rw [List.append_assoc],fun e' he x hx=>?_⟩
  rcases List.mem_append.1 hx with hx | hx
  .cases hc:a++b with
   | nil=>rw [List.append_eq_nil_iff] at hc; rw [hc.2] at he; cases he
   | cons e2 l2 =>
    have h4:=hi e2 l2 hc x hx
    have:e'∈e2::l2:=hc ▸ List.mem_append_right _ he
    rw [hc,List.pairwise_cons] at hr
    rcases List.mem_cons.1 this with h5 | h5
    .rw [h5]; exact h4
    .exact h4.trans (hr.2.1 e' h5)
  .exact h3 e' he x hx
theorem KidsP.head{e:Ent}{l:List Ent}{kvs:List KV}{ps:List Rf}{k:List Int}(h:KidsP Q (e::l) kvs ps)(hk:∀ x∈kvs,¬ LtB x.1 k):KidsP Q ({ e with key:=k }::l) kvs ps:=by
 cases h with
 | cons h lo hi r=>exact .cons h (fun x hx=>hk x (List.mem_append_left _ hx)) hi r
theorem KidsP.nilK{l:List Ent}{kvs:List KV}{ps:List Rf}(h:KidsP Q l kvs ps):KidsP Q (nilK l) kvs ps:=by
 cases l with
 | nil=>exact h
 | cons e l=>exact h.head fun x _=>not_LtB_nil _
theorem KidsP.some{l:List Ent}{kvs:List KV}{ps:List Rf}(hQ:∀ r kv p,Q r kv p->kv≠[])(h:KidsP Q l kvs ps):∀ e∈l,∃ x∈kvs,¬ LtB x.1 e.key:=by
 induction h with
 | nil=>intro e he; cases he
 | @cons e l kv kvs p ps h lo hi r ih =>
  intro e' he
  rcases List.mem_cons.1 he with h' | h'
  .subst h'
   obtain ⟨x,hx⟩:=List.exists_mem_of_ne_nil _ (hQ _ _ _ h)
   exact ⟨x,List.mem_append_left _ hx,lo x hx⟩
  .obtain ⟨x,hx,hh⟩:=ih e' h'
   exact ⟨x,List.mem_append_right _ hx,hh⟩
def Body(f:Pages)(t:Int):Nat->List Ent->List KV->List Rf->Prop
 | 0=>LeafL f t
 | lev+1=>KidsP (SubT f t lev)
def EOk(l:List Ent):Prop:=∀ e∈l,(e.ch.ok/\e.cd.ok)/\B8 e.key/\B8 e.val
theorem SubT.open_{lev:Nat}{r:Rf}{kvs:List KV}{ps:List Rf}(h:SubT f t lev r kvs ps):∃ l ps',NodeAt f t (kindL lev) lev r l/\l≠[]/\(0 < lev->2<=l.length)/\Body f t lev l kvs ps'/\ps=r::ps':=by
 cases lev with
 | zero=>obtain ⟨l,ps',a,b,c,d⟩:=h; exact ⟨l,ps',a,b,fun h=>by omega,c,d⟩
 | succ lev =>
  obtain ⟨l,ps',a,b,c,d⟩:=h
  exact ⟨l,ps',a,by intro h; rw [h] at b; simp at b,fun _=>b,c,d⟩
theorem SubT.shut{lev:Nat}{r:Rf}{l:List Ent}{kvs:List KV}{ps:List Rf}(a:NodeAt f t (kindL lev) lev r l)(b:l≠[])(c:0 < lev->2<=l.length)(d:Body f t lev l kvs ps):SubT f t lev r kvs (r::ps):=by
 cases lev with
 | zero=>exact ⟨l,ps,a,b,d,rfl⟩
 | succ lev=>exact ⟨l,ps,a,c (by omega),d,rfl⟩
theorem Body.ne:∀{lev:Nat}{l:List Ent}{kvs:List KV}{ps:List Rf},Body f t lev l kvs ps->l≠[]->kvs≠[]
 | 0,l,kvs,ps,h,hne=>fun e=>hne (by have:=LeafL.keys h; rw [e] at this; simpa using this.symm)
 | lev+1,l,kvs,ps,h,hne=>fun e=>by
  obtain ⟨x,hx⟩:=List.exists_mem_of_ne_nil _ hne
  obtain ⟨y,hy,_⟩:=KidsP.some (fun r kv p h=>by obtain ⟨l',_,_,h2,_,h3,_⟩:=h.open_; exact Body.ne h3 h2) h x hx
  rw [e] at hy; cases hy
theorem SubT.ne{lev:Nat}{r:Rf}{kvs:List KV}{ps:List Rf}(h:SubT f t lev r kvs ps):kvs≠[]:=by
 obtain ⟨l',_,_,h2,_,h3,_⟩:=h.open_; exact Body.ne h3 h2
theorem Body.keep{f':Pages}{lev:Nat}{l:List Ent}{kvs:List KV}{ps:List Rf}(h:Body f t lev l kvs ps)(hk:Keep f f' ps):Body f' t lev l kvs ps:=by
 cases lev with
 | zero=>exact LeafL.keep h hk
 | succ lev=>exact KidsP.keep (R:=fun p=>Keep f f' p) (fun h=>⟨h.sub fun _ h=>List.mem_append_left _ h,h.sub fun _ h=>List.mem_append_right _ h⟩) (fun h hk=>SubT.keep h hk) h hk
structure Limb(f:Pages)(t:Int)(lev:Nat)(l:List Ent)(kvs:List KV)(ps:List Rf):Prop where
 right:RightP (kindL lev) lev l
 short:(wr (kindL lev) lev l).length<=224
 ok:EOk l
 body:Body f t lev l kvs ps
 ne:l≠[]
theorem Limb.keep{f':Pages}{lev:Nat}{l:List Ent}{kvs:List KV}{ps:List Rf}(h:Limb f t lev l kvs ps)(hk:Keep f f' ps):Limb f' t lev l kvs ps:=⟨h.right,h.short,h.ok,h.body.keep hk,h.ne⟩
inductive LimbsP (f:Pages) (t:Int) (lev:Nat):List (List Int×List Ent)->List KV->List Rf->Prop
 | nil:LimbsP f t lev [] [] []
 | one {l:List Ent} {kvs:List KV} {ps:List Rf} (h:Limb f t lev l kvs ps):LimbsP f t lev [([],l)] kvs ps
 | two {l1 l2:List Ent} {k1 k2:List KV} {p1 p2:List Rf} {sep:List Int} (h1:Limb f t lev l1 k1 p1) (h2:Limb f t lev l2 k2 p2) (s1:1<=sep.length) (s2:sep.length<=32) (s8:B8 sep) (lo:∀ x∈k1,LtB x.1 sep) (hi:∀ x∈k2,¬ LtB x.1 sep)
   (n1:0 < lev->2<=l1.length) (n2:0 < lev->2<=l2.length):LimbsP f t lev [([],l1),(sep,l2)] (k1++k2) (p1++p2)
end
theorem szE_le{kind i:Int}{e:Ent}(h:entP kind i e):(wrE kind e).length<=99:=by
 obtain ⟨h1,h2⟩:=h
 have hk:e.key.length<=32:=by unfold keyP at h1; split at h1 <;> omega
 unfold wrE
 simp only [List.length_append,List.length_cons]
 split
 .rw [refB_len]; omega
 .rename_i hk2
  rw [if_neg hk2] at h2
  obtain ⟨_,h2⟩:=h2
  split
  .simp [refB_len]; omega
  .rw [if_pos (by split at h2 <;> omega)] at h2
   simp; omega
theorem szE_inn{e:Ent}:(wrE 2 e).length=15+e.key.length:=by
 unfold wrE; rw [if_pos rfl]; simp only [List.length_append,List.length_cons,refB_len]; omega
theorem szL_split(kind:Int)(l:List Ent)(k:Nat):szL kind l=szL kind (l.take k)+szL kind (l.drop k):=by
 conv=>lhs; rw [<- List.take_append_drop k l]
 exact szL_append _ _ _
theorem szL_step(kind:Int){l:List Ent}{k:Nat}(h:k < l.length):szL kind (l.take (k+1))=szL kind (l.take k)+(wrE kind l[k]).length:=by
 rw [List.take_add_one,List.getElem?_eq_getElem h,szL_append]; simp [szL]
theorem szL_cutR(kind:Int){l:List Ent}{k:Nat}(h:k < l.length):szL kind (cutR kind (l.drop k))+(if kind=2 then l[k].key.length else 0)=szL kind (l.drop k):=by
 rw [List.drop_eq_getElem_cons h]
 unfold cutR
 split
 .simp only [nilK,szL_cons]
  have:=wrE_key kind l[k] []
  simp only [List.length_nil] at this
  omega
 .omega
theorem cross{P:Nat->Nat}{c:Nat}:∀{n:Nat},P 0<=c->c < P n->∃ k,k < n/\P k<=c/\c < P (k+1)
 | 0,h0,h1=>by omega
 | n+1,h0,h1=>by
  rcases Nat.lt_or_ge c (P n) with h | h
  .obtain ⟨k,a,b⟩:=cross h0 h
   exact ⟨k,by omega,b⟩
  .exact ⟨n,by omega,h,h1⟩
theorem valid_ex{kind lev:Int}{l:List Ent}(hr:RightP kind lev l)(h1:224 < (wr kind lev l).length)(h2:(wr kind lev l).length<=347):∃ k,ValidC kind lev l k:=by
 rw [wr_len] at h1 h2
 obtain ⟨k,hk,a,b⟩:=cross (P:=fun k=>szL kind (l.take k)) (c:=221) (n:=l.length) (by simp [szL]) (by simp only [List.take_length]; omega)
 have hs:=szL_step kind hk
 have he:=szE_le (hr.ent k hk)
 have hc:=szL_cutR kind hk
 have hsp:=szL_split kind l k
 have a:szL kind (l.take k)<=221:=a
 have b:221 < szL kind (l.take (k+1)):=b
 have hk0:k≠0:=by
  intro h
  subst h
  rw [List.take_zero,szL_nil] at hs
  omega
 refine ⟨k,by omega,hk,?_,?_⟩
 .unfold xsz; rw [wr_len]; omega
 .unfold ysz; rw [wr_len]; omega
theorem split_two{lev:Int}{l:List Ent}{k:Nat}(hr:RightP 2 lev l)(hb:224 < (wr 2 lev l).length)(h:SplitP 2 lev l k):2<=k/\k+2<=l.length:=by
 have hi:=hr.inn
 rw [wr_len] at hb
 have hkl:∀ j (hj:j < l.length),l[j].key.length<=32:=fun j hj=>(hi.ent _ (List.getElem_mem hj)).2.2.2.2
 have hx:∀ j,xsz 2 lev l j=3+szL 2 (l.take j):=fun j=>by unfold xsz; rw [wr_len]
 have hy:∀ j (hj:j < l.length),ysz 2 lev l j+l[j].key.length=3+szL 2 (l.drop j):=fun j hj=>by
  unfold ysz; rw [wr_len]; have:=szL_cutR 2 hj; rw [if_pos rfl] at this; omega
 have hst:∀ j (hj:j < l.length),szL 2 (l.take (j+1))=szL 2 (l.take j)+(15+l[j].key.length):=fun j hj=>by rw [szL_step 2 hj,szE_inn]
 have hsp:=szL_split 2 l
 obtain ⟨v1,v2,v3,v4⟩:=h.v
 have hmin:=h.min
 have t0:szL 2 (l.take 0)=0:=by simp [szL]
 have k0:l[0].key.length=0:=by
  cases l with
  | nil=>simp at v2
  | cons e l=>have:=hi.hd e l rfl; simp [this]
 have tn:szL 2 (l.take l.length)=szL 2 l:=by rw [List.take_length]
 constructor
 .refine Classical.byContradiction fun hc=>?_
  have hk:k=1:=by omega
  subst hk
  have s0:szL 2 (l.take 1)=szL 2 (l.take 0)+(15+l[0].key.length):=hst 0 (by omega)
  have hl3:2 < l.length:=by
   refine Classical.byContradiction fun hc=>?_
   have e:l.length=2:=by omega
   have s1:szL 2 (l.take 2)=szL 2 (l.take 1)+(15+l[1].key.length):=hst 1 (by omega)
   have:=hkl 1 (by omega)
   rw [List.take_of_length_le (by omega)] at s1
   omega
  have s1:szL 2 (l.take 2)=szL 2 (l.take 1)+(15+l[1].key.length):=hst 1 (by omega)
  have y1:=hy 1 (by omega); have y2:=hy 2 hl3
  have x1:=hx 1; have x2:=hx 2
  have p1:=hsp 1; have p2:=hsp 2
  have q1:=hkl 1 (by omega); have q2:=hkl 2 hl3
  have:=hmin 2 ⟨by omega,hl3,by omega,by omega⟩
  unfold dif iMax at this
  split at this <;> split at this <;> omega
 .refine Classical.byContradiction fun hc=>?_
  have hk:k+1=l.length:=by omega
  have sk:=hst k v2
  rw [hk,tn] at sk
  have qk:=hkl k v2
  have yk:=hy k v2
  have pk:=hsp k
  have xk:=hx k
  have hk1:k≠1:=by
   intro e
   subst e
   have s0:szL 2 (l.take 1)=szL 2 (l.take 0)+(15+l[0].key.length):=hst 0 (by omega)
   omega
  have s':=hst (k - 1) (by omega)
  rw [show k - 1+1=k by omega] at s'
  have q':=hkl (k - 1) (by omega)
  have y':=hy (k - 1) (by omega)
  have x':=hx (k - 1)
  have p':=hsp (k - 1)
  have:=hmin (k - 1) ⟨by omega,by omega,by omega,by omega⟩
  unfold dif iMax at this
  split at this <;> split at this <;> omega
section
variable {f:Pages} {t:Int}
theorem riseP_app{a b:List Ent}:RiseP (a++b) ↔ RiseP a/\RiseP b/\∀ x∈a,∀ y∈b,LtB x.key y.key:=List.pairwise_append
theorem EOk.take{l:List Ent}{k:Nat}(h:EOk l):EOk (l.take k):=fun e he=>h e (List.mem_of_mem_take he)
theorem EOk.nilK{l:List Ent}(h:EOk l):EOk (nilK l):=fun e he=>by
 cases l with
 | nil=>cases he
 | cons e' l =>
  rcases List.mem_cons.1 he with h' | h'
  .subst h'; have:=h e' (by simp); exact ⟨this.1,B8.nil,this.2.2⟩
  .exact h e (List.mem_cons_of_mem _ h')
theorem EOk.cutR{kind:Int}{l:List Ent}(h:EOk l):EOk (cutR kind l):=by
 unfold Go.V.cutR; split; exact h.nilK; exact h
theorem EOk.append{a b:List Ent}(h:EOk a)(k:EOk b):EOk (a++b):=fun e he=>(List.mem_append.1 he).elim (h e) (k e)
theorem PartsP.limbs{lev:Nat}{l:List Ent}{kvs:List KV}{ps:List Rf}{ls:List (List Int×List Ent)}(p:PartsP (kindL lev) lev l ls)(ok:EOk l)(b:Body f t lev l kvs ps):LimbsP f t lev ls kvs ps:=by
 cases p with
 | nil=>cases lev with
  | zero=>cases b; exact .nil
  | succ=>cases b; exact .nil
 | one hne hr hs=>exact .one ⟨hr,hs,ok,b,hne⟩
 | @two l k hr hb h hk =>
  have h1:=h.v.1
  have hmem:l[k]∈l:=List.getElem_mem hk
  have n1:(l.take k).length=k:=by rw [List.length_take]; omega
  have n2:(cutR (kindL lev) (l.drop k)).length=l.length - k:=by rw [cutR_len,List.length_drop]
  have e:l=l.take k++l.drop k:=(List.take_append_drop k l).symm
  have hrise:RiseP (l.take k++l.drop k):=e ▸ rise_iff.1 hr.ord
  have ne1:l.take k≠[]:=by intro h; rw [h] at n1; simp at n1; omega
  have ne2:cutR (kindL lev) (l.drop k)≠[]:=by intro h; rw [h] at n2; simp at n2; omega
  have hkey:1<=l[k].key.length/\l[k].key.length<=32:=by
   have:=(hr.ent k hk).1
   unfold keyP at this
   rw [if_neg (by omega)] at this; omega
  have two:0 < lev->2<=k/\k+2<=l.length:=fun h0=>by
   have e2:kindL lev=2:=if_neg (by omega)
   rw [e2] at hr hb h
   exact split_two hr hb h
  rw [e] at b
  have hdk:l.drop k=l[k]::l.drop (k+1):=List.drop_eq_getElem_cons hk
  cases lev with
  | zero =>
   obtain ⟨ka,kb,pa,pb,b1,b2,rfl,rfl⟩:=LeafL.split b
   have hrise:=riseP_app.1 hrise
   refine .two ⟨hr.take h1,h.v.2.2.1,ok.take,b1,ne1⟩ ⟨hr.cutR h1 hk,h.v.2.2.2,EOk.cutR fun e he=>ok e (List.mem_of_mem_drop he),b2,ne2⟩ hkey.1 hkey.2 (ok _ hmem).2.1 (fun x hx=>?_) (fun x hx=>?_) (fun h=>by omega) fun h=>by omega
   .obtain ⟨e',he,hk'⟩:=b1.mem hx
    rw [<- hk']; exact hrise.2.2 e' he _ (by rw [hdk]; exact List.mem_cons_self)
   .obtain ⟨e',he,hk'⟩:=b2.mem hx
    rw [<- hk']
    rw [hdk] at he hrise
    rcases List.mem_cons.1 he with h' | h'
    .rw [h']; exact fun h=>h.irrefl
    .have:=(List.pairwise_cons.1 hrise.2.1).1 e' h'
     exact fun h=>(this.trans h).irrefl
  | succ lev =>
   obtain ⟨ka,kb,pa,pb,b1,b2,rfl,rfl,b3⟩:=KidsP.split b hrise
   have b2':KidsP (SubT f t lev) (cutR 2 (l.drop k)) kb pb:=by unfold cutR; rw [if_pos rfl]; exact b2.nilK
   refine .two ⟨hr.take h1,h.v.2.2.1,ok.take,b1,ne1⟩ ⟨hr.cutR h1 hk,h.v.2.2.2,EOk.cutR fun e he=>ok e (List.mem_of_mem_drop he),b2',ne2⟩ hkey.1 hkey.2 (ok _ hmem).2.1 (fun x hx=>b3 _ (by rw [hdk]; exact List.mem_cons_self) x hx) (fun x hx=>?_) (fun h=>by have:=two h; omega) fun h=>by have:=two h; omega
   have hrise:=riseP_app.1 hrise
   exact kids_lo b2 (rise_iff.2 hrise.2.1) _ _ hdk x hx
theorem join_body{lev:Nat}{la lb:List Ent}{above:List Int}{ka kb:List KV}{pa pb:List Rf}(hra:RightP (kindL lev) lev la)(hrb:RightP (kindL lev) lev lb)(oa:EOk la)(ob:EOk lb)(a8:B8 above)(al:above.length<=32)(ba:Body f t lev la ka pa)(bb:Body f t lev lb kb pb)
  (lo:∀ x∈ka,LtB x.1 above) (hi:∀ x∈kb,¬ LtB x.1 above):RightP (kindL lev) lev (joinL (kindL lev) la above lb)/\EOk (joinL (kindL lev) la above lb)/\Body f t lev (joinL (kindL lev) la above lb) (ka++kb) (pa++pb):=by
 cases lev with
 | zero =>
  have e:joinL (kindL 0) la above lb=la++lb:=by unfold joinL; rw [if_neg (by decide)]
  rw [e]
  refine ⟨?_,oa.append ob,LeafL.append ba bb⟩
  have l1:=hra.lef; have l2:=hrb.lef
  refine LefP.right ⟨fun e he=>(List.mem_append.1 he).elim (l1.ent e) (l2.ent e),List.pairwise_append.2 ⟨l1.rise,l2.rise,fun x hx y hy=>?_⟩⟩
  obtain ⟨u,hu,eu⟩:=LeafL.mem' ba hx
  obtain ⟨v,hv,ev⟩:=LeafL.mem' bb hy
  rw [eu,ev]; exact (lo u hu).lt_le (hi v hv)
 | succ lev =>
  have e:joinL (kindL (lev+1)) la above lb=la++hdK above lb:=by unfold joinL; rw [if_pos (show kindL (lev+1)=2 from if_neg (by omega))]
  have hra':RightP 2 ((lev+1:Nat):Int) la:=hra
  have hrb':RightP 2 ((lev+1:Nat):Int) lb:=hrb
  have sh:=hra'.shape
  unfold shapeP at sh
  have l1:=hra'.inn; have l2:=hrb'.inn
  have nea:=hra'.some rfl
  have neb:=hrb'.some rfl
  have hQ:∀ r kv p,SubT f t lev r kv p->kv≠[]:=fun _ _ _ h=>h.ne
  have ltA:∀ x∈la,LtB x.key above:=fun x hx=>by
   obtain ⟨u,hu,h⟩:=KidsP.some hQ ba x hx
   exact LtB.of_le h (lo u hu)
  rw [e]
  cases hlb:lb with
  | nil=>exact (neb hlb).elim
  | cons e0 lb' =>
   subst hlb
   have l2r:=List.pairwise_cons.1 l2.rise
   have he0:=l2.hd e0 lb' rfl
   have geB:∀ y∈lb',LtB above y.key:=fun y hy=>by
    cases bb with
    | @cons _ _ kv kvs p ps h blo bhi r =>
     obtain ⟨u,hu⟩:=List.exists_mem_of_ne_nil _ (hQ _ _ _ h)
     have h1:LtB u.1 y.key:=by
      cases lb' with
      | nil=>cases hy
      | cons e2 l3 =>
       have h2:=bhi e2 l3 rfl u hu
       rcases List.mem_cons.1 hy with h3 | h3
       .rw [h3]; exact h2
       .exact h2.trans ((List.pairwise_cons.1 l2r.2).1 y h3)
     exact LtB.of_le (hi u (List.mem_append_left _ hu)) h1
   have inn:InnP (la++hdK above (e0::lb')):=by
    refine ⟨fun x hx=>?_,List.pairwise_append.2 ⟨l1.rise,List.pairwise_cons.2 ⟨geB,l2r.2⟩,fun x hx y hy=>?_⟩,fun x l' hl=>?_⟩
    .rcases List.mem_append.1 hx with h | h
     .exact l1.ent x h
     .rcases List.mem_cons.1 h with h' | h'
      .subst h'; have:=l2.ent e0 (by simp); exact ⟨this.1,this.2.1,this.2.2.1,this.2.2.2.1,al⟩
      .exact l2.ent x (List.mem_cons_of_mem _ h')
    .rcases List.mem_cons.1 hy with h' | h'
     .subst h'; exact ltA x hx
     .exact (ltA x hx).trans (geB y h')
    .cases la with
     | nil=>exact (nea rfl).elim
     | cons a la' =>
      simp only [List.cons_append,List.cons.injEq] at hl
      rw [<- hl.1]; exact l1.hd a la' rfl
   refine ⟨inn.right (by simp [nea]) (by omega),oa.append fun x hx=>?_,KidsP.append ba (KidsP.head bb hi) fun e b' he x hx=>?_⟩
   .rcases List.mem_cons.1 hx with h' | h'
    .subst h'; have:=ob e0 (by simp); exact ⟨this.1,a8,this.2.2⟩
    .exact ob x (List.mem_cons_of_mem _ h')
   .cases he; exact lo x hx
theorem joinL_size{kind lev:Int}{la lb:List Ent}{above:List Int}:(wr kind lev (joinL kind la above lb)).length+3<=(wr kind lev la).length+(wr kind lev lb).length+above.length:=by
 rw [wr_len,wr_len,wr_len]
 unfold joinL
 rw [szL_append]
 split
 .cases lb with
  | nil=>simp [hdK,szL]
  | cons e l =>
   rw [hdK,szL_cons,szL_cons]
   have:=wrE_key kind e above
   omega
 .omega
theorem LefP.sub{a b c:List Ent}(h:LefP (a++(b++c))):LefP (a++c):=by
 have h2:=h.rise
 have h2:=List.pairwise_append.1 h2
 refine ⟨fun e he=>h.ent e ?_,List.pairwise_append.2 ⟨h2.1,(List.pairwise_append.1 h2.2.1).2.1,fun x hx y hy=>h2.2.2 x hx y (List.mem_append_right _ hy)⟩⟩
 rcases List.mem_append.1 he with h | h
 .exact List.mem_append_left _ h
 .exact List.mem_append_right _ (List.mem_append_right _ h)
theorem LefP.insert{a c:List Ent}{e:Ent}(h:LefP (a++c))(he:entP 1 0 e)(lo:∀ x∈a,LtB x.key e.key)(hi:∀ x∈c,LtB e.key x.key):LefP (a++(e::c)):=by
 have h2:=h.rise
 have h2:=List.pairwise_append.1 h2
 refine ⟨fun x hx=>?_,List.pairwise_append.2 ⟨h2.1,List.pairwise_cons.2 ⟨hi,h2.2.1⟩,fun x hx y hy=>?_⟩⟩
 .rcases List.mem_append.1 hx with h' | h'
  .exact h.ent x (List.mem_append_left _ h')
  .rcases List.mem_cons.1 h' with h' | h'
   .rw [h']; exact he
   .exact h.ent x (List.mem_append_right _ h')
 .rcases List.mem_cons.1 hy with h' | h'
  .rw [h']; exact lo x hx
  .exact h2.2.2 x hx y h'
theorem find_cut{l:List Ent}{key:List Int}{i:Nat}{fd:Bool}(h:Go.Proofs.YtcamoanigdfihaaGreat.FindP l key i fd)(hr:RiseP l):(∀ x∈l.take i,LtB x.key key)/\(∀ x∈l.drop (if fd then i+1 else i),LtB key x.key)/\(fd=true->i < l.length):=by
 refine ⟨fun x hx=>?_,fun x hx=>?_,fun e=>(h.eq.1 e).1⟩
 .obtain ⟨j,hj,rfl⟩:=List.getElem_of_mem hx
  simp only [List.length_take] at hj
  rw [List.getElem_take]; exact h.lt j (by omega) (by omega)
 .obtain ⟨j,hj,rfl⟩:=List.getElem_of_mem hx
  rw [List.length_drop] at hj
  rw [List.getElem_drop]
  have hl:=rise_iff.2 hr
  cases fd with
  | true =>
   obtain ⟨hi,e⟩:=h.eq.1 rfl
   simp only [if_true] at hj ⊢
   rw [<- e]; exact hl.lt (by omega) (by omega)
  | false =>
   simp only [Bool.false_eq_true,if_false] at hj ⊢
   have hge:=h.ge (by omega)
   rcases not_LtB.1 hge with e | e
   .have:=h.eq.2 ⟨by omega,e⟩; cases this
   .rcases Nat.eq_zero_or_pos j with h0 | h0
    .subst h0; exact e
    .exact e.trans (hl.lt (by omega) (by omega))
end
end Go.V
namespace Go.Proofs.YtcamoanigdfihaaGreat
open Go.V
section
abbrev strs(L:List ByteArray):List Value:=L.map Value.string
theorem Ix.str{w:Wd}{base:Nat}{e:TypeId}{s:Sl}{L:List ByteArray}{i:Int}{K:Addr->Prop}(o:Own w.heap base e 1 s (strs L))(h0:0<=i)(h1:i.toNat < L.length)
  (k:∀ b,s.a=some ⟨b,0,none⟩->Cell w ⟨b,i.toNat,none⟩ (.string L[i.toNat])->K ⟨b,i.toNat,none⟩):Ix s.a s.len i 1 K:=by
 have hl:=o.len
 simp only [List.length_map,Nat.mul_one] at hl
 have hne:strs L≠[]:=by intro h; rw [List.map_eq_nil_iff] at h; rw [h] at h1; simp at h1
 obtain ⟨b,rest,ha,_,hb,_,_⟩:=o.place hne
 refine ⟨_,ha,h0,by omega,?_⟩
 rw [addr_add_none rfl]
 simp only [Nat.zero_add,Nat.mul_one]
 refine k b ha (Cell.lst hb ?_)
 rw [List.getElem?_append_left (by simpa using h1)]
 simp [h1]
structure Sq(w0:Wd)(base:Nat)(e:TypeId)(s:Sl)(n:Nat)(L0:List ByteArray)(w:Wd):Prop where
 own:∃ L:List ByteArray,L.Perm L0/\Own w.heap base e 1 s (strs L)
 ext:Ext (fun q=>s.blk=some q) w0 w
 n:L0.length=n
variable {w0 w:Wd} {base:Nat} {e:TypeId} {s:Sl} {n:Nat} {L0:List ByteArray} {cmp:Value}
theorem Sq.no{w':Wd}(h:Sq w0 base e s n L0 w)(x:Ext No w w'):Sq w0 base e s n L0 w':=by
 obtain ⟨⟨L,hp,ho⟩,hx,hn⟩:=h
 exact ⟨⟨L,hp,ho.no x⟩,hx.no x,hn⟩
theorem Sq.drew{w':Wd}(h:Sq w0 base e s n L0 w)(x:Ext No (drewW w) w'):Sq w0 base e s n L0 w':=h.no x.drew_left
theorem Sq.at_{i:Int}{K:Addr->Prop}(h:Sq w0 base e s n L0 w)(h0:0<=i)(h1:i < n)(k:∀ b v,Cell w ⟨b,i.toNat,none⟩ (.string v)->K ⟨b,i.toNat,none⟩):Ix s.a s.len i 1 K:=by
 obtain ⟨⟨L,hp,ho⟩,hx,hn⟩:=h
 exact Ix.str ho h0 (by have:=hp.length_eq; omega) fun b _ c=>k b _ c
theorem Sq.rd{i:Int}{K:ByteArray->Prop}(h:Sq w0 base e s n L0 w)(h0:0<=i)(h1:i < n)(k:∀ v,K v):Ix s.a s.len i 1 fun a=>∃ vv:ByteArray,Held (Ext No w) a (.string vv)/\K vv :=
 h.at_ h0 h1 fun _ v c=>⟨v,Held.cell c,k v⟩
def CmpP(w0:Wd)(s:Sl)(cmp:Value):Prop:=∀{w:Wd}{x y:ByteArray}{K:Int->Wd->Prop},Ext (fun q=>s.blk=some q) w0 w->(∀ r w',Ext No w w'->K r w')->dynV pz false cmp [.string x, .string y] [.one (.int .i64)] K NoX w
theorem set_two_perm{L:List ByteArray}{x y:Nat}(hx:x < L.length)(hy:y < L.length):((L.set y L[x]).set x L[y]).Perm L:=by
 exact List.set_set_perm hy hx
theorem strs_set{L:List ByteArray}{i:Nat}{v:ByteArray}:(strs L).set i (.string v)=strs (L.set i v):=List.map_set.symm
theorem Ix.of{b:Nat}{i:Int}{K:Addr->Prop}(ha:s.a=some ⟨b,0,none⟩)(h0:0<=i)(h1:i < (s.len:Int))(k:K ⟨b,i.toNat,none⟩):Ix s.a s.len i 1 K:=by
 refine ⟨_,ha,h0,h1,?_⟩
 rw [addr_add_none rfl]
 simpa using k
def Swp(s:Sl)(S:Wd->Prop)(w:Wd)(x y:Int)(a_1 a_2:Addr)(K:Wd->Prop):Prop :=
  (∃ vv:ByteArray,Cell (drewW w) a_1 (.string vv)/\S (drewW w)/\∃ vv_1:ByteArray,Cell (drewW w) a_2 (.string vv_1)/\S (drewW w) /\
   Ix s.a s.len y 1 fun a_3=>St1 (drewW w) a_3 (.string vv) fun w2=>S w2/\Ix s.a s.len x 1 fun a_4=>St1 w2 a_4 (.string vv_1) fun w3=>S w3/\K w3) /\
  (∃ vv_2:ByteArray,Cell (drewW w) a_2 (.string vv_2)/\S (drewW w)/\∃ vv_3:ByteArray,Cell (drewW w) a_1 (.string vv_3)/\S (drewW w) /\
   Ix s.a s.len y 1 fun a_5=>St1 (drewW w) a_5 (.string vv_3) fun w4=>S w4/\Ix s.a s.len x 1 fun a_6=>St1 w4 a_6 (.string vv_2) fun w5=>S w5/\K w5)
theorem Sq.swp{S:Wd->Prop}{x y:Int}{K:Wd->Prop}(hS:∀ w,S w)(h:Sq w0 base e s n L0 w)(x0:0<=x)(x1:x < n)(y0:0<=y)(y1:y < n)(k:∀ w',Sq w0 base e s n L0 w'->Ext (fun q=>s.blk=some q) w w'->K w') :
  ∃ b,s.a=some ⟨b,0,none⟩/\s.len=n/\Swp s S w x y ⟨b,x.toNat,none⟩ ⟨b,y.toNat,none⟩ K:=by
 obtain ⟨⟨L,hp,ho⟩,hx,hn⟩:=h
 have hpl:=hp.length_eq
 have x2:x.toNat < L.length:=by omega
 have y2:y.toNat < L.length:=by omega
 have hl:=ho.len
 simp only [List.length_map,Nat.mul_one] at hl
 have both:Ix s.a s.len y 1 fun a_3=>St1 (drewW w) a_3 (.string L[x.toNat]) fun w2=>S w2/\Ix s.a s.len x 1 fun a_4=>St1 w2 a_4 (.string L[y.toNat]) fun w3=>S w3/\K w3:=by
  refine Ix.str (w:=drewW w) ho y0 y2 fun b ha _=>?_
  refine St1.at_ (w:=drewW w) ho ha (by simpa using y2) rfl fun w2 o2 e2 _=>⟨hS _,?_⟩
  rw [strs_set] at o2
  refine Ix.str o2 x0 (by simpa using x2) fun b' ha' _=>?_
  refine St1.at_ o2 ha' (by simpa using x2) rfl fun w3 o3 e3 _=>⟨hS _,?_⟩
  rw [strs_set] at o3
  have ex:Ext (fun q=>s.blk=some q) w w3:=e2.drew_left.trans e3 fun _ _ h=>h
  exact k w3 ⟨⟨_,(set_two_perm x2 y2).trans hp,o3⟩,hx.trans ex fun _ _ h=>h,hn⟩ ex
 have hne:strs L≠[]:=by intro h; rw [List.map_eq_nil_iff] at h; rw [h] at x2; simp at x2
 obtain ⟨b,rest,ha,_,hb,_,_⟩:=ho.place hne
 have cell:∀ i (h:i < L.length),Cell (drewW w) ⟨b,i,none⟩ (.string L[i]):=fun i h=>Cell.lst (w:=drewW w) hb (by rw [List.getElem?_append_left (by simpa using h)]; simp [h])
 exact ⟨b,ha,by omega,⟨_,cell _ x2,hS _,_,cell _ y2,hS _,both⟩,_,cell _ y2,hS _,_,cell _ x2,hS _,both⟩
theorem swap2{S:Wd->Prop}{x y:Int}{K:Wd->Prop}(hS:∀ w,S w)(h:Sq w0 base e s n L0 w)(x0:0<=x)(x1:x < n)(y0:0<=y)(y1:y < n)(k:∀ w',Sq w0 base e s n L0 w'->Ext (fun q=>s.blk=some q) w w'->K w') :
  Ix s.a s.len x 1 fun a_1=>Ix s.a s.len y 1 fun a_2=>Swp s S w x y a_1 a_2 K:=by
 obtain ⟨b,ha,hl,hk⟩:=h.swp hS x0 x1 y0 y1 k
 exact Ix.of ha x0 (by omega) (Ix.of ha y0 (by omega) hk)
theorem swap2a{S:Wd->Prop}{x y:Int}{K:Wd->Prop}(hS:∀ w,S w)(h:Sq w0 base e s n L0 w)(x0:0<=x)(x1:x < n)(y0:0<=y)(y1:y < n)(hn:n<=65535)(k:∀ w',Sq w0 base e s n L0 w'->Ext (fun q=>s.blk=some q) w w'->K w') :
  Ix s.a s.len x 1 fun a_1=>Ar .i64 y fun y'=>Ix s.a s.len y' 1 fun a_2=>Swp s S w x y a_1 a_2 K:=by
 obtain ⟨b,ha,hl,hk⟩:=h.swp hS x0 x1 y0 y1 k
 exact Ix.of ha x0 (by omega) (Ar.i64 (by omega) (Ix.of ha y0 (by omega) hk))
theorem insertion_spec{a b:Int}{K:Wd->Prop}(hc:CmpP w0 s cmp)(h:Sq w0 base e s n L0 w)(h0:0<=a)(hb:b<=n)(hn:n<=65535)(hab:a<=65535)(k:∀ w',Sq w0 base e s n L0 w'->K w'):C_slices_insertionSortCmpFunc_string s a b cmp w K:=by
 apply S_slices_insertionSortCmpFunc_string
 refine Ar.i64 (by omega) ⟨fun q i w'=>q=(b - i).toNat/\a+1<=i/\i<=70000/\Sq w0 base e s n L0 w',⟨_,rfl,by omega,by omega,h⟩,?_⟩
 rintro _ m0 i w1 ⟨hm,hi,hi2,h1⟩
 refine If.dec (fun hib=>?_) fun hib=>k w1 h1
 refine ⟨fun q j w'=>q=(j - a).toNat/\a<=j/\j<=i/\Sq w0 base e s n L0 w',⟨_,rfl,by omega,by omega,h1⟩,?_⟩
 rintro _ m1 j w2 ⟨hm1,hj,hj2,h2⟩
 have out:∀ w',Sq w0 base e s n L0 w'->Ar .i64 (i+1) fun z=>∃ m1,m1 < m0/\(m1=(b - z).toNat/\a+1<=z/\z<=70000/\Sq w0 base e s n L0 w'):=fun w' h'=>Ar.i64 (by omega) ⟨_,by omega,rfl,by omega,by omega,h'⟩
 refine ⟨fun w'=>Sq w0 base e s n L0 w'/\a < j,⟨Ext No w2,(Ext.refl _ _).drew,If.dec (fun hja=>h2.rd (by omega) (by omega) fun x=>Ar.i64 (by omega) (h2.rd (by omega) (by omega) fun y=>hc h2.ext.drew fun r w3 x3=>⟨x3.drew_left,If.dec (fun _=>⟨h2.drew x3,hja⟩) fun _=>out _ (h2.drew x3)⟩)) fun _=>out _ (h2.no (Ext.refl _ _).drew)⟩,?_⟩
 rintro _ w4 ⟨h4,hja⟩
 exact ⟨fun _=>True,trivial,Ar.i64 (by omega) (Ar.i64 (by omega) (swap2 (fun _=>trivial) h4 (by omega) (by omega) (by omega) (by omega) fun w6 h6 _=>Ar.i64 (by omega) ⟨_,by omega,rfl,by omega,by omega,h6⟩))⟩
theorem siftDown_spec{lo hi first:Int}{K:Wd->Prop}(hc:CmpP w0 s cmp)(h:Sq w0 base e s n L0 w)(h0:0<=lo)(hf:0<=first)(hb:first+hi<=n)(hn:n<=65535)(hlo:lo<=65535)(k:∀ w',Sq w0 base e s n L0 w'->K w'):C_slices_siftDownCmpFunc_string s lo hi first cmp w K:=by
 apply S_slices_siftDownCmpFunc_string
 refine ⟨fun q root w'=>q=(hi - root).toNat/\0<=root/\root<=65535/\Sq w0 base e s n L0 w',⟨_,rfl,h0,hlo,h⟩,?_⟩
 rintro _ m0 root w1 ⟨hm,hr,hr2,h1⟩
 refine Ar.i64 (by omega) (Ar.i64 (by omega) (If.dec (fun _=>k w1 h1) fun hch=>?_))
 refine ⟨fun child w'=>root < child/\child < hi/\Sq w0 base e s n L0 w',⟨Ext No w1,(Ext.refl _ _).drew,Ar.i64 (by omega) (If.dec (fun hc2=>Ar.i64 (by omega) (h1.rd (by omega) (by omega) fun x=>Ar.i64 (by omega) (Ar.i64 (by omega) (h1.rd (by omega) (by omega) fun y=>hc h1.ext.drew fun r w2 x2=>⟨x2.drew_left,If.dec (fun _=>Ar.i64 (by omega) ⟨by omega,by omega,h1.drew x2⟩) fun _=>⟨by omega,by omega,h1.drew x2⟩⟩)))) fun hc2=>⟨by omega,by omega,h1.no (Ext.refl _ _).drew⟩)⟩,?_⟩
 rintro _ child w3 ⟨hc1,hc2,h3⟩
 refine ⟨Ext No w3,(Ext.refl _ _).drew,Ar.i64 (by omega) (h3.rd (by omega) (by omega) fun x=>Ar.i64 (by omega) (h3.rd (by omega) (by omega) fun y=>hc h3.ext.drew fun r w4 x4=>⟨x4.drew_left,?_⟩))⟩
 have h4:=h3.drew x4
 refine If.not (If.dec (fun _=>?_) fun _=>k w4 h4)
 exact ⟨fun _=>True,trivial,Ar.i64 (by omega) (Ar.i64 (by omega) (Ar.i64 (by omega) (swap2a (fun _=>trivial) h4 (by omega) (by omega) (by omega) (by omega) hn fun w6 h6 _=>⟨_,by omega,rfl,by omega,by omega,h6⟩)))⟩
end
section
variable {w0 w:Wd} {base:Nat} {e:TypeId} {s:Sl} {n:Nat} {L0:List ByteArray} {cmp:Value}
theorem Ar.any{k:IntKind}{e:Int}{K:Int->Prop}(h:∀ z,K z):Ar k e K:=fun z _=>h z
theorem tbl_ok:∀ v:Nat,v < 256->∃ b,(ByteArray.data (⟨#[0,1,2,2,3,3,3,3,4,4,4,4,4,4,4,4,5,5,5,5,5,5,5,5,5,5,5,5,5,5,5,5,6,6,6,6,6,6,6,6,6,6,6,6,6,6,6,6,6,6,6,6,6,6,6,6,6,6,6,6,6,6,6,6,7,7,7,7,7,7,7,7,7,7,7,7,7,7,7,7,7,7,7,7,7,7,7,7,7,7,7,7,7,7,7,7,7,7,7,7,7,7,7,7,7,7,7,7,7,7,7,7,7,7,7,7,7,7,7,7,7,7,7,7,7,7,7,7,8,8,8,8,8,8,8,8,8,8,8,8,8,8,8,8,8,8,8,8,8,8,8,8,8,8,8,8,8,8,8,8,8,8,8,8,8,8,8,8,8,8,8,8,8,8,8,8,8,8,8,8,8,8,8,8,8,8,8,8,8,8,8,8,8,8,8,8,8,8,8,8,8,8,8,8,8,8,8,8,8,8,8,8,8,8,8,8,8,8,8,8,8,8,8,8,8,8,8,8,8,8,8,8,8,8,8,8,8,8,8,8,8,8,8,8,8,8,8,8,8,8,8,8,8,8,8,8]⟩)).toList[v]? = some b/\b.toNat<=8/\(1<=v->2 ^ b.toNat<=2 * v):=by
 have h:∀ v:Fin 256,((ByteArray.data (⟨#[0,1,2,2,3,3,3,3,4,4,4,4,4,4,4,4,5,5,5,5,5,5,5,5,5,5,5,5,5,5,5,5,6,6,6,6,6,6,6,6,6,6,6,6,6,6,6,6,6,6,6,6,6,6,6,6,6,6,6,6,6,6,6,6,7,7,7,7,7,7,7,7,7,7,7,7,7,7,7,7,7,7,7,7,7,7,7,7,7,7,7,7,7,7,7,7,7,7,7,7,7,7,7,7,7,7,7,7,7,7,7,7,7,7,7,7,7,7,7,7,7,7,7,7,7,7,7,7,8,8,8,8,8,8,8,8,8,8,8,8,8,8,8,8,8,8,8,8,8,8,8,8,8,8,8,8,8,8,8,8,8,8,8,8,8,8,8,8,8,8,8,8,8,8,8,8,8,8,8,8,8,8,8,8,8,8,8,8,8,8,8,8,8,8,8,8,8,8,8,8,8,8,8,8,8,8,8,8,8,8,8,8,8,8,8,8,8,8,8,8,8,8,8,8,8,8,8,8,8,8,8,8,8,8,8,8,8,8,8,8,8,8,8,8,8,8,8,8,8,8,8,8,8,8,8,8]⟩)).toList[v.1]?).any (fun b=>decide (b.toNat<=8) && (decide (v.1=0) || decide (2 ^ b.toNat<=2 * v.1)))=true:=by decide +kernel
 intro v hv
 have:=h ⟨v,hv⟩
 rw [Option.any_eq_true] at this
 obtain ⟨b,h1,h2⟩:=this
 simp only [Bool.and_eq_true,Bool.or_eq_true,decide_eq_true_eq] at h2
 exact ⟨b,h1,h2.1,fun h3=>h2.2.resolve_left (by omega)⟩
theorem bitsLen_spec{x:Int}{K:Int->Wd->Prop}(h0:0<=x)(h1:x<=65535)(k:∀ r:Nat,r<=16->(1<=x->(2:Int) ^ r<=2 * x)->K r w):C_math_bits_Len x w K:=by
 apply S_math_bits_Len
 apply S_math_bits_Len64
 refine ⟨fun y m w'=>y=x/\m=0/\w'=w,If.dec (fun h=>by omega) fun _=>⟨rfl,rfl,rfl⟩,?_⟩
 rintro _ y m w1 ⟨rfl,rfl,rfl⟩
 refine ⟨fun z m w'=>z=y/\m=0/\w'=w1,If.dec (fun h=>by omega) fun _=>⟨rfl,rfl,rfl⟩,?_⟩
 rintro _ y2 m2 w2 ⟨rfl,rfl,rfl⟩
 refine ⟨fun z m w'=>w'=w2/\((m=0/\z=y2/\y2 < 256)∨(m=8/\z=y2 / 256/\256<=y2)),If.dec (fun h=>⟨by decide,Nm.mk (Ar.i64 (by omega) ⟨rfl, .inr ⟨by omega,?_,by omega⟩⟩)⟩) fun h=>⟨rfl, .inl ⟨rfl,rfl,by omega⟩⟩,?_⟩
 .rw [show (2:Int) ^ min (Int.toNat 8) (IntKind.bits .u64)=256 from by decide,Int.fdiv_eq_ediv_of_nonneg _ (by omega)]
 rintro _ z m w3 ⟨rfl,hz⟩
 have hz2:0<=z/\z < 256/\0<=m/\m<=8:=by rcases hz with h | h <;> omega
 refine Ar.u8 (by omega) ?_
 obtain ⟨b,hb,hb8,hb2⟩:=tbl_ok z.toNat (by omega)
 refine ⟨b,by omega,hb,Ar.i64 (by omega) (Ar.i64 (by omega) ?_)⟩
 have e:m+(UInt8.toNat b:Int)=((m.toNat+b.toNat:Nat):Int):=by omega
 rw [e]
 refine k _ (by omega) fun hx=>?_
 have hp:((2:Int) ^ b.toNat)=((2 ^ b.toNat:Nat):Int):=by simp
 rcases hz with ⟨rfl,rfl,h⟩ | ⟨rfl,rfl,h⟩
 .have:=hb2 (by omega)
  rw [show (0:Int).toNat+b.toNat=b.toNat by simp,hp]; omega
 .have:=hb2 (by omega)
  rw [show (8:Int).toNat+b.toNat=8+b.toNat by simp,Int.pow_add,hp]; omega
theorem and_le{x y:Int}(h0:0<=y)(h1:y < 9223372036854775808):0<=bitI .and .u64 x y/\bitI .and .u64 x y<=y:=by
 have hw:∀ z:Int,0<=z->z < 18446744073709551616->IntKind.wrap .u64 z=z:=fun z h0 h1=>by simp [IntKind.wrap,IntKind.bits,IntKind.signed]; omega
 have hy:(BitVec.ofInt 64 y).toNat=y.toNat:=by rw [BitVec.toNat_ofInt]; omega
 have hle:(BitVec.ofInt 64 x &&& BitVec.ofInt 64 y).toNat<=y.toNat:=by rw [BitVec.toNat_and,<- hy]; exact Nat.and_le_right
 have hlt:=(BitVec.ofInt 64 x &&& BitVec.ofInt 64 y).isLt
 have e:bitI .and .u64 x y=((BitVec.ofInt 64 x &&& BitVec.ofInt 64 y).toNat:Int):=hw ((BitVec.ofInt 64 x &&& BitVec.ofInt 64 y).toNat:Int) (by omega) (by omega)
 rw [e]; omega
theorem xorshift_spec{b:Nat}{v:Int}{K:Int->Wd->Prop}(g:w.heap[b]? = some (.cells [.int .u64 v].toArray 299 (0,0)))(k:∀ v' w',w'.heap[b]? = some (.cells [.int .u64 v'].toArray 299 (0,0))->Ext (·=b) w w'->K v' w'):C_slices_xorshift_Next (some ⟨b,0,none⟩) w K:=by
 apply S_slices_xorshift_Next
 have st:∀{w:Wd}{v v':Int}{K:Wd->Prop},w.heap[b]? = some (.cells [.int .u64 v].toArray 299 (0,0))->(∀ w',w'.heap[b]? = some (.cells [.int .u64 v'].toArray 299 (0,0))->Ext (·=b) w w'->K w')->St1 (drewW w) ⟨b,0,none⟩ (.int .u64 v') K:=fun {w v v' K} g k =>
  St1.mk (w:=drewW w) g (by simp) rfl fun w' h'=>k w' (h'.get (w:=drewW w) g) h'.ext.drew_left
 refine ⟨Ext No w,(Ext.refl _ _).drew,_,rfl,_,Held.cell (Cell.lst g rfl),_,rfl,_,Held.cell (Cell.lst g rfl),by decide,Ar.any fun z=>Nm.mk ⟨_,rfl,st g fun w1 g1 x1=>?_⟩⟩
 refine ⟨Ext No w1,(Ext.refl _ _).drew,_,rfl,_,Held.cell (Cell.lst g1 rfl),_,rfl,_,Held.cell (Cell.lst g1 rfl),by decide,Nm.mk (Nm.mk ⟨_,rfl,st g1 fun w2 g2 x2=>?_⟩)⟩
 refine ⟨Ext No w2,(Ext.refl _ _).drew,_,rfl,_,Held.cell (Cell.lst g2 rfl),_,rfl,_,Held.cell (Cell.lst g2 rfl),by decide,Ar.any fun z=>Nm.mk ⟨_,rfl,st g2 fun w3 g3 x3=>?_⟩⟩
 exact ⟨_,rfl,_,Cell.lst g3 rfl,k _ w3 g3 ((x1.trans x2 fun _ _ h=>h).trans x3 fun _ _ h=>h)⟩
theorem nextPow_spec{x:Int}{K:Int->Wd->Prop}(h0:1<=x)(h1:x<=65535)(k:∀ z:Int,1<=z->z<=2 * x->K z w):C_slices_nextPowerOfTwo x w K:=by
 apply S_slices_nextPowerOfTwo
 refine Ar.u64 (by omega) (bitsLen_spec (by omega) h1 fun r hr h2=>⟨by omega,?_⟩)
 have h3:=h2 h0
 have e:(1:Int) * 2 ^ min (Int.toNat (r:Int)) (IntKind.bits .u64)=2 ^ r:=by
  rw [Int.toNat_natCast,Nat.min_eq_left (by show r<=64; omega)]; simp
 rw [e]
 have h4:(1:Int)<=2 ^ r:=by
  have:=Nat.pow_pos (n:=r) (show 0 < 2 by decide)
  have e2:((2:Int) ^ r)=((2 ^ r:Nat):Int):=by simp
  omega
 exact Ar.u64 (by omega) (k _ h4 h3)
theorem heapSort_spec{a b:Int}{K:Wd->Prop}(hc:CmpP w0 s cmp)(h:Sq w0 base e s n L0 w)(h0:0<=a)(hab:a < b)(hb:b<=n)(hn:n<=65535)(k:∀ w',Sq w0 base e s n L0 w'->K w'):C_slices_heapSortCmpFunc_string s a b cmp w K:=by
 apply S_slices_heapSortCmpFunc_string
 have q:Int.tdiv (b - a - 1) 2=(b - a - 1) / 2:=Int.tdiv_eq_ediv_of_nonneg (by omega)
 refine Ar.i64 (by omega) (Ar.i64 (by omega) ⟨by decide,?_⟩)
 rw [q]
 refine Ar.i64 (by omega) ⟨fun q i w'=>q=(i+1).toNat /\ -1<=i/\i<=b - a/\Sq w0 base e s n L0 w',⟨_,rfl,by omega,by omega,h⟩,?_⟩
 rintro _ m0 i w1 ⟨hm,hi,hi2,h1⟩
 refine If.dec (fun hi3=>siftDown_spec hc h1 (by omega) h0 (by omega) hn (by omega) fun w2 h2=>Ar.i64 (by omega) ⟨_,by omega,rfl,by omega,by omega,h2⟩) fun _=>?_
 refine Ar.i64 (by omega) ⟨fun q i w'=>q=(i+1).toNat /\ -1<=i/\i < b - a/\Sq w0 base e s n L0 w',⟨_,rfl,by omega,by omega,h1⟩,?_⟩
 rintro _ m1 j w3 ⟨hm1,hj,hj2,h3⟩
 refine If.dec (fun hj3=>⟨fun _=>True,trivial,Ar.i64 (by omega) (Ar.i64 (by omega) (swap2 (fun _=>trivial) h3 (by omega) (by omega) (by omega) (by omega) fun w5 h5 _=>siftDown_spec hc h5 (by omega) h0 (by omega) hn (by omega) fun w6 h6=>Ar.i64 (by omega) ⟨_,by omega,rfl,by omega,by omega,h6⟩))⟩) fun _=>k w3 h3
theorem breakPatterns_spec{a b:Int}{K:Wd->Prop}(h:Sq w0 base e s n L0 w)(hw:w0.heap.size<=w.heap.size)(h0:0<=a)(hab:a<=b)(hb:b<=n)(hn:n<=65535)(k:∀ w',Sq w0 base e s n L0 w'->K w'):C_slices_breakPatternsCmpFunc_string s a b cmp w K:=by
 apply S_slices_breakPatternsCmpFunc_string
 have q:Int.tdiv (b - a) 4=(b - a) / 4:=Int.tdiv_eq_ediv_of_nonneg (by omega)
 refine Ar.i64 (by omega) (If.dec (fun h8=>Ar.u64 (by omega) (NewW.mk fun b1 w1 n1=>St1.mk n1.get (by simp) rfl fun w2 h2=>?_)) fun _=>k w h)
 have hb1:=n1.at_; have z1:=n1.size
 have x12:Ext (·=b1) w1 w2:=h2.ext
 have g2:w2.heap[b1]? = some (.cells [.int .u64 (b - a)].toArray 299 (0,0)):=h2.get n1.get
 have x02:Ext No w w2:=n1.ext.trans x12 fun q hq h=>by omega
 have sq2:=h.no x02
 have nbs:s.blk≠some b1:=fun hs=>by
  obtain ⟨L,_,ho⟩:=h.own
  have:=ho.lt hs; omega
 refine nextPow_spec (by omega) (by omega) fun p hp1 hp2=>⟨by decide,?_⟩
 simp only [q]
 refine Ar.i64 (by omega) (Ar.i64 (by omega) (Ar.i64 (by omega) (Ar.i64 (by omega) ⟨fun q i w'=>q=(b+1 - i).toNat/\a<=i/\i<=a+(b - a) / 4 * 2+2/\Sq w0 base e s n L0 w'/\∃ v,w'.heap[b1]? = some (.cells [.int .u64 v].toArray 299 (0,0)),⟨_,rfl,by omega,by omega,sq2,_,g2⟩,?_⟩)))
 rintro _ m0 i w4 ⟨hm,hi,hi2,h4,v,g4⟩
 refine ⟨by decide,Ar.i64 (by omega) (Ar.i64 (by omega) (Ar.i64 (by omega) (Ar.i64 (by omega) (If.dec (fun hle=>?_) fun _=>k w4 h4))))⟩
 refine xorshift_spec g4 fun v' w5 g5 x5=>Ar.u64 (by omega) (Nm.mk ?_)
 have hand:=and_le (x:=v') (y:=p - 1) (by omega) (by omega)
 have sq5:Sq w0 base e s n L0 w5:=by
  obtain ⟨⟨L,hpm,ho⟩,hx,hln⟩:=h4
  exact ⟨⟨L,hpm,ho.ext x5 fun q hq h'=>nbs (by rw [hq,h'])⟩,hx.trans x5 fun q hq h'=>by omega,hln⟩
 refine Ar.i64 (by omega) ⟨fun o w'=>0<=o/\o < b - a/\w'=w5,If.dec (fun _=>Ar.i64 (by omega) ⟨by omega,by omega,rfl⟩) fun _=>⟨by omega,by omega,rfl⟩,?_⟩
 rintro _ o w6 ⟨ho1,ho2,rfl⟩
 exact ⟨fun _=>True,trivial,Ar.i64 (by omega) (Ar.i64 (by omega) (swap2 (fun _=>trivial) sq5 (by omega) (by omega) (by omega) (by omega) fun w8 h8' x8=>Ar.i64 (by omega) ⟨_,by omega,rfl,by omega,by omega,h8',v',get_ext g5 x8 nbs⟩))⟩
structure Sw(w0:Wd)(base:Nat)(e:TypeId)(s:Sl)(n:Nat)(L0:List ByteArray)(b1:Nat)(w:Wd):Prop where
 sq:Sq w0 base e s n L0 w
 g:∃ v,w.heap[b1]? = some (.cells [.int .i64 v].toArray 3 (0,0))
theorem order2_spec{b1:Nat}{a b:Int}{K:Int->Int->Wd->Prop}(hc:CmpP w0 s cmp)(h:Sw w0 base e s n L0 b1 w)(hb1:w0.heap.size<=b1)(nbs:s.blk≠some b1)(a0:0<=a)(a1:a < n)(b0:0<=b)(b2:b < n)(k:∀ r0 r1 w',(r0=a/\r1=b∨r0=b/\r1=a)->Sw w0 base e s n L0 b1 w'->K r0 r1 w'):C_slices_order2CmpFunc_string s a b (some ⟨b1,0,none⟩) cmp w K:=by
 apply S_slices_order2CmpFunc_string
 obtain ⟨hs,v,g⟩:=h
 refine ⟨Ext No w,(Ext.refl _ _).drew,hs.rd b0 b2 fun x=>hs.rd a0 a1 fun y=>hc hs.ext.drew fun r w1 x1=>⟨x1.drew_left,?_⟩⟩
 have g1:=get_no g x1.drew_left
 have s1:=hs.drew x1
 refine If.dec (fun _=>⟨_,rfl,_,Cell.lst g1 rfl,Ar.any fun z=>⟨_,rfl,St1.mk g1 (by simp) rfl fun w2 h2=>?_⟩⟩) fun _=>k _ _ _ (.inl ⟨rfl,rfl⟩) ⟨s1,v,g1⟩
 have x2:Ext (·=b1) w1 w2:=h2.ext
 refine k _ _ _ (.inr ⟨rfl,rfl⟩) ⟨?_,z,h2.get g1⟩
 obtain ⟨⟨L,hpm,ho⟩,hx,hln⟩:=s1
 exact ⟨⟨L,hpm,ho.ext x2 fun q hq h'=>nbs (by rw [hq,h'])⟩,hx.trans x2 fun q hq h'=>by omega,hln⟩
theorem median_spec{b1:Nat}{a b c lo hi:Int}{K:Int->Wd->Prop}(hc:CmpP w0 s cmp)(h:Sw w0 base e s n L0 b1 w)(hb1:w0.heap.size<=b1)(nbs:s.blk≠some b1)(l0:0<=lo)(hin:hi<=n)(ha:lo<=a/\a < hi)(hb:lo<=b/\b < hi)(hcc:lo<=c/\c < hi)(k:∀ r w',lo<=r/\r < hi->Sw w0 base e s n L0 b1 w'->K r w'):C_slices_medianCmpFunc_string s a b c (some ⟨b1,0,none⟩) cmp w K:=by
 apply S_slices_medianCmpFunc_string
 refine order2_spec hc h hb1 nbs (by omega) (by omega) (by omega) (by omega) fun r0 r1 w1 e1 h1=>?_
 refine order2_spec hc h1 hb1 nbs (by omega) (by omega) (by omega) (by omega) fun r2 r3 w2 e2 h2=>?_
 refine order2_spec hc h2 hb1 nbs (by omega) (by omega) (by omega) (by omega) fun r4 r5 w3 e3 h3=>k _ _ (by omega) h3
theorem medianAdj_spec{b1:Nat}{a lo hi:Int}{K:Int->Wd->Prop}(hc:CmpP w0 s cmp)(h:Sw w0 base e s n L0 b1 w)(hb1:w0.heap.size<=b1)(nbs:s.blk≠some b1)(l0:0<=lo)(hin:hi<=n)(hn:n<=65535)(ha:lo+1<=a/\a+1 < hi)(k:∀ r w',lo<=r/\r < hi->Sw w0 base e s n L0 b1 w'->K r w'):C_slices_medianAdjacentCmpFunc_string s a (some ⟨b1,0,none⟩) cmp w K:=by
 apply S_slices_medianAdjacentCmpFunc_string
 exact Ar.i64 (by omega) (Ar.i64 (by omega) (median_spec hc h hb1 nbs l0 hin (by omega) (by omega) (by omega) k))
theorem choosePivot_spec{a b:Int}{K:Int->Int->Wd->Prop}(hc:CmpP w0 s cmp)(h:Sq w0 base e s n L0 w)(hw:w0.heap.size<=w.heap.size)(h0:0<=a)(hab:a < b)(hb:b<=n)(hn:n<=65535)(k:∀ r hint w',a<=r/\r < b->Sq w0 base e s n L0 w'->K r hint w'):C_slices_choosePivotCmpFunc_string s a b cmp w K:=by
 apply S_slices_choosePivotCmpFunc_string
 have q:Int.tdiv (b - a) 4=(b - a) / 4:=Int.tdiv_eq_ediv_of_nonneg (by omega)
 refine Ar.i64 (by omega) (NewW.mk fun b1 w1 n1=>⟨by decide,?_⟩)
 have hb1:=n1.at_
 have nbs:s.blk≠some b1:=fun hs=>by
  obtain ⟨L,_,ho⟩:=h.own
  have:=ho.lt hs; omega
 have sw1:Sw w0 base e s n L0 b1 w1:=⟨h.no n1.ext,0,n1.get⟩
 simp only [q]
 refine Ar.i64 (by omega) (Ar.i64 (by omega) (Ar.i64 (by omega) ⟨by decide,Ar.i64 (by omega) (Ar.i64 (by omega) (Ar.i64 (by omega) ⟨by decide,Ar.i64 (by omega) (Ar.i64 (by omega) (Ar.i64 (by omega) ?_))⟩))⟩))
 refine ⟨fun j w'=>a<=j/\j < b/\Sw w0 base e s n L0 b1 w',If.dec (fun h8=>?_) fun _=>⟨by omega,by omega,sw1⟩,?_⟩
 .refine ⟨fun i j l w'=>(a<=i/\i < b)/\(a<=j/\j < b)/\(a<=l/\l < b)/\Sw w0 base e s n L0 b1 w',If.dec (fun h50=>?_) fun _=>⟨by omega,by omega,by omega,sw1⟩,?_⟩
  .exact medianAdj_spec (lo:=a) (hi:=b) hc sw1 (by omega) nbs h0 hb hn (by omega) fun r w2 hr s2=>medianAdj_spec (lo:=a) (hi:=b) hc s2 (by omega) nbs h0 hb hn (by omega) fun r1 w3 hr1 s3=>medianAdj_spec (lo:=a) (hi:=b) hc s3 (by omega) nbs h0 hb hn (by omega) fun r2 w4 hr2 s4=>⟨hr,hr1,hr2,s4⟩
  .rintro _ i j l w5 ⟨hi,hj,hl,s5⟩
   exact median_spec (lo:=a) (hi:=b) hc s5 (by omega) nbs h0 hb hi hj hl fun r w6 hr s6=>⟨hr.1,hr.2,s6⟩
 .rintro _ j w7 ⟨hj1,hj2,s7,v,g7⟩
  exact ⟨_,Cell.lst g7 rfl,If.beq (fun _=>k _ _ _ ⟨hj1,hj2⟩ s7) fun _=>If.beq (fun _=>k _ _ _ ⟨hj1,hj2⟩ s7) fun _=>k _ _ _ ⟨hj1,hj2⟩ s7⟩
theorem reverseRange_spec{a b:Int}{K:Wd->Prop}(h:Sq w0 base e s n L0 w)(h0:0<=a)(hab:a<=b)(hb:b<=n)(hn:n<=65535)(k:∀ w',Sq w0 base e s n L0 w'->K w'):C_slices_reverseRangeCmpFunc_string s a b cmp w K:=by
 apply S_slices_reverseRangeCmpFunc_string
 refine Ar.i64 (by omega) ⟨fun q i j w'=>q=(j+1 - i).toNat/\a<=i/\i<=b /\ -1<=j/\j < b/\Sq w0 base e s n L0 w',⟨_,rfl,by omega,by omega,by omega,by omega,h⟩,?_⟩
 rintro _ m0 i j w1 ⟨hm,hi,hi2,hj,hj2,h1⟩
 exact If.dec (fun hij=>⟨fun _=>True,trivial,swap2 (fun _=>trivial) h1 (by omega) (by omega) (by omega) (by omega) fun w3 h3 _=>Ar.i64 (by omega) (Ar.i64 (by omega) ⟨_,by omega,rfl,by omega,by omega,by omega,by omega,h3⟩)⟩) fun _=>k w1 h1
end
section
variable {w0 w:Wd} {base:Nat} {e:TypeId} {s:Sl} {n:Nat} {L0:List ByteArray} {cmp:Value}
theorem partitionEqual_spec{a b p:Int}{K:Int->Wd->Prop}(hc:CmpP w0 s cmp)(h:Sq w0 base e s n L0 w)(h0:0<=a)(hab:a < b)(hb:b<=n)(hn:n<=65535)(hp:a<=p/\p < b)(k:∀ r w',a < r/\r<=b->Sq w0 base e s n L0 w'->K r w'):C_slices_partitionEqualCmpFunc_string s a b p cmp w K:=by
 apply S_slices_partitionEqualCmpFunc_string
 refine ⟨fun _=>True,trivial,swap2 (fun _=>trivial) h (by omega) (by omega) (by omega) (by omega) fun w2 h2 _=>Ar.i64 (by omega) (Ar.i64 (by omega) ?_)⟩
 refine ⟨fun q i j w'=>q=(j+2 - i).toNat/\a+1<=i/\i<=b/\a<=j/\j<=b - 1/\i<=j+2/\Sq w0 base e s n L0 w',⟨_,rfl,by omega,by omega,by omega,by omega,by omega,h2⟩,?_⟩
 rintro _ m0 i j w3 ⟨hm,hi,hi2,hj,hj2,hij,h3⟩
 refine ⟨fun i' w'=>i<=i'/\i'<=b/\(i'<=j+1∨i'=i)/\Sq w0 base e s n L0 w',⟨fun q i' w'=>q=(b - i').toNat/\i<=i'/\i'<=b/\(i'<=j+1∨i'=i)/\Sq w0 base e s n L0 w',⟨_,rfl,by omega,by omega, .inr rfl,h3⟩,?_⟩,?_⟩
 .rintro _ m1 i1 w4 ⟨hm1,a1,a2,a3,h4⟩
  refine ⟨Ext No w4,(Ext.refl _ _).drew,If.dec (fun hle=>h4.rd (by omega) (by omega) fun x=>h4.rd (by omega) (by omega) fun y=>hc h4.ext.drew fun r w5 x5=>⟨x5.drew_left,If.not (If.dec (fun _=>⟨a1,a2,a3,h4.drew x5⟩) fun _=>Ar.i64 (by omega) ⟨_,by omega,rfl,by omega,by omega, .inl (by omega),h4.drew x5⟩)⟩) fun _=>⟨a1,a2,a3,h4.no (Ext.refl _ _).drew⟩⟩
 rintro _ i2 w6 ⟨a1,a2,a3,h6⟩
 refine ⟨fun j' w'=>j'<=j/\a<=j'/\Sq w0 base e s n L0 w',⟨fun q j' w'=>q=(j'+1 - a).toNat/\j'<=j/\a<=j'/\Sq w0 base e s n L0 w',⟨_,rfl,by omega,hj,h6⟩,?_⟩,?_⟩
 .rintro _ m1 j1 w7 ⟨hm1,b1,b2,h7⟩
  refine ⟨Ext No w7,(Ext.refl _ _).drew,If.dec (fun hle=>h7.rd (by omega) (by omega) fun x=>h7.rd (by omega) (by omega) fun y=>hc h7.ext.drew fun r w8 x8=>⟨x8.drew_left,If.dec (fun _=>Ar.i64 (by omega) ⟨_,by omega,rfl,by omega,by omega,h7.drew x8⟩) fun _=>⟨b1,b2,h7.drew x8⟩⟩) fun _=>⟨b1,b2,h7.no (Ext.refl _ _).drew⟩⟩
 rintro _ j2 w9 ⟨b1,b2,h9⟩
 refine If.dec (fun _=>k _ _ (by omega) h9) fun hle=>⟨fun _=>True,trivial,swap2 (fun _=>trivial) h9 (by omega) (by omega) (by omega) (by omega) fun w11 h11 _=>Ar.i64 (by omega) (Ar.i64 (by omega) ⟨_,by omega,rfl,by omega,by omega,by omega,by omega,by omega,h11⟩)⟩
theorem partition_spec{a b p:Int}{K:Int->Bool->Wd->Prop}(hc:CmpP w0 s cmp)(h:Sq w0 base e s n L0 w)(h0:0<=a)(hab:a < b)(hb:b<=n)(hn:n<=65535)(hp:a<=p/\p < b)(k:∀ r d w',a<=r/\r < b->Sq w0 base e s n L0 w'->K r d w'):C_slices_partitionCmpFunc_string s a b p cmp w K:=by
 apply S_slices_partitionCmpFunc_string
 refine ⟨fun _=>True,trivial,swap2 (fun _=>trivial) h (by omega) (by omega) (by omega) (by omega) fun w2 h2 _=>Ar.i64 (by omega) (Ar.i64 (by omega) ?_)⟩
 refine ⟨fun i w'=>a+1<=i/\i<=b/\Sq w0 base e s n L0 w',⟨fun q i w'=>q=(b - i).toNat/\a+1<=i/\i<=b/\Sq w0 base e s n L0 w',⟨_,rfl,by omega,by omega,h2⟩,?_⟩,?_⟩
 .rintro _ m1 i1 w4 ⟨hm1,a1,a2,h4⟩
  refine ⟨Ext No w4,(Ext.refl _ _).drew,If.dec (fun hle=>h4.rd (by omega) (by omega) fun x=>h4.rd (by omega) (by omega) fun y=>hc h4.ext.drew fun r w5 x5=>⟨x5.drew_left,If.dec (fun _=>Ar.i64 (by omega) ⟨_,by omega,rfl,by omega,by omega,h4.drew x5⟩) fun _=>⟨a1,a2,h4.drew x5⟩⟩) fun _=>⟨a1,a2,h4.no (Ext.refl _ _).drew⟩⟩
 rintro _ i1 w5 ⟨a1,a2,h5⟩
 refine ⟨fun j w'=>a<=j/\j<=b - 1/\Sq w0 base e s n L0 w',⟨fun q j w'=>q=(j+1 - a).toNat/\a<=j/\j<=b - 1/\Sq w0 base e s n L0 w',⟨_,rfl,by omega,by omega,h5⟩,?_⟩,?_⟩
 .rintro _ m1 j w7 ⟨hm1,b1,b2,h7⟩
  refine ⟨Ext No w7,(Ext.refl _ _).drew,If.dec (fun hle=>h7.rd (by omega) (by omega) fun x=>h7.rd (by omega) (by omega) fun y=>hc h7.ext.drew fun r w8 x8=>⟨x8.drew_left,If.not (If.dec (fun _=>⟨b1,b2,h7.drew x8⟩) fun _=>Ar.i64 (by omega) ⟨_,by omega,rfl,by omega,by omega,h7.drew x8⟩)⟩) fun _=>⟨b1,b2,h7.no (Ext.refl _ _).drew⟩⟩
 rintro _ j1 w8 ⟨b1,b2,h8⟩
 refine If.dec (fun _=>⟨fun _=>True,trivial,swap2 (fun _=>trivial) h8 (by omega) (by omega) (by omega) (by omega) fun w10 h10 _=>k _ _ _ (by omega) h10⟩) fun hle=>⟨fun _=>True,trivial,swap2 (fun _=>trivial) h8 (by omega) (by omega) (by omega) (by omega) fun w12 h12 _=>Ar.i64 (by omega) (Ar.i64 (by omega) ?_)⟩
 refine ⟨fun j w'=>a<=j/\j<=b - 1/\Sq w0 base e s n L0 w',⟨fun q i j w'=>q=(j+2 - i).toNat/\a+1<=i/\i<=b/\a<=j/\j<=b - 1/\i<=j+2/\Sq w0 base e s n L0 w',⟨_,rfl,by omega,by omega,by omega,by omega,by omega,h12⟩,?_⟩,?_⟩
 .rintro _ m0 i j w3 ⟨hm,hi,hi2,hj,hj2,hij,h3⟩
  refine ⟨fun i' w'=>i<=i'/\i'<=b/\(i'<=j+1∨i'=i)/\Sq w0 base e s n L0 w',⟨fun q i' w'=>q=(b - i').toNat/\i<=i'/\i'<=b/\(i'<=j+1∨i'=i)/\Sq w0 base e s n L0 w',⟨_,rfl,by omega,by omega, .inr rfl,h3⟩,?_⟩,?_⟩
  .rintro _ m1 i1 w4 ⟨hm1,a1,a2,a3,h4⟩
   refine ⟨Ext No w4,(Ext.refl _ _).drew,If.dec (fun hle=>h4.rd (by omega) (by omega) fun x=>h4.rd (by omega) (by omega) fun y=>hc h4.ext.drew fun r w5 x5=>⟨x5.drew_left,If.dec (fun _=>Ar.i64 (by omega) ⟨_,by omega,rfl,by omega,by omega, .inl (by omega),h4.drew x5⟩) fun _=>⟨a1,a2,a3,h4.drew x5⟩⟩) fun _=>⟨a1,a2,a3,h4.no (Ext.refl _ _).drew⟩⟩
  rintro _ i2 w6 ⟨a1,a2,a3,h6⟩
  refine ⟨fun j' w'=>j'<=j/\a<=j'/\Sq w0 base e s n L0 w',⟨fun q j' w'=>q=(j'+1 - a).toNat/\j'<=j/\a<=j'/\Sq w0 base e s n L0 w',⟨_,rfl,by omega,hj,h6⟩,?_⟩,?_⟩
  .rintro _ m1 j1 w7 ⟨hm1,b1,b2,h7⟩
   refine ⟨Ext No w7,(Ext.refl _ _).drew,If.dec (fun hle=>h7.rd (by omega) (by omega) fun x=>h7.rd (by omega) (by omega) fun y=>hc h7.ext.drew fun r w8 x8=>⟨x8.drew_left,If.not (If.dec (fun _=>⟨b1,b2,h7.drew x8⟩) fun _=>Ar.i64 (by omega) ⟨_,by omega,rfl,by omega,by omega,h7.drew x8⟩)⟩) fun _=>⟨b1,b2,h7.no (Ext.refl _ _).drew⟩⟩
  rintro _ j2 w9 ⟨b1,b2,h9⟩
  refine If.dec (fun _=>⟨by omega,by omega,h9⟩) fun hle=>⟨fun _=>True,trivial,swap2 (fun _=>trivial) h9 (by omega) (by omega) (by omega) (by omega) fun w11 h11 _=>Ar.i64 (by omega) (Ar.i64 (by omega) ⟨_,by omega,rfl,by omega,by omega,by omega,by omega,by omega,h11⟩)⟩
 rintro _ j5 w22 ⟨c1,c2,h22⟩
 exact ⟨fun _=>True,trivial,swap2 (fun _=>trivial) h22 (by omega) (by omega) (by omega) (by omega) fun w24 h24 _=>k _ _ _ (by omega) h24⟩
theorem partialIns_spec{a b:Int}{K:Bool->Wd->Prop}(hc:CmpP w0 s cmp)(h:Sq w0 base e s n L0 w)(h0:0<=a)(hab:a < b)(hb:b<=n)(hn:n<=65535)(k:∀ r w',Sq w0 base e s n L0 w'->K r w'):C_slices_partialInsertionSortCmpFunc_string s a b cmp w K:=by
 apply S_slices_partialInsertionSortCmpFunc_string
 refine Ar.i64 (by omega) ⟨fun q i j w'=>q=(5 - j).toNat/\a+1<=i/\i<=b/\0<=j/\j<=5/\Sq w0 base e s n L0 w',⟨_,rfl,by omega,by omega,by omega,by omega,h⟩,?_⟩
 rintro _ m0 i j w1 ⟨hm,hi,hi2,hj,hj2,h1⟩
 refine If.dec (fun hj5=>?_) fun _=>k _ _ h1
 refine ⟨fun i' w'=>a+1<=i'/\i'<=b/\Sq w0 base e s n L0 w',⟨fun q i' w'=>q=(b - i').toNat/\a+1<=i'/\i'<=b/\Sq w0 base e s n L0 w',⟨_,rfl,hi,hi2,h1⟩,?_⟩,?_⟩
 .rintro _ m1 i1 w2 ⟨hm1,a1,a2,h2⟩
  refine ⟨Ext No w2,(Ext.refl _ _).drew,If.dec (fun hib=>h2.rd (by omega) (by omega) fun x=>Ar.i64 (by omega) (h2.rd (by omega) (by omega) fun y=>hc h2.ext.drew fun r w3 x3=>⟨x3.drew_left,If.not (If.dec (fun _=>⟨a1,a2,h2.drew x3⟩) fun _=>Ar.i64 (by omega) ⟨_,by omega,rfl,by omega,by omega,h2.drew x3⟩)⟩)) fun _=>⟨a1,a2,h2.no (Ext.refl _ _).drew⟩⟩
 rintro _ i2 w4 ⟨a1,a2,h4⟩
 have out:∀ w',Sq w0 base e s n L0 w'->Ar .i64 (j+1) fun z=>∃ m1,m1 < m0/\(m1=(5 - z).toNat/\a+1<=i2/\i2<=b/\0<=z/\z<=5/\Sq w0 base e s n L0 w'):=fun w' h'=>Ar.i64 (by omega) ⟨_,by omega,rfl,a1,a2,by omega,by omega,h'⟩
 refine If.beq (fun _=>k _ _ h4) fun hne=>Ar.i64 (by omega) (If.dec (fun _=>k _ _ h4) fun h50=>⟨fun _=>True,trivial,Ar.i64 (by omega) (Ar.i64 (by omega) (swap2 (fun _=>trivial) h4 (by omega) (by omega) (by omega) (by omega) fun w6 h6 _=>?_))⟩)
 refine ⟨fun w'=>Sq w0 base e s n L0 w',Ar.i64 (by omega) (If.dec (fun _=>Ar.i64 (by omega) ⟨fun q j1 w'=>q=j1.toNat/\0<=j1/\j1 < b/\Sq w0 base e s n L0 w',⟨_,rfl,by omega,by omega,h6⟩,?_⟩) fun _=>h6),?_⟩
 .rintro _ m1 j1 w7 ⟨hm1,b1,b2,h7⟩
  refine If.dec (fun hj1=>?_) fun _=>h7
  refine ⟨Ext No w7,(Ext.refl _ _).drew,h7.rd (by omega) (by omega) fun x=>Ar.i64 (by omega) (h7.rd (by omega) (by omega) fun y=>hc h7.ext.drew fun r w8 x8=>⟨x8.drew_left,If.not (If.dec (fun _=>?_) fun _=>h7.drew x8)⟩)⟩
  exact ⟨fun _=>True,trivial,Ar.i64 (by omega) (Ar.i64 (by omega) (swap2 (fun _=>trivial) (h7.drew x8) (by omega) (by omega) (by omega) (by omega) fun w10 h10 _=>Ar.i64 (by omega) ⟨_,by omega,rfl,by omega,by omega,h10⟩))⟩
 .rintro _ w11 h11
  refine Ar.i64 (by omega) (If.dec (fun _=>Ar.i64 (by omega) ⟨fun q j2 w'=>q=(b - j2).toNat/\a+1<=j2/\j2<=b/\Sq w0 base e s n L0 w',⟨_,rfl,by omega,by omega,h11⟩,?_⟩) fun _=>out _ h11)
  rintro _ m1 j2 w12 ⟨hm1,b1,b2,h12⟩
  refine If.dec (fun hj2=>?_) fun _=>out _ h12
  refine ⟨Ext No w12,(Ext.refl _ _).drew,h12.rd (by omega) (by omega) fun x=>Ar.i64 (by omega) (h12.rd (by omega) (by omega) fun y=>hc h12.ext.drew fun r w13 x13=>⟨x13.drew_left,If.not (If.dec (fun _=>?_) fun _=>out _ (h12.drew x13))⟩)⟩
  exact ⟨fun _=>True,trivial,Ar.i64 (by omega) (Ar.i64 (by omega) (swap2 (fun _=>trivial) (h12.drew x13) (by omega) (by omega) (by omega) (by omega) fun w15 h15 _=>Ar.i64 (by omega) ⟨_,by omega,rfl,by omega,by omega,h15⟩))⟩
theorem pdq_spec(hc:CmpP w0 s cmp)(hn:n<=65535):∀(N:Nat){a b limit:Int}{w:Wd}{K:Wd->Prop},Sq w0 base e s n L0 w->0<=a->a<=b->b<=n->b - a<=N->(∀ w',Sq w0 base e s n L0 w'->K w')->C_slices_pdqsortCmpFunc_string s a b limit cmp w K
 | N,a,b,limit,w,K,h,h0,hab,hb,hN,k=>by
  apply S_slices_pdqsortCmpFunc_string
  have hsz:∀{w'},Sq w0 base e s n L0 w'->w0.heap.size<=w'.heap.size:=fun h=>h.ext.size
  refine ⟨fun q a' b' _ _ _ w'=>q=(b' - a').toNat/\a<=a'/\a'<=b'/\b'<=b/\Sq w0 base e s n L0 w',⟨_,rfl,by omega,hab,by omega,h⟩,?_⟩
  rintro _ m0 a1 b1 lim wb wp w1 ⟨hm,ha1,hab1,hb1,h1⟩
  refine Ar.i64 (by omega) (If.dec (fun h12=>insertion_spec hc h1 (by omega) (by omega) hn (by omega) fun w2 h2=>k _ h2) fun h12=>If.beq (fun _=>heapSort_spec hc h1 (by omega) (by omega) (by omega) hn fun w3 h3=>k _ h3) fun _=>?_)
  have q8:Int.tdiv (b1 - a1) 8=(b1 - a1) / 8:=Int.tdiv_eq_ediv_of_nonneg (by omega)
  refine ⟨fun _ w'=>Sq w0 base e s n L0 w',If.not (If.cases (fun _=>h1) fun _=>breakPatterns_spec h1 (hsz h1) (by omega) (by omega) (by omega) hn fun w4 h4=>Ar.any fun _=>h4),?_⟩
  rintro _ lim2 w5 h5
  refine choosePivot_spec hc h5 (hsz h5) (by omega) (by omega) (by omega) hn fun r0 r1 w6 hr0 h6=>?_
  refine ⟨fun p _ w'=>a1<=p/\p < b1/\Sq w0 base e s n L0 w',If.beq (fun _=>reverseRange_spec h6 (by omega) (by omega) (by omega) hn fun w7 h7=>Ar.i64 (by omega) (Ar.i64 (by omega) (Ar.i64 (by omega) ⟨by omega,by omega,h7⟩))) fun _=>⟨hr0.1,hr0.2,h6⟩,?_⟩
  rintro _ p hint w8 ⟨hp1,hp2,h8⟩
  refine ⟨fun w'=>Sq w0 base e s n L0 w',⟨fun _ w'=>Sq w0 base e s n L0 w',If.cases (fun _=>If.cases (fun _=>h8) fun _=>h8) (fun _=>h8),?_⟩,?_⟩
  .rintro _ t w9 h9
   exact If.cases (fun _=>partialIns_spec hc h9 (by omega) (by omega) (by omega) hn fun r w10 h10=>If.cases (fun _=>k _ h10) fun _=>h10) fun _=>h9
  rintro _ w11 h11
  refine ⟨fun a' w'=>a'=a1/\Sq w0 base e s n L0 w',⟨fun _ w'=>Sq w0 base e s n L0 w',⟨Ext No w11,(Ext.refl _ _).drew,If.dec (fun _=>Ar.i64 (by omega) (h11.rd (by omega) (by omega) fun x=>h11.rd (by omega) (by omega) fun y=>hc h11.ext.drew fun r w12 x12=>⟨x12.drew_left,h11.drew x12⟩)) fun _=>h11.no (Ext.refl _ _).drew⟩,?_⟩,?_⟩
  .rintro _ t w13 h13
   exact If.cases (fun _=>partitionEqual_spec hc h13 (by omega) (by omega) (by omega) hn ⟨hp1,hp2⟩ fun r w14 hr h14=>⟨_,by omega,rfl,by omega,by omega,by omega,h14⟩) fun _=>⟨rfl,h13⟩
  rintro _ a4 w15 ⟨rfl,h15⟩
  refine partition_spec hc h15 (by omega) (by omega) (by omega) hn ⟨hp1,hp2⟩ fun r d w16 hr h16=>Ar.i64 (by omega) (Ar.i64 (by omega) ⟨by decide,?_⟩)
  rw [q8]
  refine Ar.i64 (by omega) (If.dec (fun _=>?_) fun _=>Ar.i64 (by omega) ?_)
  .match N,hN with
   | 0,hN=>omega
   | N+1,hN=>exact pdq_spec hc hn N h16 (by omega) (by omega) (by omega) (by omega) fun w17 h17=>Ar.i64 (by omega) ⟨_,by omega,rfl,by omega,by omega,by omega,h17⟩
  .match N,hN with
   | 0,hN=>omega
   | N+1,hN=>exact pdq_spec hc hn N h16 (by omega) (by omega) (by omega) (by omega) fun w18 h18=>⟨_,by omega,rfl,by omega,by omega,by omega,h18⟩
theorem sortFunc_spec{L:List ByteArray}{K:Wd->Prop}(hc:CmpP w s cmp)(o:Own w.heap base e 1 s (strs L))(hn:L.length<=65535)(k:∀ L' w',L'.Perm L->Own w'.heap base e 1 s (strs L')->Ext (fun q=>s.blk=some q) w w'->K w'):C_slices_SortFunc_string_string s cmp w K:=by
 apply S_slices_SortFunc_string_string
 have hl:=o.len
 simp only [List.length_map,Nat.mul_one] at hl
 refine Ar.u64 (by omega) (bitsLen_spec (by omega) (by omega) fun r _ _=>?_)
 refine pdq_spec (n:=L.length) (L0:=L) (base:=base) (e:=e) hc hn L.length ⟨⟨L, .refl _,o⟩,Ext.refl _ _,rfl⟩ (by omega) (by omega) (by omega) (by omega) fun w' h'=>?_
 obtain ⟨⟨L',hp,ho⟩,hx,_⟩:=h'
 exact k L' w' hp ho hx
end
section
variable {w0 w:Wd} {base:Nat} {e:TypeId} {s:Sl} {n:Nat} {L0:List Int}
theorem lessU{x y:Int}{K:Bool->Wd->Prop}(k:∀ r w',Ext No w w'->K r w'):C_cmp_Less_uint32 x y w K:=by
 apply S_cmp_Less_uint32
 refine S_cmp_isNaN_uint32 (If.cases (fun _=>S_cmp_isNaN_uint32 (If.not (If.cases (fun _=>k _ _ (Ext.refl _ _)) fun _=>k _ _ (Ext.refl _ _)))) fun _=>k _ _ (Ext.refl _ _))
abbrev strsU(L:List Int):List Value:=L.map (Value.int .u32)
theorem Ix.u32{w:Wd}{base:Nat}{e:TypeId}{s:Sl}{L:List Int}{i:Int}{K:Addr->Prop}(o:Own w.heap base e 1 s (strsU L))(h0:0<=i)(h1:i.toNat < L.length)
  (k:∀ b,s.a=some ⟨b,0,none⟩->Cell w ⟨b,i.toNat,none⟩ (.int .u32 L[i.toNat])->K ⟨b,i.toNat,none⟩):Ix s.a s.len i 1 K:=by
 have hl:=o.len
 simp only [List.length_map,Nat.mul_one] at hl
 have hne:strsU L≠[]:=by intro h; rw [List.map_eq_nil_iff] at h; rw [h] at h1; simp at h1
 obtain ⟨b,rest,ha,_,hb,_,_⟩:=o.place hne
 refine ⟨_,ha,h0,by omega,?_⟩
 rw [addr_add_none rfl]
 simp only [Nat.zero_add,Nat.mul_one]
 refine k b ha (Cell.lst hb ?_)
 rw [List.getElem?_append_left (by simpa using h1)]
 simp [h1]
structure SqU(w0:Wd)(base:Nat)(e:TypeId)(s:Sl)(n:Nat)(L0:List Int)(w:Wd):Prop where
 own:∃ L:List Int,L.Perm L0/\Own w.heap base e 1 s (strsU L)
 ext:Ext (fun q=>s.blk=some q) w0 w
 n:L0.length=n
theorem SqU.no{w':Wd}(h:SqU w0 base e s n L0 w)(x:Ext No w w'):SqU w0 base e s n L0 w':=by
 obtain ⟨⟨L,hp,ho⟩,hx,hn⟩:=h
 exact ⟨⟨L,hp,ho.no x⟩,hx.no x,hn⟩
theorem SqU.drew{w':Wd}(h:SqU w0 base e s n L0 w)(x:Ext No (drewW w) w'):SqU w0 base e s n L0 w':=h.no x.drew_left
theorem SqU.at_{i:Int}{K:Addr->Prop}(h:SqU w0 base e s n L0 w)(h0:0<=i)(h1:i < n)(k:∀ b v,Cell w ⟨b,i.toNat,none⟩ (.int .u32 v)->K ⟨b,i.toNat,none⟩):Ix s.a s.len i 1 K:=by
 obtain ⟨⟨L,hp,ho⟩,hx,hn⟩:=h
 exact Ix.u32 ho h0 (by have:=hp.length_eq; omega) fun b _ c=>k b _ c
theorem SqU.rd{i:Int}{K:Int->Prop}(h:SqU w0 base e s n L0 w)(h0:0<=i)(h1:i < n)(k:∀ v,K v):Ix s.a s.len i 1 fun a=>∃ vv:Int,Held (Ext No w) a (.int .u32 vv)/\K vv :=
 h.at_ h0 h1 fun _ v c=>⟨v,Held.cell c,k v⟩
theorem set_two_permU{L:List Int}{x y:Nat}(hx:x < L.length)(hy:y < L.length):((L.set y L[x]).set x L[y]).Perm L:=by
 exact List.set_set_perm hy hx
theorem strs_setU{L:List Int}{i:Nat}{v:Int}:(strsU L).set i (.int .u32 v)=strsU (L.set i v):=List.map_set.symm
def SwpU(s:Sl)(S:Wd->Prop)(w:Wd)(x y:Int)(a_1 a_2:Addr)(K:Wd->Prop):Prop :=
  (∃ vv:Int,Cell (drewW w) a_1 (.int .u32 vv)/\S (drewW w)/\∃ vv_1:Int,Cell (drewW w) a_2 (.int .u32 vv_1)/\S (drewW w) /\
   Ix s.a s.len y 1 fun a_3=>St1 (drewW w) a_3 (.int .u32 vv) fun w2=>S w2/\Ix s.a s.len x 1 fun a_4=>St1 w2 a_4 (.int .u32 vv_1) fun w3=>S w3/\K w3) /\
  (∃ vv_2:Int,Cell (drewW w) a_2 (.int .u32 vv_2)/\S (drewW w)/\∃ vv_3:Int,Cell (drewW w) a_1 (.int .u32 vv_3)/\S (drewW w) /\
   Ix s.a s.len y 1 fun a_5=>St1 (drewW w) a_5 (.int .u32 vv_3) fun w4=>S w4/\Ix s.a s.len x 1 fun a_6=>St1 w4 a_6 (.int .u32 vv_2) fun w5=>S w5/\K w5)
theorem SqU.swp{S:Wd->Prop}{x y:Int}{K:Wd->Prop}(hS:∀ w,S w)(h:SqU w0 base e s n L0 w)(x0:0<=x)(x1:x < n)(y0:0<=y)(y1:y < n)(k:∀ w',SqU w0 base e s n L0 w'->Ext (fun q=>s.blk=some q) w w'->K w') :
  ∃ b,s.a=some ⟨b,0,none⟩/\s.len=n/\SwpU s S w x y ⟨b,x.toNat,none⟩ ⟨b,y.toNat,none⟩ K:=by
 obtain ⟨⟨L,hp,ho⟩,hx,hn⟩:=h
 have hpl:=hp.length_eq
 have x2:x.toNat < L.length:=by omega
 have y2:y.toNat < L.length:=by omega
 have hl:=ho.len
 simp only [List.length_map,Nat.mul_one] at hl
 have both:Ix s.a s.len y 1 fun a_3=>St1 (drewW w) a_3 (.int .u32 L[x.toNat]) fun w2=>S w2/\Ix s.a s.len x 1 fun a_4=>St1 w2 a_4 (.int .u32 L[y.toNat]) fun w3=>S w3/\K w3:=by
  refine Ix.u32 (w:=drewW w) ho y0 y2 fun b ha _=>?_
  refine St1.at_ (w:=drewW w) ho ha (by simpa using y2) rfl fun w2 o2 e2 _=>⟨hS _,?_⟩
  rw [strs_setU] at o2
  refine Ix.u32 o2 x0 (by simpa using x2) fun b' ha' _=>?_
  refine St1.at_ o2 ha' (by simpa using x2) rfl fun w3 o3 e3 _=>⟨hS _,?_⟩
  rw [strs_setU] at o3
  have ex:Ext (fun q=>s.blk=some q) w w3:=e2.drew_left.trans e3 fun _ _ h=>h
  exact k w3 ⟨⟨_,(set_two_permU x2 y2).trans hp,o3⟩,hx.trans ex fun _ _ h=>h,hn⟩ ex
 have hne:strsU L≠[]:=by intro h; rw [List.map_eq_nil_iff] at h; rw [h] at x2; simp at x2
 obtain ⟨b,rest,ha,_,hb,_,_⟩:=ho.place hne
 have cell:∀ i (h:i < L.length),Cell (drewW w) ⟨b,i,none⟩ (.int .u32 L[i]):=fun i h=>Cell.lst (w:=drewW w) hb (by rw [List.getElem?_append_left (by simpa using h)]; simp [h])
 exact ⟨b,ha,by omega,⟨_,cell _ x2,hS _,_,cell _ y2,hS _,both⟩,_,cell _ y2,hS _,_,cell _ x2,hS _,both⟩
theorem swap2U{S:Wd->Prop}{x y:Int}{K:Wd->Prop}(hS:∀ w,S w)(h:SqU w0 base e s n L0 w)(x0:0<=x)(x1:x < n)(y0:0<=y)(y1:y < n)(k:∀ w',SqU w0 base e s n L0 w'->Ext (fun q=>s.blk=some q) w w'->K w') :
  Ix s.a s.len x 1 fun a_1=>Ix s.a s.len y 1 fun a_2=>SwpU s S w x y a_1 a_2 K:=by
 obtain ⟨b,ha,hl,hk⟩:=h.swp hS x0 x1 y0 y1 k
 exact Ix.of ha x0 (by omega) (Ix.of ha y0 (by omega) hk)
theorem swap2aU{S:Wd->Prop}{x y:Int}{K:Wd->Prop}(hS:∀ w,S w)(h:SqU w0 base e s n L0 w)(x0:0<=x)(x1:x < n)(y0:0<=y)(y1:y < n)(hn:n<=65535)(k:∀ w',SqU w0 base e s n L0 w'->Ext (fun q=>s.blk=some q) w w'->K w') :
  Ix s.a s.len x 1 fun a_1=>Ar .i64 y fun y'=>Ix s.a s.len y' 1 fun a_2=>SwpU s S w x y a_1 a_2 K:=by
 obtain ⟨b,ha,hl,hk⟩:=h.swp hS x0 x1 y0 y1 k
 exact Ix.of ha x0 (by omega) (Ar.i64 (by omega) (Ix.of ha y0 (by omega) hk))
theorem insertion_specU{a b:Int}{K:Wd->Prop}(h:SqU w0 base e s n L0 w)(h0:0<=a)(hb:b<=n)(hn:n<=65535)(hab:a<=65535)(k:∀ w',SqU w0 base e s n L0 w'->K w'):C_slices_insertionSortOrdered_uint32 s a b w K:=by
 apply S_slices_insertionSortOrdered_uint32
 refine Ar.i64 (by omega) ⟨fun q i w'=>q=(b - i).toNat/\a+1<=i/\i<=70000/\SqU w0 base e s n L0 w',⟨_,rfl,by omega,by omega,h⟩,?_⟩
 rintro _ m0 i w1 ⟨hm,hi,hi2,h1⟩
 refine If.dec (fun hib=>?_) fun hib=>k w1 h1
 refine ⟨fun q j w'=>q=(j - a).toNat/\a<=j/\j<=i/\SqU w0 base e s n L0 w',⟨_,rfl,by omega,by omega,h1⟩,?_⟩
 rintro _ m1 j w2 ⟨hm1,hj,hj2,h2⟩
 have out:∀ w',SqU w0 base e s n L0 w'->Ar .i64 (i+1) fun z=>∃ m1,m1 < m0/\(m1=(b - z).toNat/\a+1<=z/\z<=70000/\SqU w0 base e s n L0 w'):=fun w' h'=>Ar.i64 (by omega) ⟨_,by omega,rfl,by omega,by omega,h'⟩
 refine ⟨fun w'=>SqU w0 base e s n L0 w'/\a < j,⟨Ext No w2,(Ext.refl _ _).drew,If.dec (fun hja=>h2.rd (by omega) (by omega) fun x=>Ar.i64 (by omega) (h2.rd (by omega) (by omega) fun y=>lessU fun r w3 x3=>⟨x3.drew_left,If.cases (fun _=>⟨h2.drew x3,hja⟩) fun _=>out _ (h2.drew x3)⟩)) fun _=>out _ (h2.no (Ext.refl _ _).drew)⟩,?_⟩
 rintro _ w4 ⟨h4,hja⟩
 exact ⟨fun _=>True,trivial,Ar.i64 (by omega) (Ar.i64 (by omega) (swap2U (fun _=>trivial) h4 (by omega) (by omega) (by omega) (by omega) fun w6 h6 _=>Ar.i64 (by omega) ⟨_,by omega,rfl,by omega,by omega,h6⟩))⟩
theorem siftDown_specU{lo hi first:Int}{K:Wd->Prop}(h:SqU w0 base e s n L0 w)(h0:0<=lo)(hf:0<=first)(hb:first+hi<=n)(hn:n<=65535)(hlo:lo<=65535)(k:∀ w',SqU w0 base e s n L0 w'->K w'):C_slices_siftDownOrdered_uint32 s lo hi first w K:=by
 apply S_slices_siftDownOrdered_uint32
 refine ⟨fun q root w'=>q=(hi - root).toNat/\0<=root/\root<=65535/\SqU w0 base e s n L0 w',⟨_,rfl,h0,hlo,h⟩,?_⟩
 rintro _ m0 root w1 ⟨hm,hr,hr2,h1⟩
 refine Ar.i64 (by omega) (Ar.i64 (by omega) (If.dec (fun _=>k w1 h1) fun hch=>?_))
 refine ⟨fun child w'=>root < child/\child < hi/\SqU w0 base e s n L0 w',⟨Ext No w1,(Ext.refl _ _).drew,Ar.i64 (by omega) (If.dec (fun hc2=>Ar.i64 (by omega) (h1.rd (by omega) (by omega) fun x=>Ar.i64 (by omega) (Ar.i64 (by omega) (h1.rd (by omega) (by omega) fun y=>lessU fun r w2 x2=>⟨x2.drew_left,If.cases (fun _=>Ar.i64 (by omega) ⟨by omega,by omega,h1.drew x2⟩) fun _=>⟨by omega,by omega,h1.drew x2⟩⟩)))) fun hc2=>⟨by omega,by omega,h1.no (Ext.refl _ _).drew⟩)⟩,?_⟩
 rintro _ child w3 ⟨hc1,hc2,h3⟩
 refine ⟨Ext No w3,(Ext.refl _ _).drew,Ar.i64 (by omega) (h3.rd (by omega) (by omega) fun x=>Ar.i64 (by omega) (h3.rd (by omega) (by omega) fun y=>lessU fun r w4 x4=>⟨x4.drew_left,?_⟩))⟩
 have h4:=h3.drew x4
 refine If.not (If.cases (fun _=>?_) fun _=>k w4 h4)
 exact ⟨fun _=>True,trivial,Ar.i64 (by omega) (Ar.i64 (by omega) (Ar.i64 (by omega) (swap2aU (fun _=>trivial) h4 (by omega) (by omega) (by omega) (by omega) hn fun w6 h6 _=>⟨_,by omega,rfl,by omega,by omega,h6⟩)))⟩
theorem heapSort_specU{a b:Int}{K:Wd->Prop}(h:SqU w0 base e s n L0 w)(h0:0<=a)(hab:a < b)(hb:b<=n)(hn:n<=65535)(k:∀ w',SqU w0 base e s n L0 w'->K w'):C_slices_heapSortOrdered_uint32 s a b w K:=by
 apply S_slices_heapSortOrdered_uint32
 have q:Int.tdiv (b - a - 1) 2=(b - a - 1) / 2:=Int.tdiv_eq_ediv_of_nonneg (by omega)
 refine Ar.i64 (by omega) (Ar.i64 (by omega) ⟨by decide,?_⟩)
 rw [q]
 refine Ar.i64 (by omega) ⟨fun q i w'=>q=(i+1).toNat /\ -1<=i/\i<=b - a/\SqU w0 base e s n L0 w',⟨_,rfl,by omega,by omega,h⟩,?_⟩
 rintro _ m0 i w1 ⟨hm,hi,hi2,h1⟩
 refine If.dec (fun hi3=>siftDown_specU h1 (by omega) h0 (by omega) hn (by omega) fun w2 h2=>Ar.i64 (by omega) ⟨_,by omega,rfl,by omega,by omega,h2⟩) fun _=>?_
 refine Ar.i64 (by omega) ⟨fun q i w'=>q=(i+1).toNat /\ -1<=i/\i < b - a/\SqU w0 base e s n L0 w',⟨_,rfl,by omega,by omega,h1⟩,?_⟩
 rintro _ m1 j w3 ⟨hm1,hj,hj2,h3⟩
 refine If.dec (fun hj3=>⟨fun _=>True,trivial,Ar.i64 (by omega) (Ar.i64 (by omega) (swap2U (fun _=>trivial) h3 (by omega) (by omega) (by omega) (by omega) fun w5 h5 _=>siftDown_specU h5 (by omega) h0 (by omega) hn (by omega) fun w6 h6=>Ar.i64 (by omega) ⟨_,by omega,rfl,by omega,by omega,h6⟩))⟩) fun _=>k w3 h3
theorem breakPatterns_specU{a b:Int}{K:Wd->Prop}(h:SqU w0 base e s n L0 w)(hw:w0.heap.size<=w.heap.size)(h0:0<=a)(hab:a<=b)(hb:b<=n)(hn:n<=65535)(k:∀ w',SqU w0 base e s n L0 w'->K w'):C_slices_breakPatternsOrdered_uint32 s a b w K:=by
 apply S_slices_breakPatternsOrdered_uint32
 have q:Int.tdiv (b - a) 4=(b - a) / 4:=Int.tdiv_eq_ediv_of_nonneg (by omega)
 refine Ar.i64 (by omega) (If.dec (fun h8=>Ar.u64 (by omega) (NewW.mk fun b1 w1 n1=>St1.mk n1.get (by simp) rfl fun w2 h2=>?_)) fun _=>k w h)
 have hb1:=n1.at_; have z1:=n1.size
 have x12:Ext (·=b1) w1 w2:=h2.ext
 have g2:w2.heap[b1]? = some (.cells [.int .u64 (b - a)].toArray 299 (0,0)):=h2.get n1.get
 have x02:Ext No w w2:=n1.ext.trans x12 fun q hq h=>by omega
 have sq2:=h.no x02
 have nbs:s.blk≠some b1:=fun hs=>by
  obtain ⟨L,_,ho⟩:=h.own
  have:=ho.lt hs; omega
 refine nextPow_spec (by omega) (by omega) fun p hp1 hp2=>⟨by decide,?_⟩
 simp only [q]
 refine Ar.i64 (by omega) (Ar.i64 (by omega) (Ar.i64 (by omega) (Ar.i64 (by omega) ⟨fun q i w'=>q=(b+1 - i).toNat/\a<=i/\i<=a+(b - a) / 4 * 2+2/\SqU w0 base e s n L0 w'/\∃ v,w'.heap[b1]? = some (.cells [.int .u64 v].toArray 299 (0,0)),⟨_,rfl,by omega,by omega,sq2,_,g2⟩,?_⟩)))
 rintro _ m0 i w4 ⟨hm,hi,hi2,h4,v,g4⟩
 refine ⟨by decide,Ar.i64 (by omega) (Ar.i64 (by omega) (Ar.i64 (by omega) (Ar.i64 (by omega) (If.dec (fun hle=>?_) fun _=>k w4 h4))))⟩
 refine xorshift_spec g4 fun v' w5 g5 x5=>Ar.u64 (by omega) (Nm.mk ?_)
 have hand:=and_le (x:=v') (y:=p - 1) (by omega) (by omega)
 have sq5:SqU w0 base e s n L0 w5:=by
  obtain ⟨⟨L,hpm,ho⟩,hx,hln⟩:=h4
  exact ⟨⟨L,hpm,ho.ext x5 fun q hq h'=>nbs (by rw [hq,h'])⟩,hx.trans x5 fun q hq h'=>by omega,hln⟩
 refine Ar.i64 (by omega) ⟨fun o w'=>0<=o/\o < b - a/\w'=w5,If.dec (fun _=>Ar.i64 (by omega) ⟨by omega,by omega,rfl⟩) fun _=>⟨by omega,by omega,rfl⟩,?_⟩
 rintro _ o w6 ⟨ho1,ho2,rfl⟩
 exact ⟨fun _=>True,trivial,Ar.i64 (by omega) (Ar.i64 (by omega) (swap2U (fun _=>trivial) sq5 (by omega) (by omega) (by omega) (by omega) fun w8 h8' x8=>Ar.i64 (by omega) ⟨_,by omega,rfl,by omega,by omega,h8',v',get_ext g5 x8 nbs⟩))⟩
structure SwU(w0:Wd)(base:Nat)(e:TypeId)(s:Sl)(n:Nat)(L0:List Int)(b1:Nat)(w:Wd):Prop where
 sq:SqU w0 base e s n L0 w
 g:∃ v,w.heap[b1]? = some (.cells [.int .i64 v].toArray 3 (0,0))
theorem order2_specU{b1:Nat}{a b:Int}{K:Int->Int->Wd->Prop}(h:SwU w0 base e s n L0 b1 w)(hb1:w0.heap.size<=b1)(nbs:s.blk≠some b1)(a0:0<=a)(a1:a < n)(b0:0<=b)(b2:b < n)(k:∀ r0 r1 w',(r0=a/\r1=b∨r0=b/\r1=a)->SwU w0 base e s n L0 b1 w'->K r0 r1 w'):C_slices_order2Ordered_uint32 s a b (some ⟨b1,0,none⟩) w K:=by
 apply S_slices_order2Ordered_uint32
 obtain ⟨hs,v,g⟩:=h
 refine ⟨Ext No w,(Ext.refl _ _).drew,hs.rd b0 b2 fun x=>hs.rd a0 a1 fun y=>lessU fun r w1 x1=>⟨x1.drew_left,?_⟩⟩
 have g1:=get_no g x1.drew_left
 have s1:=hs.drew x1
 refine If.cases (fun _=>⟨_,rfl,_,Cell.lst g1 rfl,Ar.any fun z=>⟨_,rfl,St1.mk g1 (by simp) rfl fun w2 h2=>?_⟩⟩) fun _=>k _ _ _ (.inl ⟨rfl,rfl⟩) ⟨s1,v,g1⟩
 have x2:Ext (·=b1) w1 w2:=h2.ext
 refine k _ _ _ (.inr ⟨rfl,rfl⟩) ⟨?_,z,h2.get g1⟩
 obtain ⟨⟨L,hpm,ho⟩,hx,hln⟩:=s1
 exact ⟨⟨L,hpm,ho.ext x2 fun q hq h'=>nbs (by rw [hq,h'])⟩,hx.trans x2 fun q hq h'=>by omega,hln⟩
theorem median_specU{b1:Nat}{a b c lo hi:Int}{K:Int->Wd->Prop}(h:SwU w0 base e s n L0 b1 w)(hb1:w0.heap.size<=b1)(nbs:s.blk≠some b1)(l0:0<=lo)(hin:hi<=n)(ha:lo<=a/\a < hi)(hb:lo<=b/\b < hi)(hcc:lo<=c/\c < hi)(k:∀ r w',lo<=r/\r < hi->SwU w0 base e s n L0 b1 w'->K r w'):C_slices_medianOrdered_uint32 s a b c (some ⟨b1,0,none⟩) w K:=by
 apply S_slices_medianOrdered_uint32
 refine order2_specU h hb1 nbs (by omega) (by omega) (by omega) (by omega) fun r0 r1 w1 e1 h1=>?_
 refine order2_specU h1 hb1 nbs (by omega) (by omega) (by omega) (by omega) fun r2 r3 w2 e2 h2=>?_
 refine order2_specU h2 hb1 nbs (by omega) (by omega) (by omega) (by omega) fun r4 r5 w3 e3 h3=>k _ _ (by omega) h3
theorem medianAdj_specU{b1:Nat}{a lo hi:Int}{K:Int->Wd->Prop}(h:SwU w0 base e s n L0 b1 w)(hb1:w0.heap.size<=b1)(nbs:s.blk≠some b1)(l0:0<=lo)(hin:hi<=n)(hn:n<=65535)(ha:lo+1<=a/\a+1 < hi)(k:∀ r w',lo<=r/\r < hi->SwU w0 base e s n L0 b1 w'->K r w'):C_slices_medianAdjacentOrdered_uint32 s a (some ⟨b1,0,none⟩) w K:=by
 apply S_slices_medianAdjacentOrdered_uint32
 exact Ar.i64 (by omega) (Ar.i64 (by omega) (median_specU h hb1 nbs l0 hin (by omega) (by omega) (by omega) k))
theorem choosePivot_specU{a b:Int}{K:Int->Int->Wd->Prop}(h:SqU w0 base e s n L0 w)(hw:w0.heap.size<=w.heap.size)(h0:0<=a)(hab:a < b)(hb:b<=n)(hn:n<=65535)(k:∀ r hint w',a<=r/\r < b->SqU w0 base e s n L0 w'->K r hint w'):C_slices_choosePivotOrdered_uint32 s a b w K:=by
 apply S_slices_choosePivotOrdered_uint32
 have q:Int.tdiv (b - a) 4=(b - a) / 4:=Int.tdiv_eq_ediv_of_nonneg (by omega)
 refine Ar.i64 (by omega) (NewW.mk fun b1 w1 n1=>⟨by decide,?_⟩)
 have hb1:=n1.at_
 have nbs:s.blk≠some b1:=fun hs=>by
  obtain ⟨L,_,ho⟩:=h.own
  have:=ho.lt hs; omega
 have sw1:SwU w0 base e s n L0 b1 w1:=⟨h.no n1.ext,0,n1.get⟩
 simp only [q]
 refine Ar.i64 (by omega) (Ar.i64 (by omega) (Ar.i64 (by omega) ⟨by decide,Ar.i64 (by omega) (Ar.i64 (by omega) (Ar.i64 (by omega) ⟨by decide,Ar.i64 (by omega) (Ar.i64 (by omega) (Ar.i64 (by omega) ?_))⟩))⟩))
 refine ⟨fun j w'=>a<=j/\j < b/\SwU w0 base e s n L0 b1 w',If.dec (fun h8=>?_) fun _=>⟨by omega,by omega,sw1⟩,?_⟩
 .refine If.dec (fun h50=>?_) fun _=>median_specU (lo:=a) (hi:=b) sw1 (by omega) nbs h0 hb (by omega) (by omega) (by omega) fun r w6 hr s6=>⟨hr.1,hr.2,s6⟩
  exact medianAdj_specU (lo:=a) (hi:=b) sw1 (by omega) nbs h0 hb hn (by omega) fun r w2 hr s2=>medianAdj_specU (lo:=a) (hi:=b) s2 (by omega) nbs h0 hb hn (by omega) fun r1 w3 hr1 s3=>medianAdj_specU (lo:=a) (hi:=b) s3 (by omega) nbs h0 hb hn (by omega) fun r2 w4 hr2 s4=>median_specU (lo:=a) (hi:=b) s4 (by omega) nbs h0 hb hr hr1 hr2 fun r w6 hr s6=>⟨hr.1,hr.2,s6⟩
 .rintro _ j w7 ⟨hj1,hj2,s7,v,g7⟩
  exact ⟨_,Cell.lst g7 rfl,If.beq (fun _=>k _ _ _ ⟨hj1,hj2⟩ s7) fun _=>If.beq (fun _=>k _ _ _ ⟨hj1,hj2⟩ s7) fun _=>k _ _ _ ⟨hj1,hj2⟩ s7⟩
theorem reverseRange_specU{a b:Int}{K:Wd->Prop}(h:SqU w0 base e s n L0 w)(h0:0<=a)(hab:a<=b)(hb:b<=n)(hn:n<=65535)(k:∀ w',SqU w0 base e s n L0 w'->K w'):C_slices_reverseRangeOrdered_uint32 s a b w K:=by
 apply S_slices_reverseRangeOrdered_uint32
 refine Ar.i64 (by omega) ⟨fun q i j w'=>q=(j+1 - i).toNat/\a<=i/\i<=b /\ -1<=j/\j < b/\SqU w0 base e s n L0 w',⟨_,rfl,by omega,by omega,by omega,by omega,h⟩,?_⟩
 rintro _ m0 i j w1 ⟨hm,hi,hi2,hj,hj2,h1⟩
 exact If.dec (fun hij=>⟨fun _=>True,trivial,swap2U (fun _=>trivial) h1 (by omega) (by omega) (by omega) (by omega) fun w3 h3 _=>Ar.i64 (by omega) (Ar.i64 (by omega) ⟨_,by omega,rfl,by omega,by omega,by omega,by omega,h3⟩)⟩) fun _=>k w1 h1
theorem partitionEqual_specU{a b p:Int}{K:Int->Wd->Prop}(h:SqU w0 base e s n L0 w)(h0:0<=a)(hab:a < b)(hb:b<=n)(hn:n<=65535)(hp:a<=p/\p < b)(k:∀ r w',a < r/\r<=b->SqU w0 base e s n L0 w'->K r w'):C_slices_partitionEqualOrdered_uint32 s a b p w K:=by
 apply S_slices_partitionEqualOrdered_uint32
 refine ⟨fun _=>True,trivial,swap2U (fun _=>trivial) h (by omega) (by omega) (by omega) (by omega) fun w2 h2 _=>Ar.i64 (by omega) (Ar.i64 (by omega) ?_)⟩
 refine ⟨fun q i j w'=>q=(j+2 - i).toNat/\a+1<=i/\i<=b/\a<=j/\j<=b - 1/\i<=j+2/\SqU w0 base e s n L0 w',⟨_,rfl,by omega,by omega,by omega,by omega,by omega,h2⟩,?_⟩
 rintro _ m0 i j w3 ⟨hm,hi,hi2,hj,hj2,hij,h3⟩
 refine ⟨fun i' w'=>i<=i'/\i'<=b/\(i'<=j+1∨i'=i)/\SqU w0 base e s n L0 w',⟨fun q i' w'=>q=(b - i').toNat/\i<=i'/\i'<=b/\(i'<=j+1∨i'=i)/\SqU w0 base e s n L0 w',⟨_,rfl,by omega,by omega, .inr rfl,h3⟩,?_⟩,?_⟩
 .rintro _ m1 i1 w4 ⟨hm1,a1,a2,a3,h4⟩
  refine ⟨Ext No w4,(Ext.refl _ _).drew,If.dec (fun hle=>h4.rd (by omega) (by omega) fun x=>h4.rd (by omega) (by omega) fun y=>lessU fun r w5 x5=>⟨x5.drew_left,If.not (If.cases (fun _=>⟨a1,a2,a3,h4.drew x5⟩) fun _=>Ar.i64 (by omega) ⟨_,by omega,rfl,by omega,by omega, .inl (by omega),h4.drew x5⟩)⟩) fun _=>⟨a1,a2,a3,h4.no (Ext.refl _ _).drew⟩⟩
 rintro _ i2 w6 ⟨a1,a2,a3,h6⟩
 refine ⟨fun j' w'=>j'<=j/\a<=j'/\SqU w0 base e s n L0 w',⟨fun q j' w'=>q=(j'+1 - a).toNat/\j'<=j/\a<=j'/\SqU w0 base e s n L0 w',⟨_,rfl,by omega,hj,h6⟩,?_⟩,?_⟩
 .rintro _ m1 j1 w7 ⟨hm1,b1,b2,h7⟩
  refine ⟨Ext No w7,(Ext.refl _ _).drew,If.dec (fun hle=>h7.rd (by omega) (by omega) fun x=>h7.rd (by omega) (by omega) fun y=>lessU fun r w8 x8=>⟨x8.drew_left,If.cases (fun _=>Ar.i64 (by omega) ⟨_,by omega,rfl,by omega,by omega,h7.drew x8⟩) fun _=>⟨b1,b2,h7.drew x8⟩⟩) fun _=>⟨b1,b2,h7.no (Ext.refl _ _).drew⟩⟩
 rintro _ j2 w9 ⟨b1,b2,h9⟩
 refine If.dec (fun _=>k _ _ (by omega) h9) fun hle=>⟨fun _=>True,trivial,swap2U (fun _=>trivial) h9 (by omega) (by omega) (by omega) (by omega) fun w11 h11 _=>Ar.i64 (by omega) (Ar.i64 (by omega) ⟨_,by omega,rfl,by omega,by omega,by omega,by omega,by omega,h11⟩)⟩
theorem partition_specU{a b p:Int}{K:Int->Bool->Wd->Prop}(h:SqU w0 base e s n L0 w)(h0:0<=a)(hab:a < b)(hb:b<=n)(hn:n<=65535)(hp:a<=p/\p < b)(k:∀ r d w',a<=r/\r < b->SqU w0 base e s n L0 w'->K r d w'):C_slices_partitionOrdered_uint32 s a b p w K:=by
 apply S_slices_partitionOrdered_uint32
 refine ⟨fun _=>True,trivial,swap2U (fun _=>trivial) h (by omega) (by omega) (by omega) (by omega) fun w2 h2 _=>Ar.i64 (by omega) (Ar.i64 (by omega) ?_)⟩
 refine ⟨fun i w'=>a+1<=i/\i<=b/\SqU w0 base e s n L0 w',⟨fun q i w'=>q=(b - i).toNat/\a+1<=i/\i<=b/\SqU w0 base e s n L0 w',⟨_,rfl,by omega,by omega,h2⟩,?_⟩,?_⟩
 .rintro _ m1 i1 w4 ⟨hm1,a1,a2,h4⟩
  refine ⟨Ext No w4,(Ext.refl _ _).drew,If.dec (fun hle=>h4.rd (by omega) (by omega) fun x=>h4.rd (by omega) (by omega) fun y=>lessU fun r w5 x5=>⟨x5.drew_left,If.cases (fun _=>Ar.i64 (by omega) ⟨_,by omega,rfl,by omega,by omega,h4.drew x5⟩) fun _=>⟨a1,a2,h4.drew x5⟩⟩) fun _=>⟨a1,a2,h4.no (Ext.refl _ _).drew⟩⟩
 rintro _ i1 w5 ⟨a1,a2,h5⟩
 refine ⟨fun j w'=>a<=j/\j<=b - 1/\SqU w0 base e s n L0 w',⟨fun q j w'=>q=(j+1 - a).toNat/\a<=j/\j<=b - 1/\SqU w0 base e s n L0 w',⟨_,rfl,by omega,by omega,h5⟩,?_⟩,?_⟩
 .rintro _ m1 j w7 ⟨hm1,b1,b2,h7⟩
  refine ⟨Ext No w7,(Ext.refl _ _).drew,If.dec (fun hle=>h7.rd (by omega) (by omega) fun x=>h7.rd (by omega) (by omega) fun y=>lessU fun r w8 x8=>⟨x8.drew_left,If.not (If.cases (fun _=>⟨b1,b2,h7.drew x8⟩) fun _=>Ar.i64 (by omega) ⟨_,by omega,rfl,by omega,by omega,h7.drew x8⟩)⟩) fun _=>⟨b1,b2,h7.no (Ext.refl _ _).drew⟩⟩
 rintro _ j1 w8 ⟨b1,b2,h8⟩
 refine If.dec (fun _=>⟨fun _=>True,trivial,swap2U (fun _=>trivial) h8 (by omega) (by omega) (by omega) (by omega) fun w10 h10 _=>k _ _ _ (by omega) h10⟩) fun hle=>⟨fun _=>True,trivial,swap2U (fun _=>trivial) h8 (by omega) (by omega) (by omega) (by omega) fun w12 h12 _=>Ar.i64 (by omega) (Ar.i64 (by omega) ?_)⟩
 refine ⟨fun j w'=>a<=j/\j<=b - 1/\SqU w0 base e s n L0 w',⟨fun q i j w'=>q=(j+2 - i).toNat/\a+1<=i/\i<=b/\a<=j/\j<=b - 1/\i<=j+2/\SqU w0 base e s n L0 w',⟨_,rfl,by omega,by omega,by omega,by omega,by omega,h12⟩,?_⟩,?_⟩
 .rintro _ m0 i j w3 ⟨hm,hi,hi2,hj,hj2,hij,h3⟩
  refine ⟨fun i' w'=>i<=i'/\i'<=b/\(i'<=j+1∨i'=i)/\SqU w0 base e s n L0 w',⟨fun q i' w'=>q=(b - i').toNat/\i<=i'/\i'<=b/\(i'<=j+1∨i'=i)/\SqU w0 base e s n L0 w',⟨_,rfl,by omega,by omega, .inr rfl,h3⟩,?_⟩,?_⟩
  .rintro _ m1 i1 w4 ⟨hm1,a1,a2,a3,h4⟩
   refine ⟨Ext No w4,(Ext.refl _ _).drew,If.dec (fun hle=>h4.rd (by omega) (by omega) fun x=>h4.rd (by omega) (by omega) fun y=>lessU fun r w5 x5=>⟨x5.drew_left,If.cases (fun _=>Ar.i64 (by omega) ⟨_,by omega,rfl,by omega,by omega, .inl (by omega),h4.drew x5⟩) fun _=>⟨a1,a2,a3,h4.drew x5⟩⟩) fun _=>⟨a1,a2,a3,h4.no (Ext.refl _ _).drew⟩⟩
  rintro _ i2 w6 ⟨a1,a2,a3,h6⟩
  refine ⟨fun j' w'=>j'<=j/\a<=j'/\SqU w0 base e s n L0 w',⟨fun q j' w'=>q=(j'+1 - a).toNat/\j'<=j/\a<=j'/\SqU w0 base e s n L0 w',⟨_,rfl,by omega,hj,h6⟩,?_⟩,?_⟩
  .rintro _ m1 j1 w7 ⟨hm1,b1,b2,h7⟩
   refine ⟨Ext No w7,(Ext.refl _ _).drew,If.dec (fun hle=>h7.rd (by omega) (by omega) fun x=>h7.rd (by omega) (by omega) fun y=>lessU fun r w8 x8=>⟨x8.drew_left,If.not (If.cases (fun _=>⟨b1,b2,h7.drew x8⟩) fun _=>Ar.i64 (by omega) ⟨_,by omega,rfl,by omega,by omega,h7.drew x8⟩)⟩) fun _=>⟨b1,b2,h7.no (Ext.refl _ _).drew⟩⟩
  rintro _ j2 w9 ⟨b1,b2,h9⟩
  refine If.dec (fun _=>⟨by omega,by omega,h9⟩) fun hle=>⟨fun _=>True,trivial,swap2U (fun _=>trivial) h9 (by omega) (by omega) (by omega) (by omega) fun w11 h11 _=>Ar.i64 (by omega) (Ar.i64 (by omega) ⟨_,by omega,rfl,by omega,by omega,by omega,by omega,by omega,h11⟩)⟩
 rintro _ j5 w22 ⟨c1,c2,h22⟩
 exact ⟨fun _=>True,trivial,swap2U (fun _=>trivial) h22 (by omega) (by omega) (by omega) (by omega) fun w24 h24 _=>k _ _ _ (by omega) h24⟩
theorem partialIns_specU{a b:Int}{K:Bool->Wd->Prop}(h:SqU w0 base e s n L0 w)(h0:0<=a)(hab:a < b)(hb:b<=n)(hn:n<=65535)(k:∀ r w',SqU w0 base e s n L0 w'->K r w'):C_slices_partialInsertionSortOrdered_uint32 s a b w K:=by
 apply S_slices_partialInsertionSortOrdered_uint32
 refine Ar.i64 (by omega) ⟨fun q i j w'=>q=(5 - j).toNat/\a+1<=i/\i<=b/\0<=j/\j<=5/\SqU w0 base e s n L0 w',⟨_,rfl,by omega,by omega,by omega,by omega,h⟩,?_⟩
 rintro _ m0 i j w1 ⟨hm,hi,hi2,hj,hj2,h1⟩
 refine If.dec (fun hj5=>?_) fun _=>k _ _ h1
 refine ⟨fun i' w'=>a+1<=i'/\i'<=b/\SqU w0 base e s n L0 w',⟨fun q i' w'=>q=(b - i').toNat/\a+1<=i'/\i'<=b/\SqU w0 base e s n L0 w',⟨_,rfl,hi,hi2,h1⟩,?_⟩,?_⟩
 .rintro _ m1 i1 w2 ⟨hm1,a1,a2,h2⟩
  refine ⟨Ext No w2,(Ext.refl _ _).drew,If.dec (fun hib=>h2.rd (by omega) (by omega) fun x=>Ar.i64 (by omega) (h2.rd (by omega) (by omega) fun y=>lessU fun r w3 x3=>⟨x3.drew_left,If.not (If.cases (fun _=>⟨a1,a2,h2.drew x3⟩) fun _=>Ar.i64 (by omega) ⟨_,by omega,rfl,by omega,by omega,h2.drew x3⟩)⟩)) fun _=>⟨a1,a2,h2.no (Ext.refl _ _).drew⟩⟩
 rintro _ i2 w4 ⟨a1,a2,h4⟩
 have out:∀ w',SqU w0 base e s n L0 w'->Ar .i64 (j+1) fun z=>∃ m1,m1 < m0/\(m1=(5 - z).toNat/\a+1<=i2/\i2<=b/\0<=z/\z<=5/\SqU w0 base e s n L0 w'):=fun w' h'=>Ar.i64 (by omega) ⟨_,by omega,rfl,a1,a2,by omega,by omega,h'⟩
 refine If.beq (fun _=>k _ _ h4) fun hne=>Ar.i64 (by omega) (If.dec (fun _=>k _ _ h4) fun h50=>⟨fun _=>True,trivial,Ar.i64 (by omega) (Ar.i64 (by omega) (swap2U (fun _=>trivial) h4 (by omega) (by omega) (by omega) (by omega) fun w6 h6 _=>?_))⟩)
 refine ⟨fun w'=>SqU w0 base e s n L0 w',Ar.i64 (by omega) (If.dec (fun _=>Ar.i64 (by omega) ⟨fun q j1 w'=>q=j1.toNat/\0<=j1/\j1 < b/\SqU w0 base e s n L0 w',⟨_,rfl,by omega,by omega,h6⟩,?_⟩) fun _=>h6),?_⟩
 .rintro _ m1 j1 w7 ⟨hm1,b1,b2,h7⟩
  refine If.dec (fun hj1=>?_) fun _=>h7
  refine ⟨Ext No w7,(Ext.refl _ _).drew,h7.rd (by omega) (by omega) fun x=>Ar.i64 (by omega) (h7.rd (by omega) (by omega) fun y=>lessU fun r w8 x8=>⟨x8.drew_left,If.not (If.cases (fun _=>?_) fun _=>h7.drew x8)⟩)⟩
  exact ⟨fun _=>True,trivial,Ar.i64 (by omega) (Ar.i64 (by omega) (swap2U (fun _=>trivial) (h7.drew x8) (by omega) (by omega) (by omega) (by omega) fun w10 h10 _=>Ar.i64 (by omega) ⟨_,by omega,rfl,by omega,by omega,h10⟩))⟩
 .rintro _ w11 h11
  refine Ar.i64 (by omega) (If.dec (fun _=>Ar.i64 (by omega) ⟨fun q j2 w'=>q=(b - j2).toNat/\a+1<=j2/\j2<=b/\SqU w0 base e s n L0 w',⟨_,rfl,by omega,by omega,h11⟩,?_⟩) fun _=>out _ h11)
  rintro _ m1 j2 w12 ⟨hm1,b1,b2,h12⟩
  refine If.dec (fun hj2=>?_) fun _=>out _ h12
  refine ⟨Ext No w12,(Ext.refl _ _).drew,h12.rd (by omega) (by omega) fun x=>Ar.i64 (by omega) (h12.rd (by omega) (by omega) fun y=>lessU fun r w13 x13=>⟨x13.drew_left,If.not (If.cases (fun _=>?_) fun _=>out _ (h12.drew x13))⟩)⟩
  exact ⟨fun _=>True,trivial,Ar.i64 (by omega) (Ar.i64 (by omega) (swap2U (fun _=>trivial) (h12.drew x13) (by omega) (by omega) (by omega) (by omega) fun w15 h15 _=>Ar.i64 (by omega) ⟨_,by omega,rfl,by omega,by omega,h15⟩))⟩
theorem pdq_specU(hn:n<=65535):∀(N:Nat){a b limit:Int}{w:Wd}{K:Wd->Prop},SqU w0 base e s n L0 w->0<=a->a<=b->b<=n->b - a<=N->(∀ w',SqU w0 base e s n L0 w'->K w')->C_slices_pdqsortOrdered_uint32 s a b limit w K
 | N,a,b,limit,w,K,h,h0,hab,hb,hN,k=>by
  apply S_slices_pdqsortOrdered_uint32
  have hsz:∀{w'},SqU w0 base e s n L0 w'->w0.heap.size<=w'.heap.size:=fun h=>h.ext.size
  refine ⟨fun q a' b' _ _ _ w'=>q=(b' - a').toNat/\a<=a'/\a'<=b'/\b'<=b/\SqU w0 base e s n L0 w',⟨_,rfl,by omega,hab,by omega,h⟩,?_⟩
  rintro _ m0 a1 b1 lim wb wp w1 ⟨hm,ha1,hab1,hb1,h1⟩
  refine Ar.i64 (by omega) (If.dec (fun h12=>insertion_specU h1 (by omega) (by omega) hn (by omega) fun w2 h2=>k _ h2) fun h12=>If.beq (fun _=>heapSort_specU h1 (by omega) (by omega) (by omega) hn fun w3 h3=>k _ h3) fun _=>?_)
  have q8:Int.tdiv (b1 - a1) 8=(b1 - a1) / 8:=Int.tdiv_eq_ediv_of_nonneg (by omega)
  refine ⟨fun _ w'=>SqU w0 base e s n L0 w',If.not (If.cases (fun _=>h1) fun _=>breakPatterns_specU h1 (hsz h1) (by omega) (by omega) (by omega) hn fun w4 h4=>Ar.any fun _=>h4),?_⟩
  rintro _ lim2 w5 h5
  refine choosePivot_specU h5 (hsz h5) (by omega) (by omega) (by omega) hn fun r0 r1 w6 hr0 h6=>?_
  refine ⟨fun p _ w'=>a1<=p/\p < b1/\SqU w0 base e s n L0 w',If.beq (fun _=>reverseRange_specU h6 (by omega) (by omega) (by omega) hn fun w7 h7=>Ar.i64 (by omega) (Ar.i64 (by omega) (Ar.i64 (by omega) ⟨by omega,by omega,h7⟩))) fun _=>⟨hr0.1,hr0.2,h6⟩,?_⟩
  rintro _ p hint w8 ⟨hp1,hp2,h8⟩
  refine ⟨fun w'=>SqU w0 base e s n L0 w',If.cases (fun _=>If.cases (fun _=>If.beq (fun _=>partialIns_specU h8 (by omega) (by omega) (by omega) hn fun r w10 h10=>If.cases (fun _=>k _ h10) fun _=>h10) fun _=>h8) fun _=>h8) (fun _=>h8),?_⟩
  rintro _ w11 h11
  refine ⟨fun a' w'=>a'=a1/\SqU w0 base e s n L0 w',⟨fun _ w'=>SqU w0 base e s n L0 w',⟨Ext No w11,(Ext.refl _ _).drew,If.dec (fun _=>Ar.i64 (by omega) (h11.rd (by omega) (by omega) fun x=>h11.rd (by omega) (by omega) fun y=>lessU fun r w12 x12=>⟨x12.drew_left,h11.drew x12⟩)) fun _=>h11.no (Ext.refl _ _).drew⟩,?_⟩,?_⟩
  .rintro _ t w13 h13
   exact If.cases (fun _=>partitionEqual_specU h13 (by omega) (by omega) (by omega) hn ⟨hp1,hp2⟩ fun r w14 hr h14=>⟨_,by omega,rfl,by omega,by omega,by omega,h14⟩) fun _=>⟨rfl,h13⟩
  rintro _ a4 w15 ⟨rfl,h15⟩
  refine partition_specU h15 (by omega) (by omega) (by omega) hn ⟨hp1,hp2⟩ fun r d w16 hr h16=>Ar.i64 (by omega) (Ar.i64 (by omega) ⟨by decide,?_⟩)
  rw [q8]
  refine Ar.i64 (by omega) (If.dec (fun _=>?_) fun _=>Ar.i64 (by omega) ?_)
  .match N,hN with
   | 0,hN=>omega
   | N+1,hN=>exact pdq_specU hn N h16 (by omega) (by omega) (by omega) (by omega) fun w17 h17=>Ar.i64 (by omega) ⟨_,by omega,rfl,by omega,by omega,by omega,h17⟩
  .match N,hN with
   | 0,hN=>omega
   | N+1,hN=>exact pdq_specU hn N h16 (by omega) (by omega) (by omega) (by omega) fun w18 h18=>⟨_,by omega,rfl,by omega,by omega,by omega,h18⟩
theorem sortFunc_specU{L:List Int}{K:Wd->Prop}(o:Own w.heap base e 1 s (strsU L))(hn:L.length<=65535)(k:∀ L' w',L'.Perm L->Own w'.heap base e 1 s (strsU L')->Ext (fun q=>s.blk=some q) w w'->K w'):C_slices_Sort_uint32_uint32 s w K:=by
 apply S_slices_Sort_uint32_uint32
 have hl:=o.len
 simp only [List.length_map,Nat.mul_one] at hl
 refine Ar.u64 (by omega) (bitsLen_spec (by omega) (by omega) fun r _ _=>?_)
 refine pdq_specU (n:=L.length) (L0:=L) (base:=base) (e:=e) hn L.length ⟨⟨L, .refl _,o⟩,Ext.refl _ _,rfl⟩ (by omega) (by omega) (by omega) (by omega) fun w' h'=>?_
 obtain ⟨⟨L',hp,ho⟩,hx,_⟩:=h'
 exact k L' w' hp ho hx
end
section
variable {w:Wd}
theorem LimbsR.new{B:Nat->Prop}{kind lev:Int}{ls:List LimbV}{n b:Nat}{w':Wd}(nw:New w (.cells (ls.flatMap (limbCs kind lev)).toArray 277) b w')(hn:ls.length=n)(hB:B b)(hnd:∀ x∈ls,NdQ w'.heap B x.s x.L)
  (hsep:∀ x∈ls,RdB w'.heap x.sep x.key/\B8 x.key/\∀ q,x.sep.blk=some q->B q/\q < w'.heap.size):LimbsR w'.heap B kind lev ⟨some ⟨b,0,none⟩,n,n⟩ ls:=by
 refine ⟨(Own.new (n:=n) (sz:=4) nw (by rw [flat_len' (limbCs_len kind lev ls),hn]) (fun v hv=>?_)).rd,hnd,hsep,fun q hq=>?_⟩
 .obtain ⟨x,_,hx⟩:=List.mem_flatMap.1 hv
  simp only [limbCs,List.mem_cons,List.not_mem_nil,or_false] at hx
  rcases hx with h | h | h | h <;> subst h <;> rfl
 .simp [Sl.blk] at hq
  subst hq
  exact ⟨hB,by have:=nw.size; have:=nw.at_; omega⟩
theorem join2_spec{kind lev:Int}{sa sb ab:Sl}{La Lb:List (EntV×Ent)}{above:List Int}{K:Int->Int->Sl->Bool->Wd->Prop}(na:NdR w.heap sa La)(nb:NdR w.heap sb Lb)(hab:RdB w.heap ab above)(h8:B8 above)(hra:RightP kind lev (ents La))(hrb:RightP kind lev (ents Lb))(hla:La.length<=2000)(hlb:Lb.length<=2000)(hk:above.length<=65536)
  (hj:RightP kind lev (joinL kind (ents La) above (ents Lb)))
  (k1:∀ s L w',(wr kind lev (joinL kind (ents La) above (ents Lb))).length<=224->NdO w'.heap w.heap.size s L->ents L=joinL kind (ents La) above (ents Lb)->Ext No w w'->K kind lev s true w')
  (k0:∀ w',224 < (wr kind lev (joinL kind (ents La) above (ents Lb))).length->Ext No w w'->K 0 0 ⟨none,0,0⟩ false w'):C_graft_Join kind lev sa kind lev sb ab w K:=by
 apply S_graft_Join
 refine NewW.mk fun b w1 n1=>NewW.mk fun b1 w2 n2=>NewW.mk fun b2 w3 n3=>?_
 have hb:=n1.at_; have hb1:=n2.at_; have hb2:=n3.at_; have z1:=n1.size; have z2:=n2.size; have z3:=n3.size
 have x03:Ext No w w3:=(n1.ext.no n2.ext).no n3.ext
 have g3:NdB w3.heap b kind lev sa:=get_no (get_no n1.get n2.ext) n3.ext
 have g13:NdB w3.heap b1 kind lev sb:=get_no n2.get n3.ext
 refine ld3 g3 (ld3 g13 (one_spec (na.no x03) (nb.no x03) (Rd.no hab x03) h8 hra hrb hla hlb hk hj fun s L w4 nL eL x4=>st3 (get_no n3.get x4) rfl fun w5 g5 x5 z5=>If.not (If.yes (ld3 g5 ?_))))
 have nL5:NdO w5.heap w3.heap.size s L:=nL.ext x5 fun q h1 h2 h=>by omega
 have lL:L.length=La.length+Lb.length:=by have:=congrArg List.length eL; rw [joinL_len] at this; simpa using this
 have x05:Ext No w w5:=(x03.no x4).trans x5 fun q hq h=>by omega
 refine size_spec nL5.nd (by omega) (fun w7 _ x7=>If.bne (fun h=>(h rfl).elim) fun _=>If.dec (fun h=>?_) fun h=>?_) fun c w7 hn _ _=>(hn (by rw [eL]; exact hj)).elim
 .rw [eL] at h
  exact st3 (s:=⟨none,0,0⟩) (get_no g5 x7) rfl fun w9 g9 x9 z9=>ld3 g9 (k0 w9 (by omega) ((x05.no x7).trans x9 fun q hq h=>by omega))
 .rw [eL] at h
  exact ld3 (get_no g5 x7) (st3 (get_no g5 x7) rfl fun w9 g9 x9 z9=>ld3 g9 (k1 s L w9 (by omega) (((nL5.no x7).ext x9 fun q h1 h2 h=>by omega).mono (by omega)) eL ((x05.no x7).trans x9 fun q hq h=>by omega)))
theorem even_spec{kind lev:Int}{sa sb ab:Sl}{La Lb:List (EntV×Ent)}{above:List Int}{K:Int->Int->Sl->Int->Int->Sl->Sl->Int->Wd->Prop}(na:NdR w.heap sa La)(nb:NdR w.heap sb Lb)(hab:RdB w.heap ab above)(h8:B8 above)(hra:RightP kind lev (ents La))(hrb:RightP kind lev (ents Lb))(hla:La.length<=2000)(hlb:Lb.length<=2000)(hk:above.length<=65536)
  (hj:RightP kind lev (joinL kind (ents La) above (ents Lb))) (hbig:224 < (wr kind lev (joinL kind (ents La) above (ents Lb))).length) (hex:∃ k,ValidC kind lev (joinL kind (ents La) above (ents Lb)) k)
  (k0:∀(k:Nat) s1 L1 s2 L2 st w' (hk:k < (joinL kind (ents La) above (ents Lb)).length),SplitP kind lev (joinL kind (ents La) above (ents Lb)) k->NdO w'.heap w.heap.size s1 L1->ents L1=(joinL kind (ents La) above (ents Lb)).take k->NdO w'.heap w.heap.size s2 L2->ents L2=cutR kind ((joinL kind (ents La) above (ents Lb)).drop k)->OwnB w'.heap w.heap.size st (joinL kind (ents La) above (ents Lb))[k].key->B8 (joinL kind (ents La) above (ents Lb))[k].key->Ext No w w'->K kind lev s1 kind lev s2 st 0 w') :
  C_graft_Even kind lev sa kind lev sb ab w K:=by
 apply S_graft_Even
 refine NewW.mk fun b w1 n1=>NewW.mk fun b1 w2 n2=>NewW.mk fun b2 w3 n3=>NewW.mk fun b3 w4 n4=>?_
 have hb:=n1.at_; have hb1:=n2.at_; have hb2:=n3.at_; have hb3:=n4.at_; have z1:=n1.size; have z2:=n2.size; have z3:=n3.size; have z4:=n4.size
 have x04:Ext No w w4:=((n1.ext.no n2.ext).no n3.ext).no n4.ext
 have g4:NdB w4.heap b kind lev sa:=get_no (get_no (get_no n1.get n2.ext) n3.ext) n4.ext
 have g14:NdB w4.heap b1 kind lev sb:=get_no (get_no n2.get n3.ext) n4.ext
 have g24:=get_no n3.get n4.ext
 refine ld3 g4 (ld3 g14 (one_spec (na.no x04) (nb.no x04) (Rd.no hab x04) h8 hra hrb hla hlb hk hj fun s L w5 nL eL x5=>NewW.mk fun b4 w6 n6=>st3 n6.get rfl fun w7 g7 x7 z7=>If.not (If.yes (ld3 g7 ?_))))
 have hb4:=n6.at_; have z6:=n6.size
 have x57:Ext (·=b4) w5 w7:=n6.ext.of_no.trans x7 fun _ _ h=>h
 have nL7:NdO w7.heap w4.heap.size s L:=nL.ext x57 fun q h1 h2 h=>by omega
 have lL:L.length=La.length+Lb.length:=by have:=congrArg List.length eL; rw [joinL_len] at this; simpa using this
 have x57':Ext No w5 w7:=x57.mono fun q hq h=>by omega
 have x47:Ext No w4 w7:=x5.no x57'
 generalize hJ:joinL kind (ents La) above (ents Lb)=J at *
 refine split_spec nL7.nd (by rw [eL]; exact hj) (by omega) (by rw [eL]; exact hbig) (by rw [eL]; exact hex) fun k s1 L1 s2 L2 st w10 hk hsp n1' e1 n2' e2 ost x10=>?_
 have s7:=x47.size
 refine st3 (get_no g24 (x47.no x10)) rfl fun w11 g11 x11 z11=>st3 (get_ext (get_no n4.get (x47.no x10)) x11 (by omega)) rfl fun w12 g12 x12 z12=>ld3 (get_ext g11 x12 (by omega)) (ld3 g12 ?_)
 have xf:Ext (fun q=>q=b2∨q=b3) w10 w12:=(x11.mono fun _ _ h => .inl h).trans x12 fun _ _ h => .inr h
 subst eL
 have h8k:B8 (ents L)[k].key:=by
  have e:(ents L)[k]=(L[k]'(by simpa using hk)).2:=by simp
  rw [e]; exact (nL7.nd.get _).k8
 exact k0 k s1 L1 s2 L2 st w12 hk hsp ((n1'.ext xf fun q h1 h2 h=>by omega).mono (by omega)) e1 ((n2'.ext xf fun q h1 h2 h=>by omega).mono (by omega)) e2 (Own.mono (ost.ext xf fun q hq h=>by have:=(ost.lt hq).1; omega) (by omega)) h8k (((x04.no x47).no x10).trans xf fun q hq h=>by omega)
theorem parts_spec{B:Nat->Prop}{kind lev:Int}{s:Sl}{L:List (EntV×Ent)}{K:Sl->Int->Wd->Prop}(nd:NdQ w.heap B s L)(hB:∀ q,w.heap.size<=q->B q)(hr:ents L≠[]->RightP kind lev (ents L))(hl:L.length<=4096)(hex:224 < (wr kind lev (ents L)).length->∃ k,ValidC kind lev (ents L) k)
  (k:∀ ls sl w',LimbsR w'.heap B kind lev sl ls->PartsP kind lev (ents L) (limbsOf ls)->Ext No w w'->K sl 0 w'):C_tree_parts kind lev s w K:=by
 apply S_tree_parts
 have nl:=nd.nd.len
 refine NewW.mk fun b w1 n1=>⟨s,Cell.lst n1.get rfl,If.beq (fun h=>?_) fun h=>?_⟩
 .have:L=[]:=List.eq_nil_of_length_eq_zero (by omega)
  subst this
  exact k [] ⟨none,0,0⟩ w1 ⟨Rd.nil _ _,by simp,by simp,by simp [Sl.blk]⟩ .nil n1.ext
 have hne:ents L≠[]:=by intro e; have:=congrArg List.length e; simp at this; simp [this] at nl; omega
 have hr:=hr hne
 have hb:=n1.at_
 refine ⟨fun w'=>224 < (wr kind lev (ents L)).length/\Ext No w1 w',ld3 n1.get (size_spec (nd.nd.no n1.ext) (by omega) (fun w2 _ x2=>If.beq (fun _=>If.dec (fun h=>ld3 (get_no n1.get x2) (NewW.mk fun b1 w3 n3=>?_)) fun h=>⟨by omega,x2⟩) fun h=>(h rfl).elim) fun c w2 hn _ _=>(hn hr).elim),?_⟩
 .have x03:=(n1.ext.no x2).no n3.ext
  have s2:=(n1.ext.no x2).size
  refine k [⟨⟨none,0,0⟩,[],s,L⟩] ⟨some (Addr.mk b1 0 none),1,1⟩ w3 (LimbsR.new n3 rfl (hB _ (by rw [n3.at_]; exact s2)) (fun x hx=>?_) fun x hx=>?_) (.one hne hr (by omega)) x03
  .rw [List.mem_singleton] at hx; subst hx; exact nd.no x03
  .rw [List.mem_singleton] at hx; subst hx; exact ⟨Rd.nil _ _,B8.nil,fun q hq=>by simp [Sl.blk] at hq⟩
 rintro _ w4 ⟨hbig,x4⟩
 have x04:=n1.ext.no x4
 refine ld3 (get_no n1.get x4) (split_spec (nd.nd.no x04) hr hl hbig (hex hbig) fun k' s1 L1 s2 L2 st w5 hk hsp n1' e1 n2' e2 ost x5=>NewW.mk fun b2 w6 n6=>NewW.mk fun b3 w7 n7=>st3 (get_no n6.get n7.ext) rfl fun w8 g8 x8 z8=>st3 (get_ext n7.get x8 (by have:=n6.size; have:=n7.at_; have:=n6.at_; omega)) rfl fun w9 g9 x9 z9=>If.bne (fun h=>(h rfl).elim) fun _=>ld3 (get_ext g8 x9 (by have:=n6.size; have:=n7.at_; have:=n6.at_; omega)) (ld3 g9 (NewW.mk fun b4 w10 n10=>?_)))
 have hb2:=n6.at_; have hb3:=n7.at_; have z6:=n6.size; have z7:=n7.size; have z10:=n10.size
 have x5w:Ext (fun q=>q=b2∨q=b3) w5 w9:=(((n6.ext.no n7.ext).of_no).trans x8 fun _ _ h => .inl h).trans x9 fun _ _ h => .inr h
 have x5w':Ext No w5 w10:=(x5w.mono fun q hq h=>by omega).no n10.ext
 have s0:=x04.size; have s5:=x5.size; have s5w:=x5w'.size
 have h8k:B8 (ents L)[k'].key:=by
  have e:(ents L)[k']=(L[k']'(by simpa using hk)).2:=by simp
  rw [e]; exact (nd.nd.get _).k8
 have p1:NdQ w10.heap B s1 L1:=(n1'.no x5w').q fun q h _=>hB q (by omega)
 have p2:NdQ w10.heap B s2 L2:=(n2'.no x5w').q fun q h _=>hB q (by omega)
 have pst:=ost.no x5w'
 refine k [⟨⟨none,0,0⟩,[],s1,L1⟩,⟨st,(ents L)[k'].key,s2,L2⟩] ⟨some (Addr.mk b4 0 none),2,2⟩ w10 (LimbsR.new n10 rfl (hB _ (by rw [n10.at_]; have:=x5w.size; omega)) (fun x hx=>?_) fun x hx=>?_) ?_ ((x04.no x5).no x5w')
 .simp only [List.mem_cons,List.not_mem_nil,or_false] at hx; rcases hx with h | h <;> subst h <;> assumption
 .simp only [List.mem_cons,List.not_mem_nil,or_false] at hx
  rcases hx with h | h <;> subst h
  .exact ⟨Rd.nil _ _,B8.nil,fun q hq=>by simp [Sl.blk] at hq⟩
  .exact ⟨pst.rd,h8k,fun q hq=>⟨hB q (by have:=(pst.lt hq).1; omega),(pst.lt hq).2⟩⟩
 .have:=PartsP.two hr hbig hsp hk
  rw [<- e1,<- e2] at this
  exact this
theorem pair_spec{B:Nat->Prop}{kind lev:Int}{sn sm ab:Sl}{Ln Lm:List (EntV×Ent)}{above:List Int}{left:Bool}{J:List Ent}{K:Sl->Int->Wd->Prop}(nn:NdR w.heap sn Ln)(nm:NdR w.heap sm Lm)(hab:RdB w.heap ab above)(h8:B8 above)(hrn:RightP kind lev (ents Ln))(hrm:RightP kind lev (ents Lm))(hln:Ln.length<=2000)(hlm:Lm.length<=2000)(hk:above.length<=65536)(hB:∀ q,w.heap.size<=q->B q)
  (eJ:J=joinL kind (ents (if left then Lm else Ln)) above (ents (if left then Ln else Lm))) (hj:RightP kind lev J) (hne:J≠[]) (hex:224 < (wr kind lev J).length->∃ k,ValidC kind lev J k)
  (k:∀ ls sl w',LimbsR w'.heap B kind lev sl ls->PartsP kind lev J (limbsOf ls)->Ext No w w'->K sl 0 w'):C_tree_pair kind lev sn kind lev sm ab left w K:=by
 apply S_tree_pair
 refine NewW.mk fun b w1 n1=>NewW.mk fun b1 w2 n2=>?_
 have hb:=n1.at_; have hb1:=n2.at_; have z1:=n1.size; have z2:=n2.size
 have x02:Ext No w w2:=n1.ext.no n2.ext
 have g2:NdB w2.heap b kind lev sn:=get_no n1.get n2.ext
 have g12:NdB w2.heap b1 kind lev sm:=n2.get
 refine ⟨fun w'=>NdB w'.heap b kind lev (if left then sm else sn)/\NdB w'.heap b1 kind lev (if left then sn else sm)/\Ext No w w',If.cases (fun h=>?_) fun h=>?_,?_⟩
 .subst h
  refine ld3 g12 (ld3 g2 (st3 g2 rfl fun w3 g3 x3 z3=>st3 (get_ext g12 x3 (by omega)) rfl fun w4 g4 x4 z4=>⟨get_ext g3 x4 (by omega),g4,(x02.trans x3 fun q _ h=>by omega).trans x4 fun q _ h=>by omega⟩))
 .subst h; exact ⟨g2,g12,x02⟩
 rintro _ w5 ⟨g5,g15,x5⟩
 have hA:NdR w5.heap (if left then sm else sn) (if left then Lm else Ln):=by split <;> simp_all <;> first | exact nm.no x5 | exact nn.no x5
 have hBn:NdR w5.heap (if left then sn else sm) (if left then Ln else Lm):=by split <;> simp_all <;> first | exact nm.no x5 | exact nn.no x5
 have rA:RightP kind lev (ents (if left then Lm else Ln)):=by split <;> assumption
 have rB:RightP kind lev (ents (if left then Ln else Lm)):=by split <;> assumption
 have lA:(if left then Lm else Ln).length<=2000:=by split <;> assumption
 have lB:(if left then Ln else Lm).length<=2000:=by split <;> assumption
 generalize (if left then sm else sn)=sA at *
 generalize (if left then sn else sm)=sB at *
 generalize (if left then Lm else Ln)=LA at *
 generalize (if left then Ln else Lm)=LB at *
 have s5:=x5.size
 rw [eJ] at hj hne hex
 refine ld3 g5 (ld3 g15 (join2_spec hA hBn (Rd.no hab x5) h8 rA rB lA lB hk hj (fun s L w6 hs nL eL x6=>NewW.mk fun b2 w7 n7=>st3 n7.get rfl fun w8 g8 x8 z8=>If.yes (ld3 g8 (NewW.mk fun b3 w9 n9=>?_))) fun w6 hbig x6=>NewW.mk fun b2 w7 n7=>st3 (s:=⟨none,0,0⟩) n7.get rfl fun w8 g8 x8 z8=>If.no (ld3 (get_no g5 ((x6.no n7.ext).trans x8 fun q hq h=>?_)) (ld3 (get_no g15 ((x6.no n7.ext).trans x8 fun q hq h=>?_)) ?_))))
 .have hb2:=n7.at_; have z7:=n7.size; have z9:=n9.size; have s6:=x6.size
  have x69:Ext No w6 w9:=((n7.ext.of_no.trans (S:=fun q=>q=b2) x8 fun _ _ h=>h).mono fun q hq h=>by omega).no n9.ext
  have p1:NdQ w9.heap B s L:=(nL.no x69).q fun q h _=>hB q (by omega)
  refine k [⟨⟨none,0,0⟩,[],s,L⟩] ⟨some (Addr.mk b3 0 none),1,1⟩ w9 (LimbsR.new n9 rfl (hB _ (by have:=n9.at_; omega)) (fun x hx=>?_) fun x hx=>?_) ?_ ((x5.no x6).no x69)
  .rw [List.mem_singleton] at hx; subst hx; exact p1
  .rw [List.mem_singleton] at hx; subst hx; exact ⟨Rd.nil _ _,B8.nil,fun q hq=>by simp [Sl.blk] at hq⟩
  .have:=PartsP.one hne hj hs
   rw [eJ]
   rw [<- eL] at this ⊢
   exact this
 .have:=n7.at_; have:=x6.size; have:=blt g5; omega
 .have:=n7.at_; have:=x6.size; have:=blt g5; omega
 .have hb2:=n7.at_; have z7:=n7.size; have s6:=x6.size
  have x58:Ext No w5 w8:=(x6.no n7.ext).trans x8 fun q hq h=>by omega
  have x08:=x5.no x58
  refine even_spec (hA.no x58) (hBn.no x58) (Rd.no hab x08) h8 rA rB lA lB hk hj hbig (hex hbig) fun k' s1 L1 s2 L2 st w10 hk' hsp n1' e1 n2' e2 ost h8k x10=>NewW.mk fun b4 w11 n11=>NewW.mk fun b5 w12 n12=>st3 (get_no n11.get n12.ext) rfl fun w13 g13 x13 z13=>st3 (get_ext n12.get x13 (by have:=n11.size; have:=n12.at_; have:=n11.at_; omega)) rfl fun w14 g14 x14 z14=>ld3 (get_ext g13 x14 (by have:=n11.size; have:=n12.at_; have:=n11.at_; omega)) (ld3 g14 (NewW.mk fun b6 w15 n15=>?_))
  have hb4:=n11.at_; have hb5:=n12.at_; have z11:=n11.size; have z12:=n12.size; have z15:=n15.size
  have x1014:Ext (fun q=>q=b4∨q=b5) w10 w14:=(((n11.ext.no n12.ext).of_no).trans x13 fun _ _ h => .inl h).trans x14 fun _ _ h => .inr h
  have x1015:Ext No w10 w15:=(x1014.mono fun q hq h=>by omega).no n15.ext
  have s8:=x08.size; have s10:=x10.size; have s15:=x1014.size
  have p1:NdQ w15.heap B s1 L1:=(n1'.no x1015).q fun q h _=>hB q (by omega)
  have p2:NdQ w15.heap B s2 L2:=(n2'.no x1015).q fun q h _=>hB q (by omega)
  have pst:=ost.no x1015
  refine k [⟨⟨none,0,0⟩,[],s1,L1⟩,⟨st,(joinL kind (ents LA) above (ents LB))[k'].key,s2,L2⟩] ⟨some (Addr.mk b6 0 none),2,2⟩ w15 (LimbsR.new n15 rfl (hB _ (by have:=n15.at_; omega)) (fun x hx=>?_) fun x hx=>?_) ?_ ((x08.no x10).no x1015)
  .simp only [List.mem_cons,List.not_mem_nil,or_false] at hx; rcases hx with h | h <;> subst h <;> assumption
  .simp only [List.mem_cons,List.not_mem_nil,or_false] at hx
   rcases hx with h | h <;> subst h
   .exact ⟨Rd.nil _ _,B8.nil,fun q hq=>by simp [Sl.blk] at hq⟩
   .exact ⟨pst.rd,h8k,fun q hq=>⟨hB q (by have:=(pst.lt hq).1; omega),(pst.lt hq).2⟩⟩
  .have:=PartsP.two hj hbig hsp hk'
   rw [eJ]
   rw [<- e1,<- e2] at this
   exact this
end
end Go.Proofs.YtcamoanigdfihaaGreat
