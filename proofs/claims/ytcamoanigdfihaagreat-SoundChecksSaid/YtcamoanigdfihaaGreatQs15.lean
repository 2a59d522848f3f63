/- Texts for LSoundChecks, part 15. -/
import Derived.Recover
import Derived.Test.YtcamoanigdfihaaGreatQs14
set_option maxRecDepth 100000
namespace Go.V
open Go.Proofs.YtcamoanigdfihaaGreat
structure PgD where
 r:Rf
 lev:Int
 l:List Ent
 piece:Bool
 size:Nat
 next:Rf
 bad:Bool
def PgD.kind(p:PgD):Int:=if p.piece then 3 else kindOf p.lev
def PgD.v(p:PgD):Int:=if p.piece then 0 else p.lev
def PgD.pay(p:PgD):List Int:=if p.bad then List.replicate 224 255 else if p.piece then chB (List.replicate p.size 0) p.next else pad (wr (kindOf p.lev) p.lev p.l)
def PgD.pg(p:PgD):Int×Pg:=(p.r.p,⟨5,p.kind,p.v,p.r,p.pay,false⟩)
structure PgD.OK(p:PgD):Prop where
 pc:p.piece=true->(1<=p.size/\p.size<=208)/\p.next.ok/\p.lev=0/\p.l=[]
 nd:p.piece=false->RightP (kindOf p.lev) p.lev p.l/\(wr (kindOf p.lev) p.lev p.l).length<=224/\(∀ e∈p.l,e.ch.ok/\e.cd.ok/\B8 e.key)
 r:p.r.ok
structure WSt where
 S:List Rf
 kn:Nat
 pn:Nat
 cn:Nat
inductive WRes where
 | ok (s:WSt)
 | bad (e:Int) (r:Rf)
inductive CRes where
 | ok (p:PgD)
 | bad (e:Int)
def findD(A:List PgD)(n:Int):Option PgD:=A.find? fun p=>decide (p.r.p=n)
def comeD(A:List PgD)(S:List Rf)(r:Rf):CRes :=
 if r∈S then .bad 8 else match findD A r.p with
 | none => .bad 7
 | some p=>if p.r=r then .ok p else .bad 150
def chainD(A:List PgD):Nat->WSt->Rf->Int->WRes
 | 0,s,_,_ => .ok s
 | n+1,s,r,left=>if r = .z then .ok s else match comeD A s.S r with
  | .bad e => .bad e r
  | .ok p=>if p.piece=false then .bad 150 r else if p.bad=true∨left < p.size∨¬ (left=p.size ↔ p.next = .z) then .bad 5 r else chainD A n ⟨s.S++[r],s.kn,s.pn+1,s.cn+1⟩ p.next (left - p.size)
def goD{α:Type}(f:WSt->α->WRes):List α->WSt->WRes
 | [],s => .ok s
 | x::l,s=>match f s x with
  | .ok s'=>goD f l s'
  | .bad e r => .bad e r
def leafD(A:List PgD)(s:WSt)(x:Ent):WRes:=chainD A (x.n.toNat+1) ⟨s.S,s.kn+1,s.pn,s.cn+1⟩ x.ch x.n
def keyAt(l:List Ent)(i:Nat):List Int:=(l[i]?.map Ent.key).getD []
def cdAt(l:List Ent)(i:Nat):Rf:=(l[i]?.map Ent.cd).getD .z
def spanAt(lo hi:List Int)(l:List Ent)(i:Nat):Rf×List Int×List Int:=(cdAt l i,if i=0 then lo else keyAt l i,if i+1 < l.length then keyAt l (i+1) else hi)
def spanD(lo hi:List Int)(l:List Ent):List (Rf×List Int×List Int):=(List.range l.length).map (spanAt lo hi l)
def okD(lo hi:List Int)(l:List Ent):Prop:=∀ x∈l,x.key=[]∨InB lo hi x.key
instance (lo hi k:List Int):Decidable (InB lo hi k):=inferInstanceAs (Decidable (_/\_))
instance (lo hi:List Int) (l:List Ent):Decidable (okD lo hi l):=inferInstanceAs (Decidable (∀ x∈l,_))
def headD(A:List PgD)(lev:Nat)(s:WSt)(r:Rf)(lo hi:List Int)(k:PgD->WSt->WRes):WRes:=match comeD A s.S r with
 | .bad e => .bad e r
 | .ok p=>if p.piece=true∨p.lev≠lev then .bad 150 r else if p.bad=true∨p.l.length < (if lev=0 then 1 else 2) then .bad 5 r else if ¬ okD lo hi p.l then .bad 120 r else k p ⟨s.S++[r],s.kn,s.pn+1,s.cn⟩
def nodeD(A:List PgD):Nat->WSt->Rf->List Int->List Int->WRes
 | 0=>fun s r lo hi=>headD A 0 s r lo hi fun p s'=>goD (leafD A) p.l s'
 | lv+1=>fun s r lo hi=>headD A (lv+1) s r lo hi fun p s'=>goD (fun s x=>nodeD A lv s x.1 x.2.1 x.2.2) (spanD lo hi p.l) s'
def checkD(A:List PgD)(r:Rf)(lev:Nat):WRes:=if r = .z/\lev=0 then .ok ⟨[],0,0,0⟩ else nodeD A lev ⟨[],0,0,0⟩ r [] []
theorem pgA_D(A:List PgD)(n:Int):pgA n (A.map PgD.pg)=(findD A n).map fun p=>p.pg.2:=by
 induction A with
 | nil=>rfl
 | cons p A ih =>
  have e:findD (p::A) n=if p.r.p=n then some p else findD A n:=by
   unfold findD; rw [List.find?_cons]; by_cases h:p.r.p=n <;> simp [h]
  show (if n=p.r.p then some p.pg.2 else pgA n (A.map PgD.pg))=_
  rw [e]
  by_cases h:n=p.r.p
  .rw [if_pos h,if_pos h.symm]; rfl
  .rw [if_neg h,if_neg fun h'=>h h'.symm]; exact ih
theorem findD_mem{A:List PgD}{n:Int}{p:PgD}(h:findD A n=some p):p∈A/\p.r.p=n:=by
 have h1:=List.mem_of_find?_eq_some h
 have h2:=List.find?_some h
 exact ⟨h1,by simpa using h2⟩
theorem comeD_ok{A:List PgD}{S:List Rf}{r:Rf}{p:PgD}(h:comeD A S r = .ok p):r ∉ S/\findD A r.p=some p/\p.r=r/\p∈A:=by
 unfold comeD at h
 split at h
 .cases h
 .rename_i h1
  split at h
  .cases h
  .rename_i q h2
   split at h
   .rename_i h3; cases h; exact ⟨h1,h2,h3,(findD_mem h2).1⟩
   .cases h
theorem spanD_len(lo hi:List Int)(l:List Ent):(spanD lo hi l).length=l.length:=by simp [spanD]
theorem spanD_drop{lo hi:List Int}{l:List Ent}{j:Nat}(h:j < l.length):(spanD lo hi l).drop j=spanAt lo hi l j::(spanD lo hi l).drop (j+1):=by
 rw [List.drop_eq_getElem_cons (by rw [spanD_len]; exact h)]
 simp [spanD]
def leftD(A:List PgD)(S:List Rf):Nat:=(A.filter fun p=>decide (p.r ∉ S)).length
theorem come_left{A:List PgD}{S:List Rf}{r:Rf}{p:PgD}(h:comeD A S r = .ok p):leftD A (S++[r])+1<=leftD A S:=by
 obtain ⟨h1,_,h3,h4⟩:=comeD_ok h
 have e:(A.filter fun p=>decide (p.r ∉ S++[r]))=(A.filter fun p=>decide (p.r ∉ S)).filter fun p=>decide (p.r≠r):=by
  rw [List.filter_filter]
  congr 1; funext q
  rw [Bool.eq_iff_iff]; simp [and_comm]
 unfold leftD
 rw [e]
 exact List.length_filter_lt_length_iff_exists.2 ⟨p,List.mem_filter.2 ⟨h4,by rw [h3]; simpa using h1⟩,by simp [h3]⟩
structure WOk(A:List PgD)(s:WSt)(b:Nat):Prop where
 pn:s.pn+leftD A s.S<=A.length
 kn:s.kn+b+300 * leftD A s.S<=300 * A.length
 cn:s.cn<=s.kn+s.pn
 ln:s.S.length=s.pn
theorem WOk.piece{A:List PgD}{b:Nat}{s:WSt}{r:Rf}{p:PgD}(h:WOk A s b)(hp:comeD A s.S r = .ok p):WOk A ⟨s.S++[r],s.kn,s.pn+1,s.cn+1⟩ b:=by
 have:=come_left hp
 exact ⟨by have:=h.pn; show s.pn+1+leftD A (s.S++[r])<=_; omega,by have:=h.kn; show s.kn+b+300 * leftD A (s.S++[r])<=_; omega,by have:=h.cn; show s.cn+1<=s.kn+(s.pn+1); omega,by have:=h.ln; show (s.S++[r]).length=s.pn+1; simp; omega⟩
theorem chainD_ok{A:List PgD}{b:Nat}:∀{n:Nat}{s s':WSt}{r:Rf}{left:Int},WOk A s b->chainD A n s r left = .ok s'->WOk A s' b
 | 0,s,s',r,left,h,e=>by cases e; exact h
 | n+1,s,s',r,left,h,e=>by
  unfold chainD at e
  split at e
  .cases e; exact h
  .split at e
   .cases e
   .rename_i p hp
    split at e
    .cases e
    .split at e
     .cases e
     .exact chainD_ok (h.piece hp) e
theorem leafD_ok{A:List PgD}{b:Nat}{s s':WSt}{x:Ent}(h:WOk A s (b+1))(e:leafD A s x = .ok s'):WOk A s' b :=
 chainD_ok (s:=⟨s.S,s.kn+1,s.pn,s.cn+1⟩) ⟨h.pn,by have:=h.kn; show s.kn+1+b+300 * leftD A s.S<=_; omega,by have:=h.cn; show s.cn+1<=s.kn+1+s.pn; omega,h.ln⟩ e
theorem goD_leaf{A:List PgD}{b:Nat}:∀{l:List Ent}{s s':WSt},WOk A s (b+l.length)->goD (leafD A) l s = .ok s'->WOk A s' b
 | [],s,s',h,e=>by cases e; exact h
 | x::l,s,s',h,e=>by
  unfold goD at e
  split at e
  .rename_i s1 h1
   exact goD_leaf (leafD_ok (b:=b+l.length) h h1) e
  .cases e
theorem goD_ok{α:Type}{A:List PgD}{b:Nat}{f:WSt->α->WRes}(hf:∀{s s' x},WOk A s b->f s x = .ok s'->WOk A s' b):∀{l:List α}{s s':WSt},WOk A s b->goD f l s = .ok s'->WOk A s' b
 | [],s,s',h,e=>by cases e; exact h
 | x::l,s,s',h,e=>by
  unfold goD at e
  split at e
  .rename_i s1 h1
   exact goD_ok hf (hf h h1) e
  .cases e
theorem WOk.come{A:List PgD}{b:Nat}{s:WSt}{r:Rf}{p:PgD}(hA:∀ p∈A,p.OK)(h:WOk A s b)(hp:comeD A s.S r = .ok p)(hl:p.piece=false):WOk A ⟨s.S++[r],s.kn,s.pn+1,s.cn⟩ (b+p.l.length):=by
 have h1:=come_left hp
 have h2:=wr_count ((hA p (comeD_ok hp).2.2.2).nd hl).2.1
 exact ⟨by have:=h.pn; show s.pn+1+leftD A (s.S++[r])<=_; omega,by have:=h.kn; show s.kn+(b+p.l.length)+300 * leftD A (s.S++[r])<=_; omega,by have:=h.cn; show s.cn<=s.kn+(s.pn+1); omega,by have:=h.ln; show (s.S++[r]).length=s.pn+1; simp; omega⟩
theorem WOk.le{A:List PgD}{a b:Nat}{s:WSt}(h:WOk A s b)(hab:a<=b):WOk A s a:=⟨h.pn,by have:=h.kn; omega,h.cn,h.ln⟩
theorem headD_ok{A:List PgD}{lev b:Nat}{s s':WSt}{r:Rf}{lo hi:List Int}{k:PgD->WSt->WRes}(hA:∀ p∈A,p.OK)(h:WOk A s b)(hk:∀ p s1,p∈A->WOk A s1 (b+p.l.length)->k p s1 = .ok s'->WOk A s' b)(e:headD A lev s r lo hi k = .ok s'):WOk A s' b:=by
 unfold headD at e
 cases hp:comeD A s.S r with
 | bad c=>rw [hp] at e; cases e
 | ok p =>
  rw [hp] at e
  simp only [] at e
  by_cases h1:p.piece=true∨p.lev≠lev
  .rw [if_pos h1] at e; cases e
  rw [if_neg h1] at e
  by_cases h2:p.bad=true∨p.l.length < (if lev=0 then 1 else 2)
  .rw [if_pos h2] at e; cases e
  rw [if_neg h2] at e
  by_cases h3:¬ okD lo hi p.l
  .rw [if_pos h3] at e; cases e
  rw [if_neg h3] at e
  exact hk p _ (comeD_ok hp).2.2.2 (h.come hA hp (by simp only [not_or,Bool.not_eq_true] at h1; exact h1.1)) e
theorem nodeD_ok{A:List PgD}{b:Nat}(hA:∀ p∈A,p.OK):∀{lev:Nat}{s s':WSt}{r:Rf}{lo hi:List Int},WOk A s b->nodeD A lev s r lo hi = .ok s'->WOk A s' b
 | 0,s,s',r,lo,hi,h,e=>headD_ok hA h (fun p s1 _ h1 e1=>goD_leaf h1 e1) e
 | lv+1,s,s',r,lo,hi,h,e=>headD_ok hA h (fun p s1 _ h1 e1=>goD_ok (fun h2 e2=>nodeD_ok hA h2 e2) (h1.le (by omega)) e1) (show headD A (lv+1) s r lo hi (fun p s'=>goD (fun s (x:Rf×List Int×List Int)=>nodeD A lv s x.1 x.2.1 x.2.2) (spanD lo hi p.l) s')=_ from e)
theorem leftD_nil(A:List PgD):leftD A []=A.length:=by
 unfold leftD
 rw [List.filter_eq_self.2 fun p _=>by simp]
theorem WOk.nil(A:List PgD):WOk A ⟨[],0,0,0⟩ 0:=⟨by show 0+leftD A []<=_; rw [leftD_nil]; omega,by show 0+0+300 * leftD A []<=_; rw [leftD_nil]; omega,Nat.le_refl _,rfl⟩
def bodyD(A:List PgD)(lev:Nat)(lo hi:List Int)(l:List Ent)(j:Nat)(s:WSt):WRes:=match lev with
 | 0=>goD (leafD A) (l.drop j) s
 | lv+1=>goD (fun s x=>nodeD A lv s x.1 x.2.1 x.2.2) ((spanD lo hi l).drop j) s
theorem nodeD_eq{A:List PgD}{lev:Nat}{s:WSt}{r:Rf}{lo hi:List Int}:nodeD A lev s r lo hi=headD A lev s r lo hi fun p s'=>bodyD A lev lo hi p.l 0 s':=by cases lev <;> rfl
theorem bodyD_leaf{A:List PgD}{lo hi:List Int}{l:List Ent}{j:Nat}{s:WSt}(h:j < l.length):bodyD A 0 lo hi l j s=match leafD A s l[j] with
  | .ok s'=>bodyD A 0 lo hi l (j+1) s'
  | .bad e r => .bad e r:=by
 unfold bodyD
 simp only []
 rw [List.drop_eq_getElem_cons h]
 rfl
theorem bodyD_inner{A:List PgD}{lv:Nat}{lo hi:List Int}{l:List Ent}{j:Nat}{s:WSt}(h:j < l.length):bodyD A (lv+1) lo hi l j s=match nodeD A lv s (cdAt l j) (if j=0 then lo else keyAt l j) (if j+1 < l.length then keyAt l (j+1) else hi) with
    | .ok s'=>bodyD A (lv+1) lo hi l (j+1) s'
    | .bad e r => .bad e r:=by
  unfold bodyD
  simp only []
  rw [spanD_drop h]
  rfl
theorem bodyD_end{A:List PgD}{lev:Nat}{lo hi:List Int}{l:List Ent}{s:WSt}:bodyD A lev lo hi l l.length s = .ok s:=by
 cases lev with
 | zero=>unfold bodyD; simp only []; rw [List.drop_length]; rfl
 | succ lv=>unfold bodyD; simp only []; rw [List.drop_of_length_le (by rw [spanD_len]; exact Nat.le_refl _)]; rfl
theorem keyAt_get{l:List Ent}{j:Nat}(h:j < l.length):keyAt l j=l[j].key:=by simp [keyAt,List.getElem?_eq_getElem h]
theorem cdAt_get{l:List Ent}{j:Nat}(h:j < l.length):cdAt l j=l[j].cd:=by simp [cdAt,List.getElem?_eq_getElem h]
def SndM(M:Mm)(A:List PgD):Prop:=M.pages=A.map PgD.pg/\∀ p∈A,p.OK
end Go.V
namespace Go.Proofs.YtcamoanigdfihaaGreat
open Go.V
section
variable {w:Wd} {T:Nat->Option Nat} {m:MemV} {M:Mm} {A:List PgD}
theorem getA_seen1{r:Rf}:∀{S:List Rf},r∈S->getA r (seenM S)=some (Value.bool true)
 | [],h=>by cases h
 | q::S,h=>by
  show (if r=q then _ else getA r (seenM S))=_
  by_cases hq:r=q
  .rw [if_pos hq]
  .rw [if_neg hq]; exact getA_seen1 ((List.mem_cons.1 h).resolve_left hq)
abbrev erV(b:Nat):List PanicEntry:=[{ v := .iface 141 (.pointer (some ⟨b,0,none⟩)),recovered:=false }]
abbrev erC(e:Int)(r:Rf):Obj := .cells [.int .i64 e, .int .u32 r.p, .int .u64 r.c, .int .u16 r.g].toArray 143 (0,0)
set_option maxHeartbeats 1000000 in
theorem wpage_any{k v:Int}{r:Rf}{bw sr kn pn cn:Nat}{S:List Rf}{K:Sl->Wd->Prop}{X:PX}(R:MemR w.heap T m M)(hA:SndM M A)(W:WkR w.heap m 5 bw sr S kn pn cn)(hb:T bw=none/\T sr=none/\bw≠sr)(hp:pn<=1000000000)
  (kx:∀ e b w',(comeD A S r = .bad e∨∃ p,comeD A S r = .ok p/\¬ (p.kind=k/\p.v=v)/\e=150)->w'.heap[b]? = some (erC e r)->w.heap.size<=b->Ext (fun q=>q=bw∨q=sr) w w'->X (erV b) w')
  (k0:∀ p s w',comeD A S r = .ok p->p.kind=k->p.v=v->OwnB w'.heap w.heap.size s p.pay->WkR w'.heap m 5 bw sr (S++[r]) kn (pn+1) cn->Ext (fun q=>q=bw∨q=sr) w w'->K s w'):C_sound_walk_page (some ⟨bw,0,none⟩) k v r.p r.c r.g w K X:=by
 apply S_sound_walk_page
 refine NewW.mk fun b w1 n1=>?_
 have e1:=n1.at_; have z1:=n1.size
 have W1:=W.no n1.ext
 have lt:=W.lt
 have hbs:b≠sr:=by omega
 refine ⟨fun w'=>Ext No w1 w'/\r ∉ S,?_,?_⟩
 .by_cases hn:r∈S
  .refine ⟨Ext No w1,(Ext.refl _ _).drew,Nn.mk ⟨_,Held.cell (Cell.lst W1.at_ rfl),_,Held.cell (Cell.lst n1.get rfl),_,Held.cell (Cell.lst n1.get rfl),_,Held.cell (Cell.lst n1.get rfl),true,drewW w1,?_,(Ext.refl _ _).drew,If.yes ?_⟩⟩
   .have:=run_lookup (w:=drewW w1) (a:=r) ref36 map145 (z := .bool false) (by kernel_rfl) W1.map
    rw [getA_seen1 hn] at this
    exact this
   .have g2:=get_no n1.get (Ext.refl No w1).drew
    refine ⟨_,Cell.lst g2 rfl,_,Cell.lst g2 rfl,_,Cell.lst g2 rfl,NewW.mk fun b1 w7 n7=>kx 8 b1 w7 (.inl (by unfold comeD; rw [if_pos hn])) n7.get ?_ ((n1.ext.no (Ext.refl No w1).drew).no n7.ext).of_no⟩
    have:=n7.at_
    have h9:(drewW w1).heap.size=w1.heap.size:=rfl
    omega
  .refine ⟨Ext No w1,(Ext.refl _ _).drew,Nn.mk ⟨_,Held.cell (Cell.lst W1.at_ rfl),_,Held.cell (Cell.lst n1.get rfl),_,Held.cell (Cell.lst n1.get rfl),_,Held.cell (Cell.lst n1.get rfl),false,drewW w1,?_,(Ext.refl _ _).drew,If.no ⟨(Ext.refl _ _).drew,hn⟩⟩⟩
   have:=run_lookup (w:=drewW w1) (a:=r) ref36 map145 (z := .bool false) (by kernel_rfl) W1.map
   rw [getA_seen hn] at this
   exact this
 rintro _ w4 ⟨x4,hn⟩
 have W4:=W1.no x4
 have g4:=get_no n1.get x4
 obtain ⟨w5,hrun,hmap,x5,z5⟩:=run_mapUpdate (w:=drewW w4) (a:=r) ref36 map145 (v := .bool true) W4.map
 rw [putA_seen hn] at hmap
 have x45:Ext (·=sr) w4 w5:=x5.drew_left
 refine ⟨Ext (·=sr) w4,(Ext.refl _ _).drew,Nn.mk ⟨_,Held.but (Cell.lst W4.at_ rfl) hb.2.2,_,Held.but (Cell.lst g4 rfl) hbs,_,Held.but (Cell.lst g4 rfl) hbs,_,Held.but (Cell.lst g4 rfl) hbs,w5,hrun,x45,?_⟩⟩
 have g5:=get_ext g4 x45 hbs
 have a5:=get_ext W4.at_ x45 hb.2.2
 have R5:MemR w5.heap T m M:=((R.no n1.ext).no x4).ext x45 fun q hq=>by rw [hq]; exact hb.2.1
 refine ⟨Ext No w5,(Ext.refl _ _).drew,Nn.mk ⟨_,Held.cell (Cell.lst a5 rfl),Nn.mk ⟨_,Held.cell (Cell.lst a5 rfl),_,Held.cell (Cell.lst g5 rfl),_,Held.cell (Cell.lst g5 rfl),_,Held.cell (Cell.lst g5 rfl),?_⟩⟩⟩
 have R5':MemR (drewW w5).heap T m M:=R5
 have y4:=x4.size; have y5:=x45.size
 have x05:Ext (fun q=>q=bw∨q=sr) w w5:=((n1.ext.no x4).of_no (S:=fun q=>q=bw∨q=sr)).trans x45 fun q _ h => .inr h
 have hf:=pgA_D A r.p
 rw [<- hA.1] at hf
 have bad:∀(e:Int)(w6:Wd),Ext No (drewW w5) w6->(comeD A S r = .bad e∨∃ p,comeD A S r = .ok p/\¬ (p.kind=k/\p.v=v)/\e=150)->∃ c_1:Int,Cell w6 (Addr.mk b 0 none) (.int .u32 c_1)/\∃ c_2:Int,Cell w6 ((Addr.mk b 0 none).add 1) (.int .u64 c_2)/\∃ c_3:Int,Cell w6 ((Addr.mk b 0 none).add 2) (.int .u16 c_3)/\NewW w6 (.cells [.int .i64 e, .int .u32 c_1, .int .u64 c_2, .int .u16 c_3].toArray 143) fun b1 w7=>X (erV b1) w7:=fun e w6 x6 hc=>by
  have x56:Ext No w5 w6:=x6.drew_left
  have g6:=get_no g5 x56
  refine ⟨_,Cell.lst g6 rfl,_,Cell.lst g6 rfl,_,Cell.lst g6 rfl,NewW.mk fun b1 w7 n7=>kx e b1 w7 hc n7.get ?_ ((x05.no x56).no n7.ext)⟩
  have:=n7.at_; have:=x56.size; omega
 refine I_tree_Mem_Get (memGet_spec (w:=drewW w5) R5' (fun q s w6 hq ht hk hv hr o6 x6=>⟨x6.drew_left,fun w'=>w'=w6,If.bne (fun h=>absurd rfl h) fun _=>rfl,?_⟩) (fun w6 hq x6=>⟨x6.drew_left,fun w'=>False,If.bne (fun _=>bad 7 w6 x6 (.inl ?_)) fun h=>absurd h (by decide),fun _ _ h=>h.elim⟩) fun q w6 hq hne x6=>⟨x6.drew_left,fun w'=>False,If.bne (fun _=>bad 150 w6 x6 ?_) fun h=>absurd h (by decide),fun _ _ h=>h.elim⟩)
 .rintro _ w8 rfl
  have x56:Ext No w5 w8:=x6.drew_left
  have a6:=get_no a5 x56
  refine Nn.mk ⟨_,Cell.lst a6 rfl,Ar.i64 (by omega) (Nn.mk (St1.mk a6 (by show 4 < 9; decide) rfl fun w9 h9=>?_))⟩
  have x9:Ext (·=bw) w8 w9:=h9.ext
  have y6:=x56.size
  rw [hq] at hf
  cases hd:findD A r.p with
  | none=>rw [hd] at hf; cases hf
  | some p =>
  rw [hd] at hf
  simp only [Option.map_some,Option.some.injEq] at hf
  subst hf
  have o6':OwnB w8.heap w5.heap.size s p.pay:=o6
  have hr':p.r=r:=hr
  exact k0 p s w9 (by unfold comeD; rw [if_neg hn,hd]; simp only []; rw [if_pos hr']) hk hv ((o6'.mono (by omega)).ext x9 fun q hq h=>by have:=(o6'.lt hq).1; omega) ⟨h9.get a6,(hmap.ext x56 fun h=>h).ext x9 fun h=>hb.2.2 h.symm⟩ ((x05.no x56).trans x9 fun q _ h => .inl h)
 .rw [hq] at hf
  cases hd:findD A r.p with
  | none=>unfold comeD; rw [if_neg hn,hd]
  | some p=>rw [hd] at hf; cases hf
 .rw [hq] at hf
  cases hd:findD A r.p with
  | none=>rw [hd] at hf; cases hf
  | some p =>
  rw [hd] at hf
  simp only [Option.map_some,Option.some.injEq] at hf
  subst hf
  by_cases hr:p.r=r
  .exact .inr ⟨p,by unfold comeD; rw [if_neg hn,hd]; simp only []; rw [if_pos hr],fun h=>hne ⟨rfl,h.1,h.2,hr⟩,rfl⟩
  .exact .inl (by unfold comeD; rw [if_neg hn,hd]; simp only []; rw [if_neg hr])
end
section
variable {w:Wd} {T:Nat->Option Nat} {m:MemV} {M:Mm} {A:List PgD}
theorem thr{b:Nat}{e:Int}{r:Rf}{cs:List Value}{Y:TypeId}{X:PX}(g:w.heap[b]? = some (.cells cs.toArray Y (0,0)))(h0:cs[0]? = some (.int .u32 r.p))(h1:cs[1]? = some (.int .u64 r.c))(h2:cs[2]? = some (.int .u16 r.g))(k:∀ b' w',w'.heap[b']? = some (erC e r)->b'=w.heap.size->Ext No w w'->X (erV b') w') :
  ∃ c_6:Int,Cell w (Addr.mk b 0 none) (.int .u32 c_6)/\∃ c_7:Int,Cell w ((Addr.mk b 0 none).add 1) (.int .u64 c_7)/\∃ c_8:Int,Cell w ((Addr.mk b 0 none).add 2) (.int .u16 c_8)/\NewW w (.cells [.int .i64 e, .int .u32 c_6, .int .u64 c_7, .int .u16 c_8].toArray 143) fun b_2 w7=>X [{ v := .iface 141 (.pointer (some (Addr.mk b_2 0 none))),recovered:=false }] w7 :=
 ⟨_,Cell.lst g h0,_,Cell.lst g h1,_,Cell.lst g h2,NewW.mk fun b' w' n=>k b' w' n.get n.at_ n.ext⟩
theorem bad224:List.replicate 224 (255:Int)=List.replicate 4 255++(List.replicate 8 255++(List.replicate 2 255++(List.replicate 2 255++List.replicate 208 255))):=by simp
theorem bad8:B8 (List.replicate 224 (255:Int)):=fun x hx=>by rw [List.eq_of_mem_replicate hx]; decide
set_option maxHeartbeats 1000000 in
theorem wchain_any{r:Rf}{left0:Int}{n b0:Nat}{s:WSt}{bw sr:Nat}{K:Wd->Prop}{X:PX}(R:MemR w.heap T m M)(hA:SndM M A)(h60:A.length<=60)(W:WkR w.heap m 5 bw sr s.S s.kn s.pn s.cn)(hb:T bw=none/\T sr=none/\bw≠sr)(ok:WOk A s b0)(h0:0<=left0)(hn:left0 < n)(hl:left0<=1000000)
  (k0:∀ s' w',chainD A n s r left0 = .ok s'->WkR w'.heap m 5 bw sr s'.S s'.kn s'.pn s'.cn->Ext (fun q=>q=bw∨q=sr) w w'->K w')
  (kx:∀ e r' b w',chainD A n s r left0 = .bad e r'->w'.heap[b]? = some (erC e r')->w.heap.size<=b->Ext (fun q=>q=bw∨q=sr) w w'->X (erV b) w'):C_sound_walk_chain (some ⟨bw,0,none⟩) r.p r.c r.g left0 w K X:=by
 apply S_sound_walk_chain
 refine NewW.mk fun b w1 n1=>?_
 have e1:=n1.at_; have z1:=n1.size
 have lt:=W.lt
 generalize hres:chainD A n s r left0=res at k0 kx
 refine ⟨fun q left w'=>∃ (s2:WSt) (r2:Rf),chainD A q s2 r2 left=res/\0<=left/\left < q/\left<=1000000/\WOk A s2 b0/\w'.heap[b]? = some (.cells [.int .u32 r2.p, .int .u64 r2.c, .int .u16 r2.g].toArray 36 (0,0))/\WkR w'.heap m 5 bw sr s2.S s2.kn s2.pn s2.cn/\Ext (fun q=>q=bw∨q=sr) w w',
  ⟨n,s,r,hres,h0,hn,hl,ok,n1.get,W.no n1.ext,n1.ext.of_no⟩,?_⟩
 rintro _ m0 left w2 ⟨s2,r2,he,hl0,hln,hlm,ok2,g2,W2,x2⟩
 obtain ⟨q,rfl⟩ : ∃ q,m0=q+1:=⟨m0 - 1,by omega⟩
 rw [chainD] at he
 have y2:=x2.size
 have bl:=blt g2
 refine ⟨_,Cell.lst g2 rfl,_,Cell.lst g2 rfl,_,Cell.lst g2 rfl,?_⟩
 rw [z_iff]
 by_cases hz:r2 = .z
 .rw [if_pos hz] at he
  rw [decide_eq_true hz]
  exact If.not (If.yes (k0 s2 w2 he.symm W2 x2))
 rw [if_neg hz] at he
 rw [decide_eq_false hz]
 refine If.not (If.no ⟨_,Cell.lst g2 rfl,_,Cell.lst g2 rfl,_,Cell.lst g2 rfl,?_⟩)
 have okp:=ok2.pn; have okc:=ok2.cn; have okk:=ok2.kn
 have R2:MemR w2.heap T m M:=R.ext x2 fun q hq=>by rcases hq with h | h <;> subst h; exact hb.1; exact hb.2.1
 refine wpage_any R2 hA W2 hb (by omega) (fun e b' w' hc g hs x=>kx e r2 b' w' ?_ g (by omega) (x2.trans x fun _ _ h=>h)) fun p s3 w3 hp hk hv o3 W3 x3=>?_
 .rcases hc with hc | ⟨p,hp,hne,rfl⟩
  .rw [hc] at he; exact he.symm
  .rw [hp] at he
   have hpc:p.piece=false:=by
    cases h:p.piece
    .rfl
    .exact (hne ⟨by unfold PgD.kind; rw [h]; rfl,by unfold PgD.v; rw [h]; rfl⟩).elim
   simp only [hpc,if_true] at he
   exact he.symm
 have hpc:p.piece=true:=by
  cases h:p.piece
  .unfold PgD.kind at hk; rw [h] at hk
   simp only [Bool.false_eq_true,if_false] at hk
   unfold kindOf at hk; split at hk <;> omega
  .rfl
 rw [hp] at he
 simp only [hpc,Bool.true_eq_false,if_false] at he
 have pok:=hA.2 p (comeD_ok hp).2.2.2
 obtain ⟨⟨p1,p2⟩,pn,_⟩:=pok.pc hpc
 have g3:=get_ext g2 x3 (by omega)
 have y3:=x3.size
 cases hbad:p.bad
 .have hpay:p.pay=chB (List.replicate p.size 0) p.next:=by unfold PgD.pay; rw [hbad,hpc]; rfl
  rw [hpay] at o3
  refine read_ok o3.rd (by simpa using p1) (by simpa using p2) pn fun s4 w4 o4 x4=>new_set rfl rfl (by simp [oneC]) fun b1 w6 g6 hb1 z6 x6=>?_
  have sl:s4.len=p.size:=by have:=RdB.len o4.rd; simpa using this
  have x36:=x4.no x6
  have y4:=x4.size; have y6:=x6.size
  have g36:=get_no g3 x36
  have W6:=W3.no x36
  have x06:Ext (fun q=>q=bw∨q=sr) w w6:=(x2.trans x3 fun _ _ h=>h).no x36
  rw [hbad] at he
  simp only [Bool.false_eq_true,false_or] at he
  have boom:(left < p.size∨¬ (left=p.size ↔ p.next = .z))->∀ b' w',w'.heap[b']? = some (erC 5 r2)->b'=w6.heap.size->Ext No w6 w'->X (erV b') w':=fun h b' w' g hs x=>kx 5 r2 b' w' (by rw [if_pos h] at he; exact he.symm) g (by omega) (x06.no x)
  refine Ar.i64 (by omega) ⟨fun w'=>w'=w6/\¬ (left < p.size∨¬ (left=p.size ↔ p.next = .z)),If.bne (fun h=>(h rfl).elim) fun _=>If.dec (fun h=>thr g36 rfl rfl rfl (boom (.inl (by omega)))) fun h1=>⟨_,Cell.lst g6 rfl,_,Cell.lst g6 rfl,_,Cell.lst g6 rfl,?_⟩,?_⟩
  .rw [z_iff]
   have e:((left - (s4.len:Int) == 0) == decide (p.next = .z))=decide (left=p.size ↔ p.next = .z):=by
    have e0:(left - (s4.len:Int) == 0)=decide (left=p.size):=by rw [Bool.eq_iff_iff,beq_iff_eq,decide_eq_true_eq]; omega
    rw [e0]
    by_cases h1:left=(p.size:Int) <;> by_cases h2:p.next = .z <;> simp [h1,h2]
   rw [e]
   exact If.not (If.dec (fun h=>⟨rfl,fun h'=>h'.elim (fun h'=>by omega) fun h'=>h' h⟩) fun h=>thr g36 rfl rfl rfl (boom (.inr h)))
  rintro _ w10 ⟨rfl,hgood⟩
  rw [if_neg hgood] at he
  refine Nn.mk ⟨_,Cell.lst W6.at_ rfl,Ar.i64 (by omega) (Nn.mk (St1.mk W6.at_ (by show 5 < 9; decide) rfl fun w11 h11=>?_))⟩
  have x11:Ext (·=bw) w10 w11:=h11.ext
  have g11:=get_ext g6 x11 (by omega)
  have g311:=get_ext g36 x11 (by omega)
  refine ⟨_,Cell.lst g11 rfl,_,Cell.lst g11 rfl,_,Cell.lst g11 rfl,st_all g311 rfl rfl (by simp [oneC]) fun w12 g12 x12 _=>?_⟩
  have x12':Ext (·=b) w11 w12:=x12
  have W11:WkR w11.heap m 5 bw sr (s2.S++[r2]) s2.kn (s2.pn+1) (s2.cn+1):=⟨h11.get W6.at_,W6.map.ext x11 fun h=>hb.2.2 h.symm⟩
  have W12:=W11.ext x12' (by omega) (by omega)
  have hnl:¬ left < (p.size:Int):=fun h=>hgood (.inl h)
  rw [sl]
  exact ⟨q,by omega,⟨s2.S++[r2],s2.kn,s2.pn+1,s2.cn+1⟩,p.next,he,by omega,by omega,by omega,ok2.piece hp,g12,W12,(x06.trans x11 fun q _ h => .inl h).trans x12' fun q hq h=>by omega⟩
 .have hpay:p.pay=List.replicate 224 255:=by unfold PgD.pay; rw [hbad]; rfl
  rw [hpay,bad224] at o3
  rw [hbad] at he
  simp only [true_or,if_true] at he
  refine read_bad o3.rd (by rw [<- bad224]; exact bad8) (by simp) (by simp) (by simp) (by simp) (by simp) (by decide) fun w4 x4=>new_set rfl rfl (by simp [oneC]) fun b1 w6 g6 hb1 z6 x6=>?_
  have x36:=x4.no x6
  have y4:=x4.size; have y6:=x6.size
  have g36:=get_no g3 x36
  have x06:Ext (fun q=>q=bw∨q=sr) w w6:=(x2.trans x3 fun _ _ h=>h).no x36
  exact Ar.i64 (by simp only []; omega) ⟨fun _=>False,If.bne (fun _=>thr g36 rfl rfl rfl fun b' w' g hs x=>kx 5 r2 b' w' he.symm g (by omega) (x06.no x)) fun h=>absurd h (by decide),fun _ _ h=>h.elim⟩
theorem whas_any{b0 b1 key:Sl}{lo hi kb:List Int}{K:Bool->Wd->Prop}(h0:RdB w.heap b0 lo)(l8:B8 lo)(h1:RdB w.heap b1 hi)(i8:B8 hi)(hk:RdB w.heap key kb)(k8:B8 kb)
  (k:∀ w',Ext No w w'->K (decide (InB lo hi kb)) w'):C_sound_bounds_has b0 b1 key w K:=by
 apply S_sound_bounds_has
 refine NewW.mk fun b w1 n1=>⟨_,Cell.lst n1.get rfl,compare_spec (Rd.no hk n1.ext) (Rd.no h0 n1.ext) k8 l8 (If.dec (fun hg=>⟨_,Cell.lst n1.get rfl,If.beq (fun hz=>?_) fun hz=>?_⟩) fun hg=>?_)⟩
 .have:=k w1 n1.ext
  rwa [decide_eq_true (p:=InB lo hi kb) ⟨cmpB_ge.1 hg, .inl (by have h:=RdB.len h1; exact List.length_eq_zero_iff.1 (by omega))⟩] at this
 .have hne:hi≠[]:=fun e=>hz (by have:=RdB.len h1; rw [e] at this; simpa using this)
  refine ⟨_,Cell.lst n1.get rfl,compare_spec (Rd.no hk n1.ext) (Rd.no h1 n1.ext) k8 i8 ?_⟩
  have:=k w1 n1.ext
  have e:decide (InB lo hi kb)=decide (cmpB kb hi < 0):=by
   rw [decide_eq_decide]
   have hl:LtB kb hi ↔ cmpB kb hi < 0:=by
    have h3:=cmpB_ge (a:=kb) (b:=hi)
    constructor
    .intro h; exact Int.not_le.1 fun h'=>h3.1 h' h
    .intro h; exact Classical.byContradiction fun h'=>by have:=h3.2 h'; omega
   exact ⟨fun h=>hl.1 (h.2.resolve_left hne),fun h=>⟨cmpB_ge.1 hg, .inr (hl.2 h)⟩⟩
  rwa [e] at this
 .have:=k w1 n1.ext
  rwa [decide_eq_false (p:=InB lo hi kb) fun h=>hg (cmpB_ge.2 h.1)] at this
end
end Go.Proofs.YtcamoanigdfihaaGreat
namespace Go.V
open Go.Proofs.YtcamoanigdfihaaGreat
structure PgE where
 d:PgD
 nk:Int
 ns:Sl
 N:List (EntV×Ent)
 bs:Sl
def PgE.cs(x:PgE):List Value:=[.int .u32 x.d.r.p, .int .u64 x.d.r.c, .int .u16 x.d.r.g, .int .u8 x.nk, .int .u8 x.d.lev, .slice x.ns.a x.ns.len x.ns.cap, .bool x.d.piece, .slice x.bs.a x.bs.len x.bs.cap, .int .u32 x.d.next.p, .int .u64 x.d.next.c, .int .u16 x.d.next.g, .bool x.d.bad]
def PgE.z:PgE:=⟨⟨.z,0,[],false,0, .z,false⟩,0,⟨none,0,0⟩,[],⟨none,0,0⟩⟩
theorem pgCs_len(l:List PgE):∀ x∈l,(PgE.cs x).length=12:=fun _ _=>rfl
theorem PgE.one(x:PgE):∀ v∈x.cs,oneC v=true:=by
 intro v hv
 simp only [PgE.cs,List.mem_cons,List.not_mem_nil,or_false] at hv
 rcases hv with h | h | h | h | h | h | h | h | h | h | h | h <;> subst h <;> rfl
structure PgER(h:Array Obj)(base:Nat)(x:PgE):Prop where
 nd:NdR h x.ns x.N
 nb:∀ q,x.ns.blk=some q->q < base
 kb:∀ p∈x.N,p.2.key≠[]->∀ q,p.1.k.blk=some q->q < base
 vb:∀ p∈x.N,p.2.val≠[]->∀ q,p.1.v.blk=some q->q < base
 el:ents x.N=x.d.l
 sz:x.bs.len=x.d.size
 nk:x.nk=if x.d.piece then 0 else kindOf x.d.lev
theorem PgER.ext{Z:Nat->Prop}{w w':Wd}{base:Nat}{x:PgE}(r:PgER w.heap base x)(e:Ext Z w w')(hZ:∀ q,q < base->¬ Z q):PgER w'.heap base x :=
 ⟨⟨r.nd.rd.ext e fun a q ha hb=>hZ q (r.nb q (by simp [Sl.blk,ha,hb])),fun p hp=>by
  have h:=r.nd.ent p hp
  exact ⟨Rd.extE h.k e fun hn q _ hq=>hZ q (r.kb p hp (by simpa using hn) q hq),Rd.extE h.v e fun hn q _ hq=>hZ q (r.vb p hp (by simpa using hn) q hq),h.n,h.ch,h.cd,h.k8,h.v8,h.n64,h.cho,h.cdo⟩⟩,r.nb,r.kb,r.vb,r.el,r.sz,r.nk⟩
structure AllR(h:Array Obj)(base:Nat)(all:Sl)(L:List PgE):Prop where
 rd:Rd h all 12 (L.flatMap PgE.cs)
 ab:∀ q,all.blk=some q->q < base
 pg:∀ x∈L,PgER h base x
theorem AllR.ext{Z:Nat->Prop}{w w':Wd}{base:Nat}{all:Sl}{L:List PgE}(r:AllR w.heap base all L)(e:Ext Z w w')(hZ:∀ q,q < base->¬ Z q):AllR w'.heap base all L :=
 ⟨r.rd.ext e fun a q ha hb=>hZ q (r.ab q (by simp [Sl.blk,ha,hb])),r.ab,fun x hx=>(r.pg x hx).ext e hZ⟩
theorem AllR.no{w w':Wd}{base:Nat}{all:Sl}{L:List PgE}(r:AllR w.heap base all L)(e:Ext No w w'):AllR w'.heap base all L:=r.ext e fun _ _ h=>h
theorem AllR.len{h:Array Obj}{base:Nat}{all:Sl}{L:List PgE}(r:AllR h base all L):all.len=L.length:=by
 have:=r.rd.len; rw [flat_len' (pgCs_len L)] at this; omega
structure RwS(h:Array Obj)(base bw:Nat)(all:Sl)(S:List Rf)(kn pn cn:Nat)(r:Rf)(e:Int)(B:Nat->Prop)(seen:Sl):Prop where
 at_:h[bw]? = some (.cells [.slice all.a all.len all.cap, .slice seen.a seen.len seen.cap, .int .i64 kn, .int .i64 pn, .int .i64 cn, .int .u32 r.p, .int .u64 r.c, .int .u16 r.g, .int .i64 e].toArray 153 (0,0))
 own:Own h base 36 3 seen (S.flatMap refCs)
 ne:seen.blk≠some bw
 hB:∀ q,B q ↔ q=bw∨seen.blk=some q
 hb:base<=bw
theorem RwS.ext{Z:Nat->Prop}{w w':Wd}{base bw:Nat}{all:Sl}{S:List Rf}{kn pn cn:Nat}{r:Rf}{e:Int}{B:Nat->Prop}{seen:Sl}(W:RwS w.heap base bw all S kn pn cn r e B seen)(x:Ext Z w w')(hZ:∀ q,B q->¬ Z q):RwS w'.heap base bw all S kn pn cn r e B seen :=
 ⟨get_ext W.at_ x (hZ bw ((W.hB bw).2 (.inl rfl))),W.own.ext x fun q hq=>hZ q ((W.hB q).2 (.inr hq)),W.ne,W.hB,W.hb⟩
theorem RwS.no{w w':Wd}{base bw:Nat}{all:Sl}{S:List Rf}{kn pn cn:Nat}{r:Rf}{e:Int}{B:Nat->Prop}{seen:Sl}(W:RwS w.heap base bw all S kn pn cn r e B seen)(x:Ext No w w'):RwS w'.heap base bw all S kn pn cn r e B seen:=W.ext x fun _ _ h=>h
theorem RwS.lt{h:Array Obj}{base bw:Nat}{all:Sl}{S:List Rf}{kn pn cn:Nat}{r:Rf}{e:Int}{B:Nat->Prop}{seen:Sl}(W:RwS h base bw all S kn pn cn r e B seen){q:Nat}(hq:B q):base<=q/\q < h.size:=by
 rcases (W.hB q).1 hq with rfl | h1
 .exact ⟨W.hb,blt W.at_⟩
 .exact W.own.lt h1
def GrowB(B:Nat->Prop)(w:Wd)(B':Nat->Prop):Prop:=∀ q,B' q->B q∨w.heap.size<=q
def RwP(res:WRes)(h:Array Obj)(base bw:Nat)(all:Sl)(B:Nat->Prop):Prop:=match res with
 | .ok s=>∃ seen,RwS h base bw all s.S s.kn s.pn s.cn .z 0 B seen
 | .bad e r=>e≠0/\∃ S seen,RwS h base bw all S 0 0 0 r e B seen
end Go.V
namespace Go.Proofs.YtcamoanigdfihaaGreat
open Go.V
section
variable {w:Wd}
abbrev pgK{β:Sort _}(K:Int->Int->Int->Int->Int->Sl->Bool->Sl->Int->Int->Int->Bool->β)(x:PgE):β:=K x.d.r.p x.d.r.c x.d.r.g x.nk x.d.lev x.ns x.d.piece x.bs x.d.next.p x.d.next.c x.d.next.g x.d.bad
theorem pg_read{b:Nat}{x:PgE}{T:TypeId}{K:Int->Int->Int->Int->Int->Sl->Bool->Sl->Int->Int->Int->Bool->Prop}(hb:w.heap[b]? = some (.cells x.cs.toArray T (0,0)))(k:pgK K x) :
  ∃ c:Int,Cell w (Addr.mk b 0 none) (.int .u32 c)/\∃ c_1:Int,Cell w ((Addr.mk b 0 none).add 1) (.int .u64 c_1)/\∃ c_2:Int,Cell w ((Addr.mk b 0 none).add 2) (.int .u16 c_2)/\∃ c_3:Int,Cell w ((Addr.mk b 0 none).add 3) (.int .u8 c_3)/\∃ c_4:Int,Cell w ((Addr.mk b 0 none).add 4) (.int .u8 c_4) /\
   ∃ c_5:Sl,Cell w ((Addr.mk b 0 none).add 5) (.slice c_5.a c_5.len c_5.cap)/\∃ c_6:Bool,Cell w ((Addr.mk b 0 none).add 6) (.bool c_6)/\∃ c_7:Sl,Cell w ((Addr.mk b 0 none).add 7) (.slice c_7.a c_7.len c_7.cap) /\
   ∃ c_8:Int,Cell w ((Addr.mk b 0 none).add 8) (.int .u32 c_8)/\∃ c_9:Int,Cell w ((Addr.mk b 0 none).add 9) (.int .u64 c_9)/\∃ c_10:Int,Cell w ((Addr.mk b 0 none).add 10) (.int .u16 c_10)/\∃ c_11:Bool,Cell w ((Addr.mk b 0 none).add 11) (.bool c_11)/\K c c_1 c_2 c_3 c_4 c_5 c_6 c_7 c_8 c_9 c_10 c_11 :=
 ⟨_,Cell.lst hb rfl,_,Cell.lst hb rfl,_,Cell.lst hb rfl,_,Cell.lst hb rfl,_,Cell.lst hb rfl,_,Cell.lst hb rfl,_,Cell.lst hb rfl,_,Cell.lst hb rfl,_,Cell.lst hb rfl,_,Cell.lst hb rfl,_,Cell.lst hb rfl,_,Cell.lst hb rfl,k⟩
theorem pg_load{base:Nat}{all:Sl}{L:List PgE}{i:Nat}{K:Int->Int->Int->Int->Int->Sl->Bool->Sl->Int->Int->Int->Bool->Prop}(r:AllR w.heap base all L)(hi:i < L.length)(k:pgK K L[i]) :
  Ix all.a all.len (i:Int) 12 fun a=>∃ c:Int,Cell w a (.int .u32 c)/\∃ c_1:Int,Cell w (a.add 1) (.int .u64 c_1)/\∃ c_2:Int,Cell w (a.add 2) (.int .u16 c_2)/\∃ c_3:Int,Cell w (a.add 3) (.int .u8 c_3)/\∃ c_4:Int,Cell w (a.add 4) (.int .u8 c_4) /\
   ∃ c_5:Sl,Cell w (a.add 5) (.slice c_5.a c_5.len c_5.cap)/\∃ c_6:Bool,Cell w (a.add 6) (.bool c_6)/\∃ c_7:Sl,Cell w (a.add 7) (.slice c_7.a c_7.len c_7.cap) /\
   ∃ c_8:Int,Cell w (a.add 8) (.int .u32 c_8)/\∃ c_9:Int,Cell w (a.add 9) (.int .u64 c_9)/\∃ c_10:Int,Cell w (a.add 10) (.int .u16 c_10)/\∃ c_11:Bool,Cell w (a.add 11) (.bool c_11)/\K c c_1 c_2 c_3 c_4 c_5 c_6 c_7 c_8 c_9 c_10 c_11:=by
 have hl:=r.len
 refine Ix.elem r.rd (pgCs_len L) (by decide) (by omega) (by omega) fun bb o hi2 _ hc=>?_
 simp only [Int.toNat_natCast] at hi2 hc
 exact ⟨_,hc 0 _ rfl,_,hc 1 _ rfl,_,hc 2 _ rfl,_,hc 3 _ rfl,_,hc 4 _ rfl,_,hc 5 _ rfl,_,hc 6 _ rfl,_,hc 7 _ rfl,_,hc 8 _ rfl,_,hc 9 _ rfl,_,hc 10 _ rfl,_,hc 11 _ rfl,k⟩
theorem findD_at{L:List PgE}{n:Int}{i:Nat}(hi:i < L.length)(he:L[i].d.r.p=n)(hno:∀ j (h:j < L.length),j < i->L[j].d.r.p≠n):findD (L.map PgE.d) n=some L[i].d:=by
 induction L generalizing i with
 | nil=>simp at hi
 | cons x L ih =>
  unfold findD
  rw [List.map_cons,List.find?_cons]
  cases i with
  | zero =>
   have h:x.d.r.p=n:=he
   simp [h]
  | succ i =>
   have h:x.d.r.p≠n:=hno 0 (by simp) (by omega)
   simp only [h,decide_false]
   exact ih (by simpa using hi) he fun j hj hji=>hno (j+1) (by simpa using hj) (by omega)
theorem findD_no{L:List PgE}{n:Int}(hno:∀ j (h:j < L.length),L[j].d.r.p≠n):findD (L.map PgE.d) n=none:=by
 unfold findD
 rw [List.find?_eq_none]
 intro d hd
 obtain ⟨x,hx,rfl⟩:=List.mem_map.1 hd
 obtain ⟨j,hj,rfl⟩:=List.getElem_of_mem hx
 simpa using hno j hj
set_option maxHeartbeats 2000000 in
theorem rfind_spec{base bw:Nat}{all:Sl}{L:List PgE}{r:Rf}{cs:List Value}{K:Int->Int->Int->Int->Int->Sl->Bool->Sl->Int->Int->Int->Bool->Int->Wd->Prop}(hg:w.heap[bw]? = some (.cells (.slice all.a all.len all.cap::cs).toArray 153 (0,0)))(R:AllR w.heap base all L)(hn:L.length<=1000)
  (k7:∀ w',findD (L.map PgE.d) r.p=none->Ext No w w'->pgK K .z 7 w')
  (k150:∀ x w',x∈L->findD (L.map PgE.d) r.p=some x.d->x.d.r≠r->Ext No w w'->pgK K .z 150 w')
  (k0:∀ x w',x∈L->findD (L.map PgE.d) r.p=some x.d->x.d.r=r->Ext No w w'->pgK K x 0 w'):C_ref17_walk_find (some ⟨bw,0,none⟩) r.p r.c r.g w K:=by
 apply S_ref17_walk_find
 have hl:=R.len
 refine NewW.mk fun b w1 n1=>NewW.mk fun b1 w2 n2=>?_
 have e1:=n1.at_; have e2:=n2.at_; have z1:=n1.size; have z2:=n2.size
 have x02:=n1.ext.no n2.ext
 have g12:w2.heap[b1]? = some (.cells (PgE.cs .z).toArray 42 (0,0)):=n2.get
 refine ⟨fun q i w'=>∃ j:Nat,i=j/\j<=L.length/\q=L.length - j/\(∀ i (h:i < L.length),i < j->L[i].d.r.p≠r.p)/\Ext No w2 w',⟨L.length,0,rfl,by omega,by omega,fun i _ h=>by omega,Ext.refl _ _⟩,?_⟩
 rintro _ m0 i w3 ⟨j,rfl,hj,hq,hno,x3⟩
 have x03:=x02.no x3
 have g3:=get_no hg x03
 have gb3:=get_no (get_no n1.get n2.ext) x3
 have g13:=get_no g12 x3
 have R3:=R.no x03
 refine Nn.mk ⟨_,Cell.lst g3 rfl,If.dec (fun h=>?_) fun h=>?_⟩
 .have hjl:j < L.length:=by omega
  have hm:L[j]∈L:=List.getElem_mem hjl
  have el:∀{K:Addr->Prop},(∀ bb o,(∀ i v,(PgE.cs L[j])[i]? = some v->Cell w3 ⟨bb,o+i,none⟩ v)->K ⟨bb,o,none⟩)->Ix all.a all.len (j:Nat) 12 K:=fun kk =>
   Ix.elem R3.rd (pgCs_len L) (by decide) (by omega) (by omega) fun bb o hi _ hc=>by
    simp only [Int.toNat_natCast] at hi hc
    exact kk bb o fun i v hv=>hc i v hv
  refine ⟨Ext No w3,(Ext.refl _ _).drew,Nn.mk ⟨_,Held.cell (Cell.lst g3 rfl),el fun _ _ hc=>⟨_,Held.cell (hc 0 _ rfl),_,Held.cell (Cell.lst gb3 rfl),If.beq (fun he=>?_) fun he=>?_⟩⟩⟩
  .have hf:findD (L.map PgE.d) r.p=some L[j].d:=findD_at hjl he hno
   refine ⟨Ext No w3,(Ext.refl _ _).drew.drew,Nn.mk ⟨_,Held.cell (Cell.lst g3 rfl),el fun _ _ hc=>⟨_,Held.cell (hc 0 _ rfl),_,Held.cell (hc 1 _ rfl),_,Held.cell (hc 2 _ rfl),_,Held.cell (Cell.lst gb3 rfl),_,Held.cell (Cell.lst gb3 rfl),_,Held.cell (Cell.lst gb3 rfl),?_⟩⟩⟩
   have x03d:Ext No w (drewW (drewW w3)):=x03.drew.drew
   rw [refeq L[j].d.r r]
   refine If.not (If.dec (fun hr=>?_) fun hr=>?_)
   .refine Nn.mk ⟨_,Cell.lst (get_no g3 (Ext.refl No w3).drew.drew) rfl,pg_load (w:=drewW (drewW w3)) (R.no x03d) hjl ?_⟩
    refine st_all (get_no g13 (Ext.refl No w3).drew.drew) rfl rfl (PgE.one L[j]) fun w5 g5 x5 _=>pg_read (x:=L[j]) g5 ?_
    exact k0 _ w5 hm hf hr (x03d.trans x5 fun q hq h=>by omega)
   .refine st_all (get_no g13 (Ext.refl No w3).drew.drew) rfl rfl (PgE.one .z) fun w5 g5 x5 _=>pg_read (x := .z) g5 ?_
    exact k150 _ w5 hm hf hr (x03d.trans x5 fun q hq h=>by omega)
  .refine Ar.i64 (by omega) ⟨L.length - (j+1),by omega,j+1,by omega,by omega,rfl,fun i hi hij=>?_,x3.drew⟩
   rcases Nat.lt_or_ge i j with h | h
   .exact hno i hi h
   .have:i=j:=by omega
    subst this; exact he
 .refine st_all g13 rfl rfl (PgE.one .z) fun w5 g5 x5 _=>pg_read (x := .z) g5 ?_
  exact k7 w5 (findD_no fun i hi=>hno i hi (by omega)) (x03.trans x5 fun q hq h=>by omega)
theorem rwrong_spec{base bw:Nat}{all seen:Sl}{S:List Rf}{kn pn cn:Nat}{e:Int}{r:Rf}{B:Nat->Prop}{K:Wd->Prop}(W:RwS w.heap base bw all S kn pn cn .z 0 B seen)
  (k:∀ w',RwS w'.heap base bw all S 0 0 0 r e B seen->Ext (·=bw) w w'->K w'):C_ref17_walk_wrong (some ⟨bw,0,none⟩) e r.p r.c r.g w K:=by
 apply S_ref17_walk_wrong
 refine NewW.mk fun b w1 n1=>?_
 have W1:=W.no n1.ext
 have hbl:=(W.lt ((W.hB bw).2 (.inl rfl))).2
 have e1:=n1.at_
 refine Nn.mk ⟨_,Cell.lst W1.at_ rfl,If.beq (fun _=>?_) fun h=>(h rfl).elim⟩
 refine Nn.mk (St1.mk W1.at_ (by show 8 < 9; decide) rfl fun w2 h2=>?_)
 have x2:Ext (·=bw) w1 w2:=h2.ext
 have g2:=h2.get W1.at_
 have gb:=get_ext n1.get x2 (by omega)
 refine ⟨_,Cell.lst gb rfl,_,Cell.lst gb rfl,_,Cell.lst gb rfl,Nn.mk (st_part g2 rfl (by show 2+6<=9; decide) (by simp [oneC]) fun w3 g3 x3 z3=>?_)⟩
 have x03:Ext (·=bw) w w3:=(n1.ext.of_no.trans x2 fun _ _ h=>h).trans x3 fun _ _ h=>h
 exact k w3 ⟨g3,W.own.ext x03 fun q hq h=>W.ne (by rw [hq,h]),W.ne,W.hB,W.hb⟩ x03
end
section
variable {w:Wd}
theorem GrowB.refl{B:Nat->Prop}:GrowB B w B:=fun _ h => .inl h
set_option maxHeartbeats 4000000 in
theorem rcome_spec{base bw:Nat}{all seen:Sl}{L:List PgE}{s:WSt}{r:Rf}{B:Nat->Prop}{K:Int->Int->Int->Int->Int->Sl->Bool->Sl->Int->Int->Int->Bool->Bool->Wd->Prop}(W:RwS w.heap base bw all s.S s.kn s.pn s.cn .z 0 B seen)(R:AllR w.heap base all L)(hn:L.length<=1000)(hS:s.S.length<=100000)(hp:s.pn<=1000000)
  (kx:∀ e w' B',comeD (L.map PgE.d) s.S r = .bad e->e≠0->(∃ S seen',RwS w'.heap base bw all S 0 0 0 r e B' seen')->GrowB B w B'->Ext B w w'->pgK K .z false w')
  (k0:∀ x w' B' seen',x∈L->comeD (L.map PgE.d) s.S r = .ok x.d->RwS w'.heap base bw all (s.S++[r]) s.kn (s.pn+1) s.cn .z 0 B' seen'->GrowB B w B'->Ext B w w'->pgK K x true w'):C_ref17_walk_come (some ⟨bw,0,none⟩) r.p r.c r.g w K:=by
 apply S_ref17_walk_come
 have hbw:B bw:=(W.hB bw).2 (.inl rfl)
 have hbl:=W.lt hbw
 have hsl:seen.len=s.S.length:=by have:=W.own.len; rw [flat_len' (refCs_len s.S)] at this; omega
 refine NewW.mk fun b w1 n1=>NewW.mk fun b1 w2 n2=>?_
 have e1:=n1.at_; have e2:=n2.at_; have z1:=n1.size; have z2:=n2.size
 have x02:=n1.ext.no n2.ext
 have g12:w2.heap[b1]? = some (.cells (PgE.cs .z).toArray 42 (0,0)):=n2.get
 have nB:∀{q},w.heap.size<=q->¬ B q:=fun h h'=>by have:=(W.lt h').2; omega
 have nSb:¬ seen.blk=some b:=fun h=>nB (q:=b) (by omega) ((W.hB _).2 (.inr h))
 have nS:∀{q},w.heap.size<=q->¬ seen.blk=some q:=fun h h'=>nB h ((W.hB _).2 (.inr h'))
 refine ⟨fun q i w'=>∃ j:Nat,i=j/\j<=s.S.length/\q=s.S.length - j/\(∀ i (h:i < s.S.length),i < j->s.S[i]≠r)/\Ext No w2 w',⟨s.S.length,0,rfl,by omega,by omega,fun i _ h=>by omega,Ext.refl _ _⟩,?_⟩
 rintro _ m0 i w3 ⟨j,rfl,hj,hq,hno,x3⟩
 have x03:=x02.no x3
 have y3:=x03.size; have y23:=x3.size
 have W3:=W.no x03
 have R3:=R.no x03
 have gb3:=get_no (get_no n1.get n2.ext) x3
 have g13:=get_no g12 x3
 refine Nn.mk ⟨_,Cell.lst W3.at_ rfl,If.dec (fun h=>?_) fun h=>?_⟩
 .have hjl:j < s.S.length:=by omega
  refine ⟨Ext No w3,(Ext.refl _ _).drew,Nn.mk ⟨_,Held.cell (Cell.lst W3.at_ rfl),Ix.elem W3.own.rd (refCs_len s.S) (by decide) (by omega) h fun bb o hi _ hc=>?_⟩⟩
  simp only [Int.toNat_natCast] at hi hc
  refine ⟨_,Held.cell (hc 0 _ rfl),_,Held.cell (hc 1 _ rfl),_,Held.cell (hc 2 _ rfl),_,Held.cell (Cell.lst gb3 rfl),_,Held.cell (Cell.lst gb3 rfl),_,Held.cell (Cell.lst gb3 rfl),?_⟩
  rw [refeq s.S[j] r]
  have xd:Ext No w3 (drewW w3):=(Ext.refl No w3).drew
  refine If.dec (fun he=>?_) fun he=>?_
  .have gbd:=get_no gb3 xd
   refine ⟨_,Cell.lst gbd rfl,_,Cell.lst gbd rfl,_,Cell.lst gbd rfl,rwrong_spec (w:=drewW w3) (W3.no xd) fun w4 W4 x4=>?_⟩
   refine st_all (get_ext (get_no g13 xd) x4 (by omega)) rfl rfl (PgE.one .z) fun w5 g5 x5 _=>pg_read (x := .z) g5 ?_
   have x5':Ext (·=b1) w4 w5:=x5
   have hin:r∈s.S:=by rw [<- he]; exact List.getElem_mem hjl
   exact kx 8 w5 B (by unfold comeD; rw [if_pos hin]) (by decide) ⟨_,_,W4.ext x5' fun q hq h=>by have:=(W.lt hq).2; omega⟩ GrowB.refl (((x03.no xd).of_no.trans x4 fun q _ h=>by rw [h]; exact hbw).trans x5' fun q hq h=>by omega)
  .refine Ar.i64 (by omega) ⟨s.S.length - (j+1),by omega,j+1,by omega,by omega,rfl,fun i hi hij=>?_,x3.drew⟩
   rcases Nat.lt_or_ge i j with h | h
   .exact hno i hi h
   .have:i=j:=by omega
    subst this; exact he
 have hnin:r ∉ s.S:=fun hm=>by
  obtain ⟨i,hi,e⟩:=List.getElem_of_mem hm
  exact hno i hi (by omega) e
 have hnb:¬ seen.blk=some bw:=W.ne
 refine ⟨Ext (fun q=>seen.blk=some q) w3,(Ext.refl _ _).drew,Nn.mk ⟨_,Held.but (Cell.lst W3.at_ rfl) hnb,_,Held.but (Cell.lst gb3 rfl) nSb,_,Held.but (Cell.lst gb3 rfl) nSb,_,Held.but (Cell.lst gb3 rfl) nSb,NewW.mk fun b2 w6 n6=>?_⟩⟩
 have x36:Ext No w3 w6:=(Ext.refl No w3).drew.no n6.ext
 have z6:w6.heap.size=w3.heap.size+1:=n6.size
 have W6:=W3.no x36
 have e6:Own w6.heap w3.heap.size 36 3 ⟨some ⟨b2,0,none⟩,1,1⟩ (refCs r):=Own.new (n:=1) (sz:=3) (w:=drewW w3) n6 rfl (by simp [refCs,oneC])
 refine ⟨x36.of_no,app_api_Ref W6.own (by have:=(W6.lt hbw).1; have:=(W6.lt hbw).2; omega) e6.rd.src (by show (seen.len+1) * 24<=_; omega) fun s7 w7 o7 _ x7 hbl7=>⟨x36.of_no.trans x7 fun _ _ h=>h,?_⟩⟩
 have x7':Ext (fun q=>seen.blk=some q) w6 w7:=x7
 have g7:=get_ext W6.at_ x7' hnb
 refine Nn.mk (St1.mk g7 (by show 1 < 9; decide) rfl fun w8 h8=>?_)
 have x8:Ext (·=bw) w7 w8:=h8.ext
 have g8:=h8.get g7
 have y7:=x7'.size; have y8:=x8.size
 have s7b:∀ q,s7.blk=some q->seen.blk=some q∨w.heap.size<=q:=fun q hq=>by
  rcases hbl7 with hh | ⟨b',h1,h2⟩
  .rw [hh] at hq; exact .inl hq
  .rw [h1] at hq; cases hq; exact .inr (by omega)
 have s7n:s7.blk≠some bw:=fun h=>by
  rcases s7b bw h with h | h
  .exact hnb h
  .omega
 have W8:RwS w8.heap base bw all (s.S++[r]) s.kn s.pn s.cn .z 0 (fun q=>q=bw∨s7.blk=some q) s7:=⟨g8,by
  have o8:=o7.ext x8 fun q hq h=>s7n (by rw [hq,h])
  rw [List.flatMap_append]
  have e:[r].flatMap refCs=refCs r:=by simp
  rw [e]; exact o8,s7n,fun q=>Iff.rfl,W.hb⟩
 have hgr:GrowB B w (fun q=>q=bw∨s7.blk=some q):=fun q hq=>by
  rcases hq with h | h
  .exact .inl (by rw [h]; exact hbw)
  .exact (s7b q h).imp (fun h=>(W.hB q).2 (.inr h)) id
 have x08:Ext B w w8:=((x03.no x36).of_no.trans x7' fun q _ h=>(W.hB q).2 (.inr h)).trans x8 fun q _ h=>by rw [h]; exact hbw
 have hB0:∀{q},q < base->¬ B q:=fun h h'=>by have:=(W.lt h').1; omega
 have R8:=R.ext x08 fun q h=>hB0 h
 have x38:Ext B w3 w8:=(x36.of_no.trans x7' fun q _ h=>(W.hB q).2 (.inr h)).trans x8 fun q _ h=>by rw [h]; exact hbw
 have gb8:=get_ext gb3 x38 (nB (by omega))
 have g18:=get_ext g13 x38 (nB (by omega))
 have hB8:∀{q},(q=bw∨s7.blk=some q)->q≠b1/\q≠b/\q < w8.heap.size:=fun {q} hq=>by
  rcases hq with h | h
  .exact ⟨by omega,by omega,by omega⟩
  .have h9:=(W8.lt (q:=q) (.inr h)).2
   rcases hbl7 with hh | ⟨b',h1,h2⟩
   .rw [hh] at h
    have:=(W.own.lt h).2
    exact ⟨by omega,by omega,h9⟩
   .rw [h1] at h; cases h; exact ⟨by omega,by omega,h9⟩
 refine ⟨_,Cell.lst gb8 rfl,_,Cell.lst gb8 rfl,_,Cell.lst gb8 rfl,rfind_spec (r:=r) W8.at_ R8 hn (fun w9 hf x9=>?_) (fun x w9 hm hf hr x9=>?_) fun x w9 hm hf hr x9=>?_⟩
 .refine new_set (vs:=PgE.cs .z) rfl rfl (PgE.one .z) fun b3 w11 g11 hb3 z11 x11=>If.bne (fun _=>?_) fun h=>absurd h (by decide)
  have x811:=x9.no x11
  have y11:=x811.size
  have gb11:=get_no gb8 x811
  refine ⟨_,Cell.lst gb11 rfl,_,Cell.lst gb11 rfl,_,Cell.lst gb11 rfl,rwrong_spec (W8.no x811) fun w12 W12 x12=>?_⟩
  refine st_all (get_ext (get_no g18 x811) x12 (by omega)) rfl rfl (PgE.one .z) fun w13 g13' x13 _=>pg_read (x := .z) g13' ?_
  have x13':Ext (·=b1) w12 w13:=x13
  exact kx 7 w13 _ (by unfold comeD; rw [if_neg hnin,hf]) (by decide) ⟨_,_,W12.ext x13' fun q hq h=>(hB8 hq).1 h⟩ hgr (((x08.no x811).trans x12 fun q _ h=>by rw [h]; exact hbw).trans x13' fun q hq h=>by omega)
 .refine new_set (vs:=PgE.cs .z) rfl rfl (PgE.one .z) fun b3 w11 g11 hb3 z11 x11=>If.bne (fun _=>?_) fun h=>absurd h (by decide)
  have x811:=x9.no x11
  have y11:=x811.size
  have gb11:=get_no gb8 x811
  refine ⟨_,Cell.lst gb11 rfl,_,Cell.lst gb11 rfl,_,Cell.lst gb11 rfl,rwrong_spec (W8.no x811) fun w12 W12 x12=>?_⟩
  refine st_all (get_ext (get_no g18 x811) x12 (by omega)) rfl rfl (PgE.one .z) fun w13 g13' x13 _=>pg_read (x := .z) g13' ?_
  have x13':Ext (·=b1) w12 w13:=x13
  exact kx 150 w13 _ (by unfold comeD; rw [if_neg hnin,hf]; simp only []; rw [if_neg hr]) (by decide) ⟨_,_,W12.ext x13' fun q hq h=>(hB8 hq).1 h⟩ hgr (((x08.no x811).trans x12 fun q _ h=>by rw [h]; exact hbw).trans x13' fun q hq h=>by omega)
 .refine new_set (vs:=PgE.cs x) rfl rfl (PgE.one x) fun b3 w11 g11 hb3 z11 x11=>If.bne (fun h=>(h rfl).elim) fun _=>?_
  have x811:=x9.no x11
  have y9:=x9.size
  have y11:=x811.size
  have W11:=W8.no x811
  refine Nn.mk ⟨_,Cell.lst W11.at_ rfl,Ar.i64 (by omega) (Nn.mk (St1.mk W11.at_ (by show 3 < 9; decide) rfl fun w14 h14=>?_))⟩
  have x14:Ext (·=bw) w11 w14:=h14.ext
  have g14:=h14.get W11.at_
  refine pg_read (x:=x) (get_ext g11 x14 (by omega)) (st_all (get_ext (get_no g18 x811) x14 (by omega)) rfl rfl (PgE.one x) fun w15 g15 x15 _=>pg_read (x:=x) g15 ?_)
  have x15':Ext (·=b1) w14 w15:=x15
  have W14:RwS w14.heap base bw all (s.S++[r]) s.kn (s.pn+1) s.cn .z 0 (fun q=>q=bw∨s7.blk=some q) s7:=⟨g14,W11.own.ext x14 fun q hq h=>s7n (by rw [hq,h]),s7n,fun q=>Iff.rfl,W.hb⟩
  exact k0 x w15 _ s7 hm (by unfold comeD; rw [if_neg hnin,hf]; simp only []; rw [if_pos hr]) (W14.ext x15' fun q hq h=>(hB8 hq).1 h) hgr (((x08.no x811).trans x14 fun q _ h=>by rw [h]; exact hbw).trans x15' fun q hq h=>by omega)
end
section
variable {w:Wd}
set_option maxHeartbeats 4000000 in
theorem rchain_spec{base bw b0:Nat}{all seen:Sl}{L:List PgE}{s:WSt}{r:Rf}{left0:Int}{n:Nat}{B:Nat->Prop}{K:Wd->Prop}(W:RwS w.heap base bw all s.S s.kn s.pn s.cn .z 0 B seen)(R:AllR w.heap base all L)(hL:L.length<=60)(hOK:∀ x∈L,x.d.OK)(ok:WOk (L.map PgE.d) s b0)(h0:0<=left0)(hn:left0 < n)(hl:left0<=1000000)
  (k:∀ w' B',RwP (chainD (L.map PgE.d) n s r left0) w'.heap base bw all B'->GrowB B w B'->Ext B w w'->K w'):C_ref17_walk_chain (some ⟨bw,0,none⟩) r.p r.c r.g left0 w K:=by
 apply S_ref17_walk_chain
 refine NewW.mk fun b w1 n1=>?_
 have e1:=n1.at_; have z1:=n1.size
 have nB:∀{q},w.heap.size<=q->¬ B q:=fun h h'=>by have:=(W.lt h').2; omega
 generalize hres:chainD (L.map PgE.d) n s r left0=res at k
 have hlen:(L.map PgE.d).length=L.length:=by simp
 refine ⟨fun q got w'=>∃ (s2:WSt) (r2:Rf) (B2:Nat->Prop) (seen2:Sl),chainD (L.map PgE.d) q s2 r2 (left0 - got)=res/\0<=got/\0<=left0 - got/\left0 - got < q/\WOk (L.map PgE.d) s2 b0/\w'.heap[b]? = some (.cells [.int .u32 r2.p, .int .u64 r2.c, .int .u16 r2.g].toArray 36 (0,0))/\RwS w'.heap base bw all s2.S s2.kn s2.pn s2.cn .z 0 B2 seen2/\¬ B2 b/\GrowB B w B2/\Ext B w w',
  ⟨n,s,r,B,seen,by rw [Int.sub_zero]; exact hres,Int.le_refl _,by omega,by omega,ok,n1.get,W.no n1.ext,nB (by omega),GrowB.refl,n1.ext.of_no⟩,?_⟩
 rintro _ m0 got w2 ⟨s2,r2,B2,seen2,he,hg0,hl0,hln,ok2,g2,W2,hnb,gr2,x2⟩
 obtain ⟨q,rfl⟩ : ∃ q,m0=q+1:=⟨m0 - 1,by omega⟩
 rw [chainD] at he
 have y2:=x2.size
 have okp:=ok2.pn; have okk:=ok2.kn; have okc:=ok2.cn; have okn:=ok2.ln
 have R2:AllR w2.heap base all L:=R.ext x2 fun q h h'=>by have:=(W.lt h').1; omega
 have bl:=blt g2
 have tr:∀{w3:Wd},Ext B2 w2 w3->Ext B w w3:=fun x=>x2.trans x fun q hq h=>by
  rcases gr2 q h with h | h
  .exact h
  .omega
 have gtr:∀{B3:Nat->Prop},GrowB B2 w2 B3->GrowB B w B3:=fun g q hq=>by
  rcases g q hq with h | h
  .exact gr2 q h
  .exact .inr (by omega)
 refine ⟨fun w'=>w'=w2/\r2 ≠ .z,⟨_,Cell.lst g2 rfl,_,Cell.lst g2 rfl,_,Cell.lst g2 rfl,?_⟩,?_⟩
 .rw [z_iff]
  by_cases hz:r2 = .z
  .rw [if_pos hz] at he
   rw [decide_eq_true hz]
   refine If.not (If.yes (k w2 B2 ?_ gr2 x2))
   rw [<- he]; exact ⟨seen2,W2⟩
  .rw [decide_eq_false hz]
   exact If.not (If.no (Nn.mk ⟨_,Cell.lst W2.at_ rfl,If.beq (fun _=>⟨rfl,hz⟩) fun h=>(h rfl).elim⟩))
 rintro _ w3 ⟨rfl,hz⟩
 rw [if_neg hz] at he
 refine ⟨_,Cell.lst g2 rfl,_,Cell.lst g2 rfl,_,Cell.lst g2 rfl,rcome_spec W2 R2 (by omega) (by omega) (by omega) (fun e w4 B3 hc hne hS gr x4=>?_) fun x w4 B3 seen3 hm hc W3 gr x4=>?_⟩
 .refine new_set (vs:=PgE.cs .z) rfl rfl (PgE.one .z) fun b1 w6 g6 hb1 z6 x6=>If.not (If.no (k w6 B3 ?_ (gtr gr) ((tr x4).no x6)))
  rw [hc] at he
  obtain ⟨S,seen',W4⟩:=hS
  rw [<- he]; exact ⟨hne,S,seen',W4.no x6⟩
 refine new_set (vs:=PgE.cs x) rfl rfl (PgE.one x) fun b1 w6 g6 hb1 z6 x6=>If.not (If.yes ?_)
 rw [hc] at he
 simp only [] at he
 have W6:=W3.no x6
 have x36:=x4.no x6
 have y4:=x4.size; have y6:=x6.size
 have hb3:¬ B3 b:=fun h=>by
  rcases gr b h with h | h
  .exact hnb h
  .omega
 have hb13:¬ B3 b1:=fun h=>by have:=(W3.lt h).2; omega
 have gb6:=get_ext g2 x36 hnb
 have hbw3:B3 bw:=(W3.hB bw).2 (.inl rfl)
 have hOK2:=hOK x hm
 have boom:∀(c:Int),c≠0->WRes.bad c r2=res->∃ c_12:Int,Cell w6 (Addr.mk b 0 none) (.int .u32 c_12)/\∃ c_13:Int,Cell w6 ((Addr.mk b 0 none).add 1) (.int .u64 c_13)/\∃ c_14:Int,Cell w6 ((Addr.mk b 0 none).add 2) (.int .u16 c_14)/\C_ref17_walk_wrong (some (Addr.mk bw 0 none)) c c_12 c_13 c_14 w6 fun w8=>K w8:=fun c hc0 hr =>
  ⟨_,Cell.lst gb6 rfl,_,Cell.lst gb6 rfl,_,Cell.lst gb6 rfl,rwrong_spec W6 fun w8 W8 x8=>k w8 B3 (by rw [<- hr]; exact ⟨hc0,_,_,W8⟩) (gtr gr) (((tr x4).no x6).trans x8 fun q hq h=>by
   rw [h]
   rcases (gtr gr) bw hbw3 with h | h
   .exact h
   .have:=(W.lt ((W.hB bw).2 (.inl rfl))).2; omega)⟩
 refine ⟨_,Cell.lst g6 rfl,?_⟩
 cases hpc:x.d.piece
 .simp only [hpc,if_true] at he
  exact If.not (If.no (boom 150 (by decide) he))
 simp only [hpc,Bool.true_eq_false,if_false] at he
 obtain ⟨⟨p1,p2⟩,_⟩:=hOK2.pc hpc
 have hsz:=(R.pg x hm).sz
 refine If.not (If.yes ⟨_,Cell.lst g6 rfl,Ar.i64 (by omega) ⟨_,Cell.lst g6 rfl,_,Cell.lst g6 rfl,_,Cell.lst g6 rfl,?_⟩⟩)
 rw [z_iff]
 have bad5:(x.d.bad=true∨left0 - got < x.d.size∨¬ (left0 - got=x.d.size ↔ x.d.next = .z))->WRes.bad 5 r2=res:=fun h=>by rw [if_pos h] at he; exact he
 refine ⟨fun w'=>w'=w6/\¬ (x.d.bad=true∨left0 - got < x.d.size∨¬ (left0 - got=x.d.size ↔ x.d.next = .z)),⟨_,Cell.lst g6 rfl,?_⟩,?_⟩
 .by_cases hbad:x.d.bad=true
  .rw [hbad]
   exact If.yes (boom 5 (by decide) (bad5 (.inl hbad)))
  replace hbad:x.d.bad=false:=by simpa using hbad
  rw [hbad]
  refine If.no (If.dec (fun h=>boom 5 (by decide) (bad5 (.inr (.inl (by omega))))) fun h1=>?_)
  by_cases hz2:x.d.next = .z
  .rw [decide_eq_true hz2]
   refine If.yes (If.dec (fun h=>boom 5 (by decide) (bad5 (.inr (.inr fun h'=>by have:=h'.2 hz2; omega)))) fun h2=>If.not (If.yes ⟨rfl,fun h=>?_⟩))
   rcases h with h | h | h
   .cases h
   .omega
   .exact h ⟨fun _=>hz2,fun _=>by omega⟩
  .rw [decide_eq_false hz2]
   refine If.no (If.not (If.no (If.dec (fun h=>boom 5 (by decide) (bad5 (.inr (.inr fun h'=>hz2 (h'.1 (by omega)))))) fun h2=>⟨rfl,fun h=>?_⟩)))
   rcases h with h | h | h
   .cases h
   .omega
   .exact h ⟨fun h'=>by omega,fun h'=>(hz2 h').elim⟩
 rintro _ w13 ⟨rfl,hgood⟩
 rw [if_neg hgood] at he
 refine Nn.mk ⟨_,Cell.lst W6.at_ rfl,Ar.i64 (by omega) (Nn.mk (St1.mk W6.at_ (by show 4 < 9; decide) rfl fun w14 h14=>?_))⟩
 have x14:Ext (·=bw) w13 w14:=h14.ext
 have g114:=get_ext g6 x14 fun h=>hb13 (by rw [h]; exact hbw3)
 have gb14:=get_ext gb6 x14 fun h=>hb3 (by rw [h]; exact hbw3)
 have W14:RwS w14.heap base bw all (s2.S++[r2]) s2.kn (s2.pn+1) (s2.cn+1) .z 0 B3 seen3:=⟨h14.get W6.at_,W6.own.ext x14 fun q hq h=>W6.ne (by rw [hq,h]),W6.ne,W6.hB,W6.hb⟩
 refine ⟨_,Cell.lst g114 rfl,_,Cell.lst g114 rfl,_,Cell.lst g114 rfl,st_all gb14 rfl rfl (by simp [oneC]) fun w15 g15 x15 _=>?_⟩
 have x15':Ext (·=b) w14 w15:=x15
 have hbwB:B bw:=by
  rcases (gtr gr) bw hbw3 with h | h
  .exact h
  .have:=(W.lt ((W.hB bw).2 (.inl rfl))).2; omega
 have hcm:comeD (L.map PgE.d) s2.S r2 = .ok x.d:=hc
 exact ⟨q,by omega,⟨s2.S++[r2],s2.kn,s2.pn+1,s2.cn+1⟩,x.d.next,B3,seen3,by rw [hsz,show left0 - (got+(x.d.size:Int))=left0 - got - x.d.size by omega]; exact he,by omega,by have:=fun h=>hgood (.inr (.inl h)); omega,by have:=fun h=>hgood (.inr (.inl h)); omega,ok2.piece hcm,g15,W14.ext x15' fun q hq h=>hb3 (by rw [<- h]; exact hq),hb3,gtr gr,((((tr x4).no x6).trans x14 fun q _ h=>by rw [h]; exact hbwB).trans x15' fun q hq h=>by omega)⟩
end
theorem okD_iff{lo hi:List Int}{l:List Ent}:okD lo hi l ↔ ∀ j (h:j < l.length),l[j].key=[]∨InB lo hi l[j].key :=
 ⟨fun h j hj=>h _ (List.getElem_mem hj),fun h x hx=>by obtain ⟨j,hj,rfl⟩:=List.getElem_of_mem hx; exact h j hj⟩
section
variable {T:Nat->Option Nat} {m:MemV} {M:Mm} {A:List PgD}
set_option maxHeartbeats 4000000 in
theorem wnode_any{bw sr:Nat}(hA:SndM M A)(h60:A.length<=60)(hb:T bw=none/\T sr=none/\bw≠sr):∀(lev:Nat){w:Wd}{r:Rf}{lo hi:List Int}{b0 b1:Sl}{s:WSt}{bb:Nat}{K:Wd->Prop}{X:PX},MemR w.heap T m M->lev<=255->WkR w.heap m 5 bw sr s.S s.kn s.pn s.cn->WOk A s bb ->
  RdB w.heap b0 lo->B8 lo->(lo≠[]->∀ q,b0.blk=some q->q≠bw/\q≠sr)->RdB w.heap b1 hi->B8 hi->(hi≠[]->∀ q,b1.blk=some q->q≠bw/\q≠sr) ->
  (∀ s' w',nodeD A lev s r lo hi = .ok s'->WkR w'.heap m 5 bw sr s'.S s'.kn s'.pn s'.cn->Ext (fun q=>q=bw∨q=sr) w w'->K w') ->
  (∀ e r' b w',nodeD A lev s r lo hi = .bad e r'->w'.heap[b]? = some (erC e r')->w.heap.size<=b->Ext (fun q=>q=bw∨q=sr) w w'->X (erV b) w')->C_sound_walk_node (some ⟨bw,0,none⟩) r.p r.c r.g lev b0 b1 w K X:=by
 intro lev
 induction lev using Nat.strongRecOn with
 | _ lev ih =>
 intro w r lo hi b0 b1 s bb K X R hlev W ok hlo l8 hlq hhi i8 hhq k0 kx
 apply S_sound_walk_node
 refine NewW.mk fun b w1 n1=>NewW.mk fun b1' w2 n2=>?_
 have e1:=n1.at_; have e2:=n2.at_; have z1:=n1.size; have z2:=n2.size
 have x02:=n1.ext.no n2.ext
 have g12:=get_no n1.get n2.ext
 have lt:=W.lt
 generalize hres:nodeD A lev s r lo hi=res at k0 kx
 rw [nodeD_eq] at hres
 unfold headD at hres
 have okp:=ok.pn; have okk:=ok.kn; have okc:=ok.cn
 refine ⟨fun kind least w'=>kind=kindOf lev/\least=(if lev=0 then 1 else 2:Nat)/\w'=w2,⟨_,Cell.lst g12 rfl,If.dec (fun h=>⟨by unfold kindOf; rw [if_neg (by omega)],by rw [if_neg (by omega)]; rfl,rfl⟩) fun h=>⟨by unfold kindOf; rw [if_pos (by omega)],by rw [if_pos (by omega)]; rfl,rfl⟩⟩,?_⟩
 rintro _ kind least w3 ⟨rfl,rfl,rfl⟩
 refine ⟨_,Cell.lst g12 rfl,_,Cell.lst g12 rfl,_,Cell.lst g12 rfl,_,Cell.lst g12 rfl,?_⟩
 refine wpage_any (R.no x02) hA (W.no x02) hb (by omega) (fun e b' w' hc g hs x=>kx e r b' w' ?_ g (by omega) (x02.of_no.trans x fun _ _ h=>h)) fun p s3 w4 hp hk hv o4 W4 x4=>?_
 .rcases hc with hc | ⟨p,hp,hne,rfl⟩
  .rw [hc] at hres; exact hres.symm
  .rw [hp] at hres
   simp only [] at hres
   rw [if_pos] at hres
   .exact hres.symm
   .refine Classical.byContradiction fun hcn=>hne ?_
    simp only [not_or,Bool.not_eq_true,Classical.not_not] at hcn
    unfold PgD.kind PgD.v
    rw [hcn.1,hcn.2]
    exact ⟨rfl,rfl⟩
 have hpc:p.piece=false:=by
  cases h:p.piece
  .rfl
  .unfold PgD.kind at hk; rw [h] at hk
   simp only [if_true] at hk
   unfold kindOf at hk; split at hk <;> omega
 have hlv:p.lev=lev:=by unfold PgD.v at hv; rw [hpc] at hv; exact hv
 rw [hp] at hres
 simp only [] at hres
 rw [if_neg (by simp [hpc,hlv])] at hres
 have pok:=(hA.2 p (comeD_ok hp).2.2.2).nd hpc
 rw [hlv] at pok
 obtain ⟨hright,hshort,hents⟩:=pok
 have okn:=ok.come hA.2 hp hpc
 have y4:=x4.size
 have g14:=get_ext g12 x4 (by omega)
 have x04:Ext (fun q=>q=bw∨q=sr) w w4:=x02.of_no.trans x4 fun _ _ h=>h
 by_cases hbad:p.bad=true
 .have hpay:p.pay=255::List.replicate 223 255:=by unfold PgD.pay; rw [hbad]; rfl
  rw [hpay] at o4
  rw [if_pos (.inl hbad)] at hres
  refine decode_bad o4.rd (bad8:B8 (List.replicate 224 255)) (by simp) (by decide) fun w5 x5=>new_set rfl rfl (by simp [oneC]) fun b2 w7 g7 hb2 z7 x7=>?_
  have x57:=x5.no x7
  refine ⟨fun _=>False,⟨fun tt w'=>tt=true/\w'=w7,If.bne (fun _=>⟨rfl,rfl⟩) fun h=>absurd h (by decide),?_⟩,fun _ _ h=>h.elim⟩
  rintro _ tt w8 ⟨rfl,rfl⟩
  have y5:=x57.size
  exact If.yes (thr (get_no g14 x57) rfl rfl rfl fun b' w' g hs x=>kx 5 r b' w' hres.symm g (by omega) ((x04.no x57).no x))
 replace hbad:p.bad=false:=by simpa using hbad
 have hpay:p.pay=pad (wr (kindOf lev) lev p.l):=by unfold PgD.pay; rw [hbad,hpc,hlv]; rfl
 rw [hpay] at o4
 have p8:B8 (pad (wr (kindOf (lev:Int)) lev p.l)):=by
  have h1:=pgA_D A r.p
  rw [(comeD_ok hp).2.1,<- hA.1] at h1
  have h2:=(R.find h1).p8
  have h3:p.pg.2.pay=p.pay:=rfl
  rw [h3,hpay] at h2; exact h2
 generalize hl:p.l=l at *
 refine decode_ok o4.rd hright hshort p8 (fun e he=>⟨(hents e he).1,(hents e he).2.1⟩) fun s5 N5 w5 o5 eL x5=>new_set rfl rfl (by simp [oneC]) fun b2 w7 g7 hb2 z7 x7=>?_
 have x57:=x5.no x7
 have y5:=x5.size; have y7:=x7.size
 have x47:Ext (fun q=>q=bw∨q=sr) w w7:=x04.no x57
 have g17:=get_no g14 x57
 have g27:=get_no (get_ext n2.get x4 (by omega)) x57
 have W7:=W4.no x57
 have R7:MemR w7.heap T m M:=R.ext x47 fun q hq=>by rcases hq with h | h <;> subst h; exact hb.1; exact hb.2.1
 have nd7:=(o5.no x7).nd
 have hcnt:=wr_count hshort
 have hsl:s5.len=l.length:=by have:=nd7.len; have:=ents_len eL; omega
 have q7:NdQ w7.heap (fun q=>w4.heap.size<=q) s5 N5:=(o5.no x7).q fun q h1 _=>h1
 have g1p:w7.heap[b]? = some (.cells [.int .u32 r.p, .int .u64 r.c, .int .u16 r.g, .int .u8 lev].toArray 47 (0,0)):=g17
 refine ⟨fun w'=>w'=w7/\¬ l.length < (if lev=0 then 1 else 2),⟨fun tt w'=>tt=decide (l.length < (if lev=0 then 1 else 2))/\w'=w7,If.bne (fun h=>(h rfl).elim) fun _=>⟨_,Cell.lst g7 rfl,If.bne (fun h=>(h rfl).elim) fun _=>⟨_,Cell.lst g7 rfl,_,Cell.lst g17 rfl,If.bne (fun h=>(h rfl).elim) fun _=>⟨_,Cell.lst g7 rfl,?_,rfl⟩⟩⟩,?_⟩,?_⟩
 .rw [decide_eq_decide]; omega
 .rintro _ tt w8 ⟨rfl,rfl⟩
  refine If.dec (fun h=>?_) fun h=>⟨rfl,h⟩
  rw [if_pos (.inr h)] at hres
  exact thr g1p rfl rfl rfl fun b' w' g hs x=>kx 5 r b' w' hres.symm g (by omega) (x47.no x)
 rintro _ w10 ⟨rfl,hmin⟩
 rw [if_neg (by rw [hbad]; simp only [Bool.false_eq_true,false_or]; exact hmin)] at hres
 have eN:∀{j:Nat}(hj:j < N5.length)(hjl:j < l.length),N5[j].2=l[j]:=fun {j} hj hjl=>by
  have:=congrArg (fun l=>l[j]?) eL
  simp only [List.getElem?_map,List.getElem?_eq_getElem hj,List.getElem?_eq_getElem hjl,Option.map_some,Option.some.injEq] at this
  exact this
 refine ⟨_,Cell.lst g7 rfl,?_⟩
 have hlo7:RdB w10.heap b0 lo:=Rd.extE (Rd.no hlo x02) (x4.no x57) fun hn q _ hq h=>by have:=hlq (by simpa using hn) q hq; omega
 have hhi7:RdB w10.heap b1 hi:=Rd.extE (Rd.no hhi x02) (x4.no x57) fun hn q _ hq h=>by have:=hhq (by simpa using hn) q hq; omega
 refine ⟨fun q i w'=>∃ j:Nat,i=j/\j<=l.length/\q=l.length - j/\(∀ i (h:i < l.length),i < j->l[i].key=[]∨InB lo hi l[i].key)/\Ext No w10 w',⟨l.length,0,rfl,by omega,by omega,fun i _ h=>by omega,Ext.refl _ _⟩,?_⟩
 rintro _ m0 i w11 ⟨j,rfl,hj,hq,hall,x11⟩
 refine If.dec (fun h=>?_) fun h=>?_
 .have hjl:j < l.length:=by omega
  refine ent_copy (nd7.no x11).rd (by omega) h fun b4 w13 hi4 g13 hb4 z13 x13=>?_
  simp only [Int.toNat_natCast] at hi4 g13
  have x1013:=x11.no x13
  have er:=(nd7.no x1013).get hi4
  have ej:=eN hi4 hjl
  have hkl:(N5[j].1.k.len:Int)=(l[j].key.length:Nat):=by rw [<- ej]; have:=RdB.len er.k; omega
  refine ⟨fun tt w'=>tt=!decide (l[j].key=[]∨InB lo hi l[j].key)/\Ext No w13 w',⟨_,Cell.lst g13 rfl,If.dec (fun hpos=>?_) fun hz=>⟨?_,Ext.refl _ _⟩⟩,?_⟩
  .have hne:l[j].key≠[]:=fun e=>by rw [e] at hkl; simp at hkl; omega
   refine ⟨_,Cell.lst (get_no g27 x1013) rfl,_,Cell.lst (get_no g27 x1013) rfl,_,Cell.lst g13 rfl,whas_any (Rd.no hlo7 x1013) l8 (Rd.no hhi7 x1013) i8 er.k (by rw [ej]; exact (hents _ (List.getElem_mem hjl)).2.2) fun w14 x14=>⟨?_,x14⟩⟩
   rw [ej]
   congr 1
   rw [decide_eq_decide]
   exact ⟨fun h => .inr h,fun h=>h.resolve_left hne⟩
  .have he:l[j].key=[]:=List.length_eq_zero_iff.1 (by omega)
   rw [decide_eq_true (.inl he)]; rfl
  rintro _ tt w15 ⟨rfl,x15⟩
  have x1015:=x1013.no x15
  refine If.not (If.dec (fun hk=>?_) fun hk=>?_)
  .refine Ar.i64 (by omega) ⟨l.length - (j+1),by omega,j+1,by omega,by omega,rfl,fun i hi hij=>?_,x1015⟩
   rcases Nat.lt_or_ge i j with h | h
   .exact hall i hi h
   .have:i=j:=by omega
    subst this; exact hk
  .rw [if_pos (fun h=>hk (okD_iff.1 h j hjl))] at hres
   have y15:=x1015.size
   exact thr (get_no g1p x1015) rfl rfl rfl fun b' w' g hs x=>kx 120 r b' w' hres.symm g (by omega) ((x47.no x1015).no x)
 have hokD:okD lo hi l:=okD_iff.2 fun i hi=>hall i hi (by omega)
 rw [if_neg (fun h=>h hokD)] at hres
 have hres':bodyD A lev lo hi l 0 ⟨s.S++[r],s.kn,s.pn+1,s.cn⟩=res:=hres
 have y11:=x11.size
 refine ⟨_,Cell.lst (get_no g7 x11) rfl,?_⟩
 refine ⟨fun q i w'=>∃ (j:Nat) (s2:WSt),i=j/\j<=l.length/\q=l.length - j/\bodyD A lev lo hi l j s2=res/\WOk A s2 (bb+(l.length - j))/\WkR w'.heap m 5 bw sr s2.S s2.kn s2.pn s2.cn/\Ext (fun q=>q=bw∨q=sr) w11 w',
  ⟨l.length,0,_,rfl,by omega,by omega,hres',okn,W7.no x11,Ext.refl _ _⟩,?_⟩
 rintro _ m1 i w17 ⟨j2,s2,rfl,hj2,hq2,he,ok2,W17,x17⟩
 have y17:=x17.size
 have R17:MemR w17.heap T m M:=(R7.no x11).ext x17 fun q hq=>by rcases hq with h | h <;> subst h; exact hb.1; exact hb.2.1
 have q17:NdQ w17.heap (fun q=>w4.heap.size<=q) s5 N5:=(q7.no x11).ext x17 fun q _ hq h=>by omega
 have nd17:=q17.nd
 have hlo17:RdB w17.heap b0 lo:=Rd.extE (Rd.no hlo7 x11) x17 fun hn q _ hq h=>by have:=hlq (by simpa using hn) q hq; omega
 have hhi17:RdB w17.heap b1 hi:=Rd.extE (Rd.no hhi7 x11) x17 fun hn q _ hq h=>by have:=hhq (by simpa using hn) q hq; omega
 have g117:=get_ext (get_no g17 x11) x17 (by omega)
 have g217:=get_ext (get_no g27 x11) x17 (by omega)
 have g717:=get_ext (get_no g7 x11) x17 (by omega)
 have x017:Ext (fun q=>q=bw∨q=sr) w w17:=(x47.no x11).trans x17 fun _ _ h=>h
 have ok2p:=ok2.pn; have ok2k:=ok2.kn; have ok2c:=ok2.cn
 refine If.dec (fun h2=>?_) fun h2=>?_
 .have hjl:j2 < l.length:=by omega
  refine ent_copy nd17.rd (by omega) h2 fun b6 w19 hi6 g19 hb6 z19 x19=>⟨_,Cell.lst (get_no g117 x19) rfl,?_⟩
  simp only [Int.toNat_natCast] at hi6 g19
  have er:=(nd17.no x19).get hi6
  have ej:=eN hi6 hjl
  have W19:=W17.no x19
  have R19:=R17.no x19
  refine If.beq (fun hz=>?_) fun hz=>?_
  .have h0:lev=0:=by omega
   rw [h0,bodyD_leaf hjl] at he
   have hent:=hright.ent j2 hjl
   rw [show kindOf (lev:Int)=1 by rw [h0]; rfl] at hent
   have hn:0<=l[j2].n/\l[j2].n<=1024:=by
    obtain ⟨_,h3⟩:=hent
    rw [if_neg (by decide)] at h3
    obtain ⟨_,h3⟩:=h3
    by_cases hn0:l[j2].n=0
    .omega
    .rw [if_neg hn0] at h3; omega
   refine Nn.mk ⟨_,Cell.lst W19.at_ rfl,Ar.i64 (by omega) (Nn.mk (St1.mk W19.at_ (by show 3 < 9; decide) rfl fun w20 h20=>?_))⟩
   have x20:Ext (·=bw) w19 w20:=h20.ext
   have a20:w20.heap[bw]? = some (.cells [srcV m, .int .u32 5, .map (some sr), .int .i64 ((s2.kn:Int)+1), .int .i64 s2.pn, .int .i64 s2.cn, .int .u32 0, .int .u64 0, .int .u16 0].toArray 147 (0,0)):=h20.get W19.at_
   refine Nn.mk ⟨_,Cell.lst a20 rfl,Ar.i64 (by omega) (Nn.mk (St1.mk a20 (by show 5 < 9; decide) rfl fun w21 h21=>?_))⟩
   have x21:Ext (·=bw) w20 w21:=h21.ext
   have x1921:=x20.trans x21 fun _ _ h=>h
   have W21:WkR w21.heap m 5 bw sr s2.S (s2.kn+1) s2.pn (s2.cn+1):=⟨h21.get a20,W19.map.ext x1921 fun h=>hb.2.2 h.symm⟩
   have g21:=get_ext g19 x1921 (by omega)
   refine ⟨_,Cell.lst g21 rfl,_,Cell.lst g21 rfl,_,Cell.lst g21 rfl,_,Cell.lst g21 rfl,?_⟩
   rw [er.ch,show N5[j2].1.n=N5[j2].2.n from er.n,ej]
   have R21:MemR w21.heap T m M:=R19.ext x1921 fun q hq=>by rw [hq]; exact hb.1
   have x1721:Ext (fun q=>q=bw∨q=sr) w17 w21:=x19.of_no.trans x1921 fun q _ h => .inl h
   have y21:=x1721.size
   have okl:WOk A ⟨s2.S,s2.kn+1,s2.pn,s2.cn+1⟩ (bb+(l.length - (j2+1))):=⟨ok2p,by show s2.kn+1+(bb+(l.length - (j2+1)))+300 * leftD A s2.S<=_; omega,by show s2.cn+1<=s2.kn+1+s2.pn; omega,ok2.ln⟩
   refine wchain_any (s:=⟨s2.S,s2.kn+1,s2.pn,s2.cn+1⟩) (n:=l[j2].n.toNat+1) (b0:=bb+(l.length - (j2+1))) R21 hA h60 W21 hb okl hn.1 (by omega) (by omega) (fun s' w22 hs W22 x22=>?_) fun e r' b' w22 hs g hb' x22=>?_
   .have hle:leafD A s2 l[j2] = .ok s':=hs
    rw [hle] at he
    exact Ar.i64 (by omega) ⟨l.length - (j2+1),by omega,j2+1,s',by omega,by omega,rfl,by rw [h0]; exact he,chainD_ok okl hs,W22,(x17.trans x1721 fun _ _ h=>h).trans x22 fun _ _ h=>h⟩
   .have hle:leafD A s2 l[j2] = .bad e r':=hs
    rw [hle] at he
    exact kx e r' b' w22 he.symm g (by omega) ((x017.trans x1721 fun _ _ h=>h).trans x22 fun _ _ h=>h)
  .obtain ⟨lv,hlv2⟩ : ∃ lv,lev=lv+1:=⟨lev - 1,by omega⟩
   rw [hlv2,bodyD_inner hjl] at he
   refine ⟨_,Cell.lst (get_no g217 x19) rfl,_,Cell.lst (get_no g217 x19) rfl,new_set rfl rfl (by simp [oneC]) fun b7 w24 g24 hb7 z24 x24=>?_⟩
   have x1724:=x19.no x24
   have y24:=x1724.size; have y19:=x19.size
   have q24:=q17.no x1724
   have g1924:=get_no g19 x24
   have hb67:b6≠b7:=by have:=blt g19; omega
   have kfact:∀{j3:Nat}(hj3:j3 < N5.length)(q:Nat),N5[j3].1.k.blk=some q->q≠bw/\q≠sr/\q≠b7:=fun {j3} hj3 q hq=>by
    have h1:=q17.kb _ (List.getElem_mem hj3) q (.inl hq)
    have h2:=h1.1; have h3:=h1.2.1
    exact ⟨by omega,by omega,by omega⟩
   have e24:=q24.nd
   refine ⟨fun w'=>∃ (low:Sl) (lo2:List Int),w'.heap[b7]? = some (.cells [.slice low.a low.len low.cap, .slice b1.a b1.len b1.cap].toArray 150 (0,0))/\RdB w24.heap low lo2/\B8 lo2/\(lo2≠[]->∀ q,low.blk=some q->q≠bw/\q≠sr/\q≠b7)/\lo2=(if j2=0 then lo else keyAt l j2)/\Ext (·=b7) w24 w',
    If.dec (fun hp2=>⟨_,Cell.lst g1924 rfl,St1.mk g24 (by show 0 < 2; decide) rfl fun w25 h25=>⟨N5[j2].1.k,N5[j2].2.key,h25.get g24,(e24.get hi6).k,by rw [ej]; exact (hents _ (List.getElem_mem hjl)).2.2,fun _=>kfact hi6,by rw [ej,if_neg (by omega),keyAt_get hjl],h25.ext⟩⟩) fun hp2=>⟨b0,lo,g24,Rd.no hlo17 x1724,l8,fun hn q hq=>⟨(hlq hn q hq).1,(hlq hn q hq).2,by have:=Rd.lt hlo (by simpa using hn) hq; omega⟩,by rw [if_pos (by omega)],Ext.refl _ _⟩,?_⟩
   rintro _ w26 ⟨low,lo2,g26,hl1,hl2,hl3,hl4,x26⟩
   have g726:=get_ext (get_no g717 x1724) x26 (by have:=blt g7; omega)
   have q26:NdQ w26.heap (fun q=>w4.heap.size<=q) s5 N5:=by
    have h1:NdQ w24.heap (fun q=>w4.heap.size<=q/\q < w17.heap.size) s5 N5:=((q17.mono (B':=fun q=>w4.heap.size<=q/\q < w17.heap.size) fun q h1 h2=>⟨h2,h1⟩)).no x1724
    exact (h1.ext x26 fun q _ hq h=>by omega).mono fun q _ h=>h.1
   have nd26:=q26.nd
   refine ⟨fun w'=>∃ (high:Sl) (hi2:List Int),w'.heap[b7]? = some (.cells [.slice low.a low.len low.cap, .slice high.a high.len high.cap].toArray 150 (0,0))/\RdB w24.heap high hi2/\B8 hi2/\(hi2≠[]->∀ q,high.blk=some q->q≠bw/\q≠sr/\q≠b7)/\hi2=(if j2+1 < l.length then keyAt l (j2+1) else hi)/\Ext (·=b7) w24 w',
    Ar.i64 (by omega) ⟨_,Cell.lst g726 rfl,If.dec (fun h3=>⟨_,Cell.lst g726 rfl,Ar.i64 (by omega) (Ix.elem nd26.rd (entCs_len _) (by decide) (by omega) (by omega) fun bb o hi7 _ hc=>?_)⟩) fun h3=>⟨b1,hi,g26,Rd.no hhi17 x1724,i8,fun hn q hq=>⟨(hhq hn q hq).1,(hhq hn q hq).2,by have:=Rd.lt hhi (by simpa using hn) hq; omega⟩,by rw [if_neg (by omega)],x26⟩⟩,?_⟩
   .have et:((j2:Int)+1).toNat=j2+1:=by omega
    simp only [et] at hi7 hc
    have hj3:j2+1 < l.length:=by omega
    have ej3:=eN hi7 hj3
    exact ⟨_,hc 0 _ rfl,St1.mk g26 (by show 1 < 2; decide) rfl fun w27 h27=>⟨N5[j2+1].1.k,N5[j2+1].2.key,h27.get g26,(e24.get hi7).k,by rw [ej3]; exact (hents _ (List.getElem_mem hj3)).2.2,fun _=>kfact hi7,by rw [ej3,if_pos hj3,keyAt_get hj3],x26.trans h27.ext fun _ _ h=>h⟩⟩
   rintro _ w28 ⟨high,hi2,g28,hh1,hh2,hh3,hh4,x28⟩
   have g628:=get_ext g1924 x28 hb67
   have g128:=get_ext (get_no g117 x1724) x28 (by omega)
   refine ⟨_,Cell.lst g628 rfl,_,Cell.lst g628 rfl,_,Cell.lst g628 rfl,_,Cell.lst g128 rfl,Ar.u8 (by omega) ⟨_,Cell.lst g28 rfl,_,Cell.lst g28 rfl,?_⟩⟩
   rw [er.cd,ej,show (lev:Int) - 1=((lv:Nat):Int) by omega]
   rw [cdAt_get hjl,<- hl4,<- hh4] at he
   have x1728:Ext (·=b7) w17 w28:=x1724.of_no.trans x28 fun _ _ h=>h
   have b7n:b7≠bw/\b7≠sr:=by omega
   have y28:=x1728.size
   have x1128:Ext (fun q=>q=bw∨q=sr) w11 w28:=x17.trans x1728 fun q hq h=>by omega
   refine ih lv (by omega) (s:=s2) ((R17.no x1724).ext x28 fun q hq=>(R17.no x19).supT (by omega)) (by omega) ((W17.no x1724).ext x28 (fun h=>b7n.1 h.symm) fun h=>b7n.2 h.symm) ok2 (Rd.extE hl1 x28 fun hn q _ hq h=>(hl3 (by simpa using hn) q hq).2.2 h) hl2 (fun hn q hq=>⟨(hl3 hn q hq).1,(hl3 hn q hq).2.1⟩) (Rd.extE hh1 x28 fun hn q _ hq h=>(hh3 (by simpa using hn) q hq).2.2 h) hh2 (fun hn q hq=>⟨(hh3 hn q hq).1,(hh3 hn q hq).2.1⟩) (fun s' w29 hs W29 x29=>?_) fun e r' b' w29 hs g hb' x29=>?_
   .rw [hs] at he
    exact Ar.i64 (by omega) ⟨l.length - (j2+1),by omega,j2+1,s',by omega,by omega,rfl,by rw [hlv2]; exact he,(nodeD_ok hA.2 ok2 hs).le (by omega),W29,x1128.trans x29 fun _ _ h=>h⟩
   .rw [hs] at he
    exact kx e r' b' w29 he.symm g (by omega) (((x47.no x11).trans x1128 fun _ _ h=>h).trans x29 fun _ _ h=>h)
 .have hjl:j2=l.length:=by omega
  rw [hjl,bodyD_end] at he
  exact k0 s2 w17 he.symm W17 x017
end
theorem rdK{h:Array Obj}{base:Nat}{x:PgE}(r:PgER h base x){j:Nat}(hj:j < x.N.length)(hjl:j < x.d.l.length):RdB h x.N[j].1.k x.d.l[j].key/\B8 x.d.l[j].key/\(x.d.l[j].key≠[]->∀ q,x.N[j].1.k.blk=some q->q < base)/\x.N[j].2=x.d.l[j]:=by
 have e:x.N[j].2=x.d.l[j]:=by
  have:=congrArg (fun l=>l[j]?) r.el
  simp only [List.getElem?_map,List.getElem?_eq_getElem hj,List.getElem?_eq_getElem hjl,Option.map_some,Option.some.injEq] at this
  exact this
 have h1:=r.nd.ent _ (List.getElem_mem hj)
 refine ⟨by rw [<- e]; exact h1.k,by rw [<- e]; exact h1.k8,fun hn=>r.kb _ (List.getElem_mem hj) (by rw [e]; exact hn),e⟩
section
set_option maxHeartbeats 8000000 in
theorem rnode_spec{base bw:Nat}{all:Sl}{L:List PgE}(hL:L.length<=60)(hOK:∀ x∈L,x.d.OK):∀(lev:Nat){w:Wd}{r:Rf}{lo hi:List Int}{b0 b1:Sl}{s:WSt}{bb:Nat}{B:Nat->Prop}{seen:Sl}{K:Wd->Prop},AllR w.heap base all L->lev<=255->RwS w.heap base bw all s.S s.kn s.pn s.cn .z 0 B seen->WOk (L.map PgE.d) s bb ->
  RdB w.heap b0 lo->B8 lo->(lo≠[]->∀ q,b0.blk=some q->q < base)->RdB w.heap b1 hi->B8 hi->(hi≠[]->∀ q,b1.blk=some q->q < base) ->
  (∀ w' B',RwP (nodeD (L.map PgE.d) lev s r lo hi) w'.heap base bw all B'->GrowB B w B'->Ext B w w'->K w')->C_ref17_walk_node (some ⟨bw,0,none⟩) r.p r.c r.g lev b0 b1 w K:=by
 intro lev
 induction lev using Nat.strongRecOn with
 | _ lev ih =>
 intro w r lo hi b0 b1 s bb B seen K R hlev W ok hlo l8 hlq hhi i8 hhq k
 apply S_ref17_walk_node
 refine NewW.mk fun b w1 n1=>?_
 have e1:=n1.at_; have z1:=n1.size
 have nB:∀{q},w.heap.size<=q->¬ B q:=fun h h'=>by have:=(W.lt h').2; omega
 have hbwB:B bw:=(W.hB bw).2 (.inl rfl)
 have hbwl:=W.lt hbwB
 generalize hres:nodeD (L.map PgE.d) lev s r lo hi=res at k
 rw [nodeD_eq] at hres
 unfold headD at hres
 have okp:=ok.pn; have okk:=ok.kn; have okc:=ok.cn; have okn:=ok.ln
 have hlen:(L.map PgE.d).length=L.length:=by simp
 have lowB:∀{q},q < base->¬ B q:=fun h h'=>by have:=(W.lt h').1; omega
 refine ⟨_,Cell.lst n1.get rfl,_,Cell.lst n1.get rfl,_,Cell.lst n1.get rfl,?_⟩
 refine rcome_spec (r:=r) (W.no n1.ext) (R.no n1.ext) (by omega) (by omega) (by omega) (fun e w2 B3 hc hne hS gr x2=>?_) fun x w2 B3 seen3 hm hc W2 gr x2=>?_
 .refine new_set (vs:=PgE.cs .z) rfl rfl (PgE.one .z) fun b1' w4 g4 hb1 z4 x4=>If.not (If.no (k w4 B3 ?_ (fun q hq=>(gr q hq).imp id fun h=>by omega) ((n1.ext.of_no.trans x2 fun _ _ h=>h).no x4)))
  rw [hc] at hres
  obtain ⟨S,seen',W4⟩:=hS
  rw [<- hres]; exact ⟨hne,S,seen',W4.no x4⟩
 have gr0:GrowB B w B3:=fun q hq=>(gr q hq).imp id fun h=>by omega
 have hbw3:B3 bw:=(W2.hB bw).2 (.inl rfl)
 rw [hc] at hres
 simp only [] at hres
 refine new_set (vs:=PgE.cs x) rfl rfl (PgE.one x) fun b1' w4 g4 hb1 z4 x4=>If.not (If.yes ⟨_,Cell.lst g4 rfl,_,Cell.lst g4 rfl,_,Cell.lst g4 rfl,new_set rfl rfl (by simp [oneC]) fun b2 w6 g6 hb2 z6 x6=>?_⟩)
 have x12:=x2.size
 have x26:=x4.no x6
 have g46:=get_no g4 x6
 have x06:Ext B w w6:=(n1.ext.of_no.trans x2 fun _ _ h=>h).no x26
 have gb6:=get_no (get_ext n1.get x2 (nB (by omega))) x26
 have W6:=W2.no x26
 have R6:=R.ext x06 fun q h=>lowB h
 have hb3:¬ B3 b:=fun h=>by
  rcases gr b h with h | h
  .exact nB (q:=b) (by omega) h
  .omega
 have hb31:¬ B3 b1':=fun h=>by have:=(W2.lt h).2; omega
 have hb32:¬ B3 b2:=fun h=>by have:=(W2.lt h).2; omega
 have y06:=x06.size
 have hx:=R6.pg x hm
 have hxOK:=hOK x hm
 have boom:∀{w7:Wd}(c:Int),Ext No w6 w7->c≠0->WRes.bad c r=res->∃ c_12:Int,Cell w7 (Addr.mk b 0 none) (.int .u32 c_12)/\∃ c_13:Int,Cell w7 ((Addr.mk b 0 none).add 1) (.int .u64 c_13)/\∃ c_14:Int,Cell w7 ((Addr.mk b 0 none).add 2) (.int .u16 c_14)/\C_ref17_walk_wrong (some (Addr.mk bw 0 none)) c c_12 c_13 c_14 w7 fun w8=>K w8:=fun {w7} c x7 hc0 hr=>by
  have gb7:=get_no gb6 x7
  exact ⟨_,Cell.lst gb7 rfl,_,Cell.lst gb7 rfl,_,Cell.lst gb7 rfl,rwrong_spec (W6.no x7) fun w8 W8 x8=>k w8 B3 (by rw [<- hr]; exact ⟨hc0,_,_,W8⟩) gr0 ((x06.no x7).trans x8 fun q _ h=>by rw [h]; exact hbwB)⟩
 refine ⟨_,Cell.lst g6 rfl,fun kk w'=>kk=(if x.d.piece then 3 else x.nk)/\w'=w6,⟨_,Cell.lst g46 rfl,If.cases (fun h=>⟨by rw [h]; rfl,rfl⟩) fun h=>⟨by rw [h]; rfl,rfl⟩⟩,?_⟩
 rintro _ kk w7 ⟨rfl,rfl⟩
 have hnk:=hx.nk
 refine ⟨fun w'=>w'=w7/\x.d.piece=false/\x.d.lev=lev,?_,?_⟩
 .apply S_ref17_kind
  have hk:∀{A:Wd->Int->Prop},A w7 (kindOf lev)->If ((lev:Int) == 0) (A w7 1) (A w7 2):=fun {A} h=>by
   refine If.beq (fun hz=>?_) fun hz=>?_
   .unfold kindOf at h; rwa [if_pos hz] at h
   .unfold kindOf at h; rwa [if_neg hz] at h
  refine hk (A:=fun w8 r=>If ((if x.d.piece then 3 else x.nk) != r) _ _) ?_
  cases hpc:x.d.piece
  .rw [hpc] at hnk
   simp only [Bool.false_eq_true,if_false] at hnk ⊢
   rw [hnk]
   have done:x.d.lev≠lev->WRes.bad 150 r=res:=fun h=>by rw [if_pos (.inr h)] at hres; exact hres
   refine If.bne (fun h=>boom 150 (Ext.refl _ _) (by decide) (done fun h'=>h (by rw [h']))) fun _=>⟨_,Cell.lst g46 rfl,?_⟩
   rw [hpc]
   exact If.not (If.no ⟨_,Cell.lst g6 rfl,If.bne (fun h=>boom 150 (Ext.refl _ _) (by decide) (done h)) fun h=>⟨trivial,trivial,h⟩⟩)
  .simp only [if_true]
   refine If.bne (fun _=>boom 150 (Ext.refl _ _) (by decide) (by rw [if_pos (.inl hpc)] at hres; exact hres)) fun h=>?_
   unfold kindOf at h; split at h <;> omega
 rintro _ w11 ⟨rfl,hpc,hlv⟩
 rw [if_neg (by simp [hpc,hlv])] at hres
 obtain ⟨hright,hshort,hents⟩:=hxOK.nd hpc
 rw [hlv] at hright hshort
 have okn2:=ok.come (fun p hp=>by obtain ⟨y,hy,rfl⟩:=List.mem_map.1 hp; exact hOK y hy) hc hpc
 have hNl:x.N.length=x.d.l.length:=by have:=congrArg List.length hx.el; simpa using this
 have hns:x.ns.len=x.d.l.length:=by have:=hx.nd.len; omega
 have hcnt:=wr_count hshort
 refine ⟨fun w'=>w'=w11/\¬ (x.d.bad=true∨x.d.l.length < (if lev=0 then 1 else 2)),⟨_,Cell.lst g46 rfl,?_⟩,?_⟩
 .have bad5:(x.d.bad=true∨x.d.l.length < (if lev=0 then 1 else 2))->WRes.bad 5 r=res:=fun h=>by rw [if_pos h] at hres; exact hres
  by_cases hbad:x.d.bad=true
  .rw [hbad]
   exact If.yes (boom 5 (Ext.refl _ _) (by decide) (bad5 (.inl hbad)))
  replace hbad:x.d.bad=false:=by simpa using hbad
  rw [hbad]
  refine If.no ⟨_,Cell.lst g6 rfl,If.beq (fun hz=>boom 5 (Ext.refl _ _) (by decide) (bad5 (.inr ?_))) fun hz=>If.dec (fun hp=>⟨_,Cell.lst g6 rfl,If.dec (fun h2=>boom 5 (Ext.refl _ _) (by decide) (bad5 (.inr ?_))) fun h2=>⟨rfl,fun h=>?_⟩⟩) fun hp=>⟨rfl,fun h=>?_⟩⟩
  .split <;> omega
  .rw [if_neg (by omega)]; omega
  .rcases h with h | h
   .cases h
   .rw [if_neg (by omega)] at h; omega
  .rcases h with h | h
   .cases h
   .rw [if_pos (by omega)] at h; omega
 rintro _ w15 ⟨rfl,hmin⟩
 rw [if_neg hmin] at hres
 have hlo6:RdB w15.heap b0 lo:=Rd.extE hlo x06 fun hn q _ hq=>lowB (hlq (by simpa using hn) q hq)
 have hhi6:RdB w15.heap b1 hi:=Rd.extE hhi x06 fun hn q _ hq=>lowB (hhq (by simpa using hn) q hq)
 have hl0:=RdB.len hlo; have hl1:=RdB.len hhi
 refine ⟨fun q i w'=>∃ j:Nat,i=j/\j<=x.d.l.length/\q=x.d.l.length - j/\(∀ i (h:i < x.d.l.length),i < j->x.d.l[i].key=[]∨InB lo hi x.d.l[i].key)/\w'=w15,⟨x.d.l.length,0,rfl,by omega,by omega,fun i _ h=>by omega,rfl⟩,?_⟩
 rintro _ m0 i w16 ⟨j,rfl,hj,hq,hall,rfl⟩
 refine ⟨_,Cell.lst g6 rfl,If.dec (fun h=>?_) fun h=>?_⟩
 .have hjl:j < x.d.l.length:=by omega
  have hjN:j < x.N.length:=by omega
  obtain ⟨ek,e8,_,_⟩:=rdK hx hjN hjl
  refine ⟨_,Cell.lst g6 rfl,Ix.elem hx.nd.rd (entCs_len x.N) (by decide) (by omega) h fun bb' o hi' _ hc'=>?_⟩
  simp only [Int.toNat_natCast] at hi' hc'
  have hkl:=RdB.len ek
  have nx:(x.d.l[j].key=[]∨InB lo hi x.d.l[j].key)->∃ m1,m1 < m0/\∃ j':Nat,(j:Int)+1=j'/\j'<=x.d.l.length/\m1=x.d.l.length - j'/\(∀ i (h:i < x.d.l.length),i < j'->x.d.l[i].key=[]∨InB lo hi x.d.l[i].key)/\w16=w16:=fun hk=>⟨x.d.l.length - (j+1),by omega,j+1,by omega,by omega,rfl,fun i hi hij=>by
   rcases Nat.lt_or_ge i j with h | h
   .exact hall i hi h
   .have:i=j:=by omega
    subst this; exact hk,rfl⟩
  have bad120:¬ (x.d.l[j].key=[]∨InB lo hi x.d.l[j].key)->WRes.bad 120 r=res:=fun hk=>by
   rw [if_pos (fun h=>hk (okD_iff.1 h j hjl))] at hres; exact hres
  refine ⟨_,hc' 0 _ rfl,If.dec (fun hp=>?_) fun hp=>Ar.i64 (by omega) (nx (.inl (List.length_eq_zero_iff.1 (by omega))))⟩
  have hne:x.d.l[j].key≠[]:=fun e=>by rw [e] at hkl; simp at hkl; omega
  refine StrC.mk ek (fun bb o v hv=>cellOf hv) (StrC.mk hlo6 (fun bb o v hv=>cellOf hv) ?_)
  rw [toList_mk,toList_mk,bytesLess_lt e8 l8]
  refine If.dec (fun hlt=>boom 120 (Ext.refl _ _) (by decide) (bad120 fun h=>(h.resolve_left hne).1 hlt)) fun hlt=>If.dec (fun hp2=>?_) fun hp2=>Ar.i64 (by omega) (nx (.inr ⟨hlt, .inl (List.length_eq_zero_iff.1 (by omega))⟩))
  have hhne:hi≠[]:=fun e=>by rw [e] at hl1; simp at hl1; omega
  refine StrC.mk ek (fun bb o v hv=>cellOf hv) (StrC.mk hhi6 (fun bb o v hv=>cellOf hv) ?_)
  rw [toList_mk,toList_mk,bytesLess_lt e8 i8]
  exact If.not (If.dec (fun hlt2=>Ar.i64 (by omega) (nx (.inr ⟨hlt, .inr hlt2⟩))) fun hlt2=>boom 120 (Ext.refl _ _) (by decide) (bad120 fun h=>hlt2 ((h.resolve_left hne).2.resolve_left hhne)))
 have hokD:okD lo hi x.d.l:=okD_iff.2 fun i hi=>hall i hi (by omega)
 rw [if_neg (fun h=>h hokD)] at hres
 have hres':bodyD (L.map PgE.d) lev lo hi x.d.l 0 ⟨s.S++[r],s.kn,s.pn+1,s.cn⟩=res:=hres
 have gz:∀{B2:Nat->Prop},GrowB B3 w16 B2->GrowB B w B2:=fun g q hq=>by
  rcases g q hq with h | h
  .exact gr0 q h
  .exact .inr (by omega)
 have xz:∀{w17:Wd},Ext B3 w16 w17->Ext B w w17:=fun x'=>x06.trans x' fun q hq h=>by
  rcases gr0 q h with h | h
  .exact h
  .omega
 have zB:∀{B2:Nat->Prop}{q:Nat},GrowB B3 w16 B2->q < w16.heap.size->¬ B3 q->¬ B2 q:=fun g hq h h'=>by
  rcases g _ h' with h2 | h2
  .exact h h2
  .omega
 have lb:=blt gb6; have lb1:=blt g46; have lb2:=blt g6
 refine ⟨fun q i w'=>∃ B2:Nat->Prop,GrowB B3 w16 B2/\Ext B3 w16 w'/\((∃ (j:Nat) (s2:WSt) (seen2:Sl),i=j/\j<=x.d.l.length/\q=x.d.l.length - j/\bodyD (L.map PgE.d) lev lo hi x.d.l j s2=res/\WOk (L.map PgE.d) s2 (bb+(x.d.l.length - j))/\RwS w'.heap base bw all s2.S s2.kn s2.pn s2.cn .z 0 B2 seen2)∨∃ (e:Int) (r':Rf),res = .bad e r'/\RwP res w'.heap base bw all B2),
  ⟨x.d.l.length,B3,GrowB.refl,Ext.refl _ _, .inl ⟨0,_,seen3,rfl,by omega,by omega,hres',okn2,W6⟩⟩,?_⟩
 rintro _ m1 i w17 ⟨B2,gr2,x17,hcase⟩
 have g617:=get_ext g6 x17 hb32
 rcases hcase with hcase | ⟨e,r',hbr,hP⟩
 rotate_left
 .rw [hbr] at hP
  obtain ⟨hne,S,sn,Wb⟩:=hP
  have fin:K w17:=k w17 B2 (by rw [hbr]; exact ⟨hne,S,sn,Wb⟩) (gz gr2) (xz x17)
  exact ⟨fun _=>False,⟨_,Cell.lst g617 rfl,If.dec (fun _=>Nn.mk ⟨_,Cell.lst Wb.at_ rfl,If.beq (fun h=>(hne h).elim) fun _=>fin⟩) fun _=>fin⟩,fun _ _ h=>h.elim⟩
 obtain ⟨j2,s2,seen2,rfl,hj2,hq2,he,ok2,W17⟩:=hcase
 have ok2p:=ok2.pn; have ok2k:=ok2.kn; have ok2c:=ok2.cn; have ok2n:=ok2.ln
 have R17:=R6.ext x17 fun q hq h=>by
  have:=(W2.lt h).1; omega
 refine ⟨fun w'=>w'=w17/\j2 < x.d.l.length,⟨_,Cell.lst g617 rfl,If.dec (fun h=>Nn.mk ⟨_,Cell.lst W17.at_ rfl,If.beq (fun _=>⟨rfl,by omega⟩) fun h=>(h rfl).elim⟩) fun h=>?_⟩,?_⟩
 .have hjl:j2=x.d.l.length:=by omega
  rw [hjl,bodyD_end] at he
  exact k w17 B2 (by rw [<- he]; exact ⟨seen2,W17⟩) (gz gr2) (xz x17)
 rintro _ w20 ⟨rfl,hjl⟩
 have hx17:=R17.pg x hm
 have hjN:j2 < x.N.length:=by omega
 obtain ⟨ek,e8,eb,ej⟩:=rdK hx17 hjN hjl
 have y17:=x17.size
 have nx:∀{sB:WRes}{w':Wd}{B4:Nat->Prop},(∀ s',sB = .ok s'->bodyD (L.map PgE.d) lev lo hi x.d.l (j2+1) s'=res)->(∀ e r',sB = .bad e r'->WRes.bad e r'=res)->(∀ s',sB = .ok s'->WOk (L.map PgE.d) s' (bb+(x.d.l.length - (j2+1))))->RwP sB w'.heap base bw all B4->GrowB B3 w16 B4->Ext B3 w16 w' ->
   Ar .i64 ((j2:Int)+1) fun z=>∃ m2,m2 < m1/\∃ B2:Nat->Prop,GrowB B3 w16 B2/\Ext B3 w16 w'/\((∃ (j:Nat) (s2:WSt) (seen2:Sl),z=j/\j<=x.d.l.length/\m2=x.d.l.length - j/\bodyD (L.map PgE.d) lev lo hi x.d.l j s2=res/\WOk (L.map PgE.d) s2 (bb+(x.d.l.length - j))/\RwS w'.heap base bw all s2.S s2.kn s2.pn s2.cn .z 0 B2 seen2)∨∃ (e:Int) (r':Rf),res = .bad e r'/\RwP res w'.heap base bw all B2):=fun {sB w' B4} hs hs2 hw hP hg hx'=>by
  refine Ar.i64 (by omega) ⟨x.d.l.length - (j2+1),by omega,B4,hg,hx',?_⟩
  cases sB with
  | ok s' =>
   obtain ⟨sn,W'⟩:=hP
   exact .inl ⟨j2+1,s',sn,by omega,by omega,rfl,hs s' rfl,hw s' rfl,W'⟩
  | bad e r' =>
   have hs':WRes.bad e r'=res:=hs2 e r' rfl
   refine .inr ⟨e,r',hs'.symm,?_⟩
   rw [<- hs']; exact hP
 refine ⟨_,Cell.lst g617 rfl,ent_copy hx17.nd.rd (by omega) (by omega) fun b3 w22 hi3 g22 hb3' z22 x22=>?_⟩
 simp only [Int.toNat_natCast] at hi3 g22
 have er:=hx17.nd.get hi3
 have W22:=W17.no x22
 have y22:=x22.size
 have hbw2:B2 bw:=(W17.hB bw).2 (.inl rfl)
 have gr3w:B3 bw:=hbw3
 have h2b3:∀{q},B2 q->q < w20.heap.size:=fun h=>(W17.lt h).2
 have xz2:∀{w23:Wd},Ext B2 w20 w23->Ext B3 w16 w23:=fun x'=>x17.trans x' fun q hq h=>by
  rcases gr2 q h with h | h
  .exact h
  .omega
 have gz2:∀{B4:Nat->Prop}{w23:Wd},w20.heap.size<=w23.heap.size->GrowB B2 w23 B4->GrowB B3 w16 B4:=fun hw g q hq=>by
  rcases g q hq with h | h
  .exact gr2 q h
  .exact .inr (by omega)
 refine If.beq (fun hz=>?_) fun hz=>?_
 .have h0:lev=0:=by omega
  rw [h0,bodyD_leaf hjl] at he
  have hent:=hright.ent j2 hjl
  rw [show kindOf (lev:Int)=1 by rw [h0]; rfl] at hent
  have hn:0<=x.d.l[j2].n/\x.d.l[j2].n<=1024:=by
   obtain ⟨_,h3⟩:=hent
   rw [if_neg (by decide)] at h3
   obtain ⟨_,h3⟩:=h3
   by_cases hn0:x.d.l[j2].n=0
   .omega
   .rw [if_neg hn0] at h3; omega
  refine Nn.mk ⟨_,Cell.lst W22.at_ rfl,Ar.i64 (by omega) (Nn.mk (St1.mk W22.at_ (by show 2 < 9; decide) rfl fun w23 h23=>?_))⟩
  have x23:Ext (·=bw) w22 w23:=h23.ext
  have a23:w23.heap[bw]? = some (.cells [.slice all.a all.len all.cap, .slice seen2.a seen2.len seen2.cap, .int .i64 ((s2.kn:Int)+1), .int .i64 s2.pn, .int .i64 s2.cn, .int .u32 Rf.z.p, .int .u64 Rf.z.c, .int .u16 Rf.z.g, .int .i64 0].toArray 153 (0,0)):=h23.get W22.at_
  refine Nn.mk ⟨_,Cell.lst a23 rfl,Ar.i64 (by omega) (Nn.mk (St1.mk a23 (by show 4 < 9; decide) rfl fun w24 h24=>?_))⟩
  have x24:Ext (·=bw) w23 w24:=h24.ext
  have x2224:=x23.trans x24 fun _ _ h=>h
  have W24:RwS w24.heap base bw all s2.S (s2.kn+1) s2.pn (s2.cn+1) .z 0 B2 seen2:=⟨h24.get a23,W22.own.ext x2224 fun q hq h=>W22.ne (by rw [hq,h]),W22.ne,W22.hB,W22.hb⟩
  have g24:=get_ext g22 x2224 fun h=>by have:=h2b3 hbw2; omega
  have x2024:Ext B2 w20 w24:=x22.of_no.trans x2224 fun q _ h=>by rw [h]; exact hbw2
  have y24:=x2024.size
  have okl:WOk (L.map PgE.d) ⟨s2.S,s2.kn+1,s2.pn,s2.cn+1⟩ (bb+(x.d.l.length - (j2+1))):=⟨ok2p,by show s2.kn+1+(bb+(x.d.l.length - (j2+1)))+300 * leftD (L.map PgE.d) s2.S<=_; omega,by show s2.cn+1<=s2.kn+1+s2.pn; omega,ok2n⟩
  refine ⟨_,Cell.lst g24 rfl,_,Cell.lst g24 rfl,_,Cell.lst g24 rfl,?_⟩
  rw [z_iff,er.ch,ej]
  by_cases hcz:x.d.l[j2].ch = .z
  .rw [decide_eq_true hcz]
   have hle:leafD (L.map PgE.d) s2 x.d.l[j2] = .ok ⟨s2.S,s2.kn+1,s2.pn,s2.cn+1⟩:=by
    unfold leafD
    rw [chainD,if_pos hcz]
   exact If.not (If.yes (nx (sB:=leafD (L.map PgE.d) s2 x.d.l[j2]) (fun s' hs=>by rw [hs] at he; rw [h0]; exact he) (fun e r' hs=>by rw [hs] at he; exact he) (fun s' hs=>by rw [hle] at hs; cases hs; exact okl) (by rw [hle]; exact ⟨seen2,W24⟩) gr2 (xz2 x2024)))
  .rw [decide_eq_false hcz]
   refine If.not (If.no ⟨_,Cell.lst g24 rfl,_,Cell.lst g24 rfl,_,Cell.lst g24 rfl,_,Cell.lst g24 rfl,?_⟩)
   rw [er.ch,show x.N[j2].1.n=x.N[j2].2.n from er.n,ej]
   have R24:=R17.ext x2024 fun q hq h=>by have:=(W17.lt h).1; omega
   refine rchain_spec (s:=⟨s2.S,s2.kn+1,s2.pn,s2.cn+1⟩) (n:=x.d.l[j2].n.toNat+1) W24 R24 hL hOK okl hn.1 (by omega) (by omega) fun w25 B4 hP g4 x25=>nx (sB:=leafD (L.map PgE.d) s2 x.d.l[j2]) (fun s' hs=>by rw [hs] at he; rw [h0]; exact he) (fun e r' hs=>by rw [hs] at he; exact he) (fun s' hs=>chainD_ok okl hs) hP (gz2 y24 g4) (xz2 (x2024.trans x25 fun _ _ h=>h))
 .obtain ⟨lv,hlv2⟩ : ∃ lv,lev=lv+1:=⟨lev - 1,by omega⟩
  rw [hlv2,bodyD_inner hjl,cdAt_get hjl] at he
  have hlo22:RdB w22.heap b0 lo:=Rd.no (Rd.extE hlo6 x17 fun hn q _ hq h=>by have:=hlq (by simpa using hn) q hq; have:=(W2.lt h).1; omega) x22
  have hhi22:RdB w22.heap b1 hi:=Rd.no (Rd.extE hhi6 x17 fun hn q _ hq h=>by have:=hhq (by simpa using hn) q hq; have:=(W2.lt h).1; omega) x22
  have g622:=get_no g617 x22
  refine ⟨fun low w'=>w'=w22/\∃ lo2:List Int,RdB w22.heap low lo2/\B8 lo2/\(lo2≠[]->∀ q,low.blk=some q->q < base)/\lo2=(if j2=0 then lo else keyAt x.d.l j2),
   If.dec (fun hp2=>⟨_,Cell.lst g22 rfl,rfl,x.d.l[j2].key,Rd.no ek x22,e8,eb,by rw [if_neg (by omega),keyAt_get hjl]⟩) fun hp2=>⟨rfl,lo,hlo22,l8,hlq,by rw [if_pos (by omega)]⟩,?_⟩
  rintro _ low w26 ⟨rfl,lo2,hl1,hl2,hl3,hl4⟩
  have hx26:=(R17.no x22).pg x hm
  refine ⟨fun high w'=>w'=w26/\∃ hi2:List Int,RdB w26.heap high hi2/\B8 hi2/\(hi2≠[]->∀ q,high.blk=some q->q < base)/\hi2=(if j2+1 < x.d.l.length then keyAt x.d.l (j2+1) else hi),
   Ar.i64 (by omega) ⟨_,Cell.lst g622 rfl,If.dec (fun h3=>⟨_,Cell.lst g622 rfl,Ar.i64 (by omega) (Ix.elem hx26.nd.rd (entCs_len _) (by decide) (by omega) (by omega) fun bo o hi7 _ hc'=>?_)⟩) fun h3=>⟨rfl,hi,hhi22,i8,hhq,by rw [if_neg (by omega)]⟩⟩,?_⟩
  .have et:((j2:Int)+1).toNat=j2+1:=by omega
   simp only [et] at hi7 hc'
   have hj3:j2+1 < x.d.l.length:=by omega
   obtain ⟨fk,f8,fb,_⟩:=rdK hx26 hi7 hj3
   exact ⟨_,hc' 0 _ rfl,rfl,x.d.l[j2+1].key,fk,f8,fb,by rw [if_pos hj3,keyAt_get hj3]⟩
  rintro _ high w27 ⟨rfl,hi2,hh1,hh2,hh3,hh4⟩
  refine ⟨_,Cell.lst g22 rfl,_,Cell.lst g22 rfl,_,Cell.lst g22 rfl,Ar.u8 (by omega) ?_⟩
  rw [er.cd,ej,show (lev:Int) - 1=((lv:Nat):Int) by omega]
  rw [<- hl4,<- hh4] at he
  refine ih lv (by omega) (s:=s2) (R17.no x22) (by omega) W22 ok2 hl1 hl2 hl3 hh1 hh2 hh3 fun w28 B4 hP g4 x28=>nx (fun s' hs=>by rw [hs] at he; rw [hlv2]; exact he) (fun e r' hs=>by rw [hs] at he; exact he) (fun s' hs=>(nodeD_ok (fun p hp=>by obtain ⟨y,hy,rfl⟩:=List.mem_map.1 hp; exact hOK y hy) ok2 hs).le (by omega)) hP (gz2 y22 g4) (xz2 (x22.of_no.trans x28 fun _ _ h=>h))
end
end Go.Proofs.YtcamoanigdfihaaGreat
namespace Go.V
def seqL:Code->Code
 | .seq a _=>a
 | c=>c
def seqR:Code->Code
 | .seq _ b=>b
 | c=>c
def blkB:Code->Code
 | .block _ b=>b
 | c=>c
def cndT:Code->Code
 | .cond _ t _=>t
 | c=>c
def cndE:Code->Code
 | .cond _ _ e=>e
 | c=>c
def regOps:Code->Array Oper
 | .region _ ops _=>ops
 | _=>#[]
end Go.V
namespace Go.Proofs.YtcamoanigdfihaaGreat
open Go.V
noncomputable abbrev c65:Code:=Tryz.f65.body.getD .skip
theorem body65:Tryz.f65.body=some c65:=by kernel_rfl
theorem c65_eq:c65 = .seq (.region 0 (regOps (seqL c65)) false) (seqR c65):=by kernel_rfl
theorem size65:(regOps (seqL c65)).size=1:=by kernel_rfl
section
variable {Q:Exit->Act->List Frame->Wd->Prop} {a:Act} {cs:List Frame} {w:Wd}
theorem ops65:wpOpsS pz (regOps (seqL c65)) Q [0] a cs w=(match recoverD cs with
  | some (v,cs')=>Q .normal (a.put (some 5) v) cs' w
  | none=>Q .normal (a.put (some 5) .nilIface) cs w):=by kernel_rfl
theorem wp65 (h:match recoverD cs with
  | some (v,cs')=>(seqR c65).wpS pz Q (a.put (some 5) v) cs' w
  | none=>(seqR c65).wpS pz Q (a.put (some 5) .nilIface) cs w):c65.wpS pz Q a cs w:=by
 rw [c65_eq]
 refine wpS_seq (wpS_region ?_)
 rw [size65,show List.range 1=[0] from rfl,ops65]
 cases hr:recoverD cs with
 | none=>rw [hr] at h; exact h
 | some p=>rw [hr] at h; exact h
end
noncomputable abbrev r3:Code:=seqL (blkB (seqR c65))
noncomputable abbrev k7:Code:=seqR (blkB (seqR c65))
noncomputable abbrev r5:Code:=seqL (cndE k7)
noncomputable abbrev k9:Code:=seqR (cndE k7)
theorem rest_eq:seqR c65 = .block 0 (.seq (.region 3 (regOps r3) false) (.cond (.tmp 7) (.region 4 (regOps (cndT k7)) false) (.seq (.region 5 (regOps r5) false) (.cond (.tmp 9) (.seq (.region 6 (regOps (seqL (cndT k9))) false) (.region 7 (regOps (seqR (cndT k9))) true)) (cndE k9))))):=by kernel_rfl
abbrev a65(ra ea:Addr)(v:Value):Act:=Act.put { tmps:=#[.pointer (some ra), .pointer (some ea)]++Array.replicate 18 undef,defers:=[] } (some 5) v
section
variable {w:Wd} {ra ea:Addr}
theorem wpOps_val{P:Program}{ops:Array Oper}{Q:Exit->Act->Wd->Prop}{i:Nat}{rest:List Nat}{a:Act}{w w':Wd}{o:Oper}{v:Value}(ho:ops[i]? = some o)(hw:Region.wanted o (yielded ops a.tmps)=true)(hr:(execOp a.eval o).run P w = .ok (.value v) w')(h:wpOps P ops Q rest (a.put o.dst v) w'):wpOps P ops Q (i::rest) a w:=by
 simp only [wpOps,ho,hw,if_true]
 left
 simp only [Oper.wp,Oper.upon,hr]; exact h
theorem size3:(regOps r3).size=1:=by kernel_rfl
theorem size4:(regOps (cndT k7)).size=1:=by kernel_rfl
theorem reg3_nil{Q:Exit->Act->Wd->Prop}(h:Q .normal ((a65 ra ea .nilIface).put (some 7) (.bool true)) w):wpOps pz (regOps r3) Q [0] (a65 ra ea .nilIface) w:=by
 have e:(regOps r3)[0]? = some ((regOps r3)[0]'(by rw [size3]; decide)):=Array.getElem?_eq_getElem _
 refine wpOps_val (v := .bool true) (w':=w) e (by kernel_rfl) (by kernel_rfl) ?_
 rw [show ((regOps r3)[0]'(by rw [size3]; decide)).dst=some 7 by kernel_rfl]
 exact h
abbrev a65n(ra ea:Addr):Act:=(a65 ra ea .nilIface).put (some 7) (.bool true)
theorem reg4_nil{Q:Exit->Act->Wd->Prop}(h:Q .normal ((a65n ra ea).put (some 2) .nilIface) w):wpOps pz (regOps (cndT k7)) Q [0] (a65n ra ea) w:=by
 have e:(regOps (cndT k7))[0]? = some ((regOps (cndT k7))[0]'(by rw [size4]; decide)):=Array.getElem?_eq_getElem _
 refine wpOps_val (v := .nilIface) (w':=w) e (by kernel_rfl) (by kernel_rfl) ?_
 rw [show ((regOps (cndT k7))[0]'(by rw [size4]; decide)).dst=some 2 by kernel_rfl]
 exact h
theorem d65_ret:CallsD pz 65 #[.pointer (some ra), .pointer (some ea)] .returning w (fun e u' w'=>(∃ v,e = .returned v)/\u' = .returning/\w'=w):=by
 refine callsD_of_wpS Tryz.func65 body65 fun c₀ cs hu=>wp65 ?_
 have hr:recoverD (c₀::cs)=none:=by simp [recoverD,hu]
 rw [hr]
 have hn:Tryz.f65.ntmps - (#[.pointer (some ra), .pointer (some ea)]:Array Value).size=18:=by kernel_rfl
 rw [hn]
 rw [rest_eq]
 refine wpS_of_wp (wp_block (wp_seq (wp_region ?_)))
 rw [size3]
 refine reg3_nil (ra:=ra) (ea:=ea) (wp_cond_true (by kernel_rfl) (wp_region ?_))
 rw [size4]
 refine reg4_nil (ra:=ra) (ea:=ea) ?_
 refine ⟨rfl, .returning,by rw [<- hu], .tuple #[],?_,⟨_,rfl⟩,rfl,rfl⟩
 kernel_rfl
abbrev wrV(x:Addr):Value := .iface 141 (.pointer (some x))
abbrev A67:Ann := .seq .nil (.draw (.take 0 (.take 1 (.take 2 (.take 3 (.take 4 (.take 5 (.take 6 (.take 7 (.take 8 (.one 9 (.one 10 .fin))))))))))))
abbrev r67(ra ea x:Addr):Env:=put (put (put (put (put (argEnv [.pointer (some ra), .pointer (some ea)]) 5 (wrV x)) 7 (.bool false)) 8 (.tuple #[.pointer (some x), .bool true])) 9 (.bool true)) 10 (.pointer (some x))
def F67(ra ea x:Addr)(w:Wd)(K:Wd->Prop):Prop :=
 ∃ S:Wd->Prop,S (drewW w) /\
 Nn (some x) fun a =>
 ∃ c:Int,Held S (a.add 1) (.int .u32 c) /\
 ∃ c_1:Int,Held S ((a.add 1).add 1) (.int .u64 c_1) /\
 ∃ c_2:Int,Held S ((a.add 1).add 2) (.int .u16 c_2) /\
 Nn (some x) fun a_1 =>
 ∃ vv_1:Int,Held S a_1 (.int .i64 vv_1) /\
 List.length (α:=Value) [.int .i64 0, .int .i64 0, .int .i64 0, .int .u32 c, .int .u64 c_1, .int .u16 c_2]=6/\StN (drewW w) ra [.int .i64 0, .int .i64 0, .int .i64 0, .int .u32 c, .int .u64 c_1, .int .u16 c_2] fun w1 =>
 S w1 /\
 St1 w1 ea (.int .i64 vv_1) fun w2 =>
 S w2 /\
 K w2
theorem f67{x:Addr}{K:Wd->Prop}(h:F67 ra ea x w K):wpc pz PK NoX A67 (.seq (.region 6 (regOps (seqL (cndT k9))) false) (.region 7 (regOps (seqR (cndT k9))) true)) (fun e _ w'=>match e with | .normal=>K w' | _=>False) (r67 ra ea x) w:=by
 have e:F67 ra ea x w K=wpc pz PK NoX A67 (.seq (.region 6 (regOps (seqL (cndT k9))) false) (.region 7 (regOps (seqR (cndT k9))) true)) (fun e _ w'=>match e with | .normal=>K w' | _=>False) (r67 ra ea x) w:=by kernel_rfl
 rw [<- e]; exact h
theorem ok67:chk pz 20 A67 (.seq (.region 6 (regOps (seqL (cndT k9))) false) (.region 7 (regOps (seqR (cndT k9))) true))=true:=by kernel_rfl
theorem size5:(regOps r5).size=3:=by kernel_rfl
abbrev a7(ra ea x:Addr):Act:=(a65 ra ea (wrV x)).put (some 7) (.bool false)
abbrev a8(ra ea x:Addr):Act:=(a7 ra ea x).put (some 8) (.tuple #[.pointer (some x), .bool true])
abbrev a9(ra ea x:Addr):Act:=(a8 ra ea x).put (some 9) (.bool true)
abbrev a10(ra ea x:Addr):Act:=(a9 ra ea x).put (some 10) (.pointer (some x))
theorem reg3_wr{x:Addr}{Q:Exit->Act->Wd->Prop}(h:Q .normal (a7 ra ea x) w):wpOps pz (regOps r3) Q [0] (a65 ra ea (wrV x)) w:=by
 have e:(regOps r3)[0]? = some ((regOps r3)[0]'(by rw [size3]; decide)):=Array.getElem?_eq_getElem _
 refine wpOps_val (v := .bool false) (w':=w) e (by kernel_rfl) (by kernel_rfl) ?_
 rw [show ((regOps r3)[0]'(by rw [size3]; decide)).dst=some 7 by kernel_rfl]
 exact h
theorem reg5_wr{x:Addr}{Q:Exit->Act->Wd->Prop}(h:Q .normal (a10 ra ea x) w):wpOps pz (regOps r5) Q [0,1,2] (a7 ra ea x) w:=by
 have e0:(regOps r5)[0]? = some ((regOps r5)[0]'(by rw [size5]; decide)):=Array.getElem?_eq_getElem _
 have e1:(regOps r5)[1]? = some ((regOps r5)[1]'(by rw [size5]; decide)):=Array.getElem?_eq_getElem _
 have e2:(regOps r5)[2]? = some ((regOps r5)[2]'(by rw [size5]; decide)):=Array.getElem?_eq_getElem _
 refine wpOps_val (v := .tuple #[.pointer (some x), .bool true]) (w':=w) e0 (by kernel_rfl) (by kernel_rfl) ?_
 rw [show ((regOps r5)[0]'(by rw [size5]; decide)).dst=some 8 by kernel_rfl]
 refine wpOps_val (v := .bool true) (w':=w) e1 (by kernel_rfl) (by kernel_rfl) ?_
 rw [show ((regOps r5)[1]'(by rw [size5]; decide)).dst=some 9 by kernel_rfl]
 refine wpOps_val (v := .pointer (some x)) (w':=w) e2 (by kernel_rfl) (by kernel_rfl) ?_
 rw [show ((regOps r5)[2]'(by rw [size5]; decide)).dst=some 10 by kernel_rfl]
 exact h
theorem rep10{x:Addr}:Rep [] 20 (a10 ra ea x) (r67 ra ea x):=by
 have h0:Rep [] 20 { tmps:=#[.pointer (some ra), .pointer (some ea)]++Array.replicate 18 undef,defers:=[] } (argEnv [.pointer (some ra), .pointer (some ea)]):=args_rep (args:=[.pointer (some ra), .pointer (some ea)]) (m:=20) rfl
 exact (((((h0.put (by decide) _).put (by decide) _).put (by decide) _).put (by decide) _).put (by decide) _)
theorem d65_pan{x:Addr}{K:Wd->Prop}(h:F67 ra ea x w K):CallsD pz 65 #[.pointer (some ra), .pointer (some ea)] (.panicking [{ v:=wrV x,recovered:=false }]) w (fun e u' w'=>(∃ v,e = .returned v)/\settle u' = .returning/\K w'):=by
 refine callsD_of_wpS Tryz.func65 body65 fun c₀ cs hu=>wp65 ?_
 have hr:recoverD (c₀::cs)=some (wrV x,{ c₀ with mode := .panicking [{ v:=wrV x,recovered:=true }] }::cs):=by simp [recoverD,hu]
 rw [hr]
 have hn:Tryz.f65.ntmps - (#[.pointer (some ra), .pointer (some ea)]:Array Value).size=18:=by kernel_rfl
 rw [hn]
 rw [rest_eq]
 refine wpS_of_wp (wp_block (wp_seq (wp_region ?_)))
 rw [size3]
 refine reg3_wr (ra:=ra) (ea:=ea) (x:=x) (wp_cond_false (by kernel_rfl) (wp_seq (wp_region ?_)))
 rw [size5]
 refine reg5_wr (ra:=ra) (ea:=ea) (x:=x) (wp_cond_true (by kernel_rfl) (wp_mono (wpIn_wide.1 (wpc_sound (ro:=none) (n:=20) (D:=[]) A67 _ _ (r67 ra ea x) w (a10 ra ea x) (.inl rfl) ok67 (f67 h) rep10)) ?_))
 intro e a' w' hp
 cases e with
 | normal =>
  obtain ⟨ρ',r',q',_⟩:=hp
  exact ⟨r'.defers,_,rfl, .tuple #[],by kernel_rfl,⟨_,rfl⟩,rfl,q'⟩
 | panic c=>exact hp.1.elim
 | outgrown=>exact hp.elim
 | exit i=>obtain ⟨_,_,q,_⟩:=hp; exact q.elim
 | goto i=>obtain ⟨_,_,q,_⟩:=hp; exact q.elim
 | ret=>obtain ⟨_,_,q,_⟩:=hp; exact q.elim
noncomputable abbrev c20:Code:=Tryz.f20.body.getD .skip
theorem body20:Tryz.f20.body=some c20:=by kernel_rfl
noncomputable abbrev q3:Code:=seqL (seqR (seqR c20))
theorem c20_eq:c20 = .seq (seqL c20) (.seq (seqL (seqR c20)) (.seq (.region 3 (regOps q3) false) (seqR (seqR (seqR c20))))):=by kernel_rfl
theorem size33:(regOps q3).size=2:=by kernel_rfl
theorem mk33{a:Act}:(execOp a.eval ((regOps q3)[0]'(by rw [size33]; decide))).run pz w = .ok (.value (.func (.func 65) #[] #[a.eval (.tmp 6),a.eval (.tmp 7)])) w:=by kernel_rfl
abbrev d33(x y:Value):Deferred:={ target := .fn (.func 65) #[x,y],args:=#[] }
theorem ev12{a:Act}{v:Value}(h:12 < a.tmps.size):(a.put (some 12) v).eval (.tmp 12)=v:=by
 simp [Act.put,Act.eval,h]
theorem df33{e:Operand->Value}{x y:Value}(h:e (.tmp 12) = .func (.func 65) #[] #[x,y]):(execOp e ((regOps q3)[1]'(by rw [size33]; decide))).run pz w = .ok (.defer (d33 x y)) w:=by
 have e1:(execOp e ((regOps q3)[1]'(by rw [size33]; decide))).run pz w=(execOp (fun _=>e (.tmp 12)) ((regOps q3)[1]'(by rw [size33]; decide))).run pz w:=by kernel_rfl
 have e2:(execOp (fun _ => .func (.func 65) #[] #[x,y]) ((regOps q3)[1]'(by rw [size33]; decide))).run pz w = .ok (.defer (d33 x y)) w:=by kernel_rfl
 rw [e1,h]; exact e2
theorem wpOps_dfr{P:Program}{ops:Array Oper}{Q:Exit->Act->Wd->Prop}{i:Nat}{rest:List Nat}{a:Act}{w w':Wd}{o:Oper}{d:Deferred}(ho:ops[i]? = some o)(hw:Region.wanted o (yielded ops a.tmps)=true)(hr:(execOp a.eval o).run P w = .ok (.defer d) w')(h:wpOps P ops Q rest (Act.put { a with defers:=d::a.defers } o.dst undef) w'):wpOps P ops Q (i::rest) a w:=by
 simp only [wpOps,ho,hw,if_true]
 left
 simp only [Oper.wp,Oper.upon,hr]; exact h
theorem reg33{a:Act}{x y:Value}{Q:Exit->Act->Wd->Prop}(hs:12 < a.tmps.size)(h6:a.eval (.tmp 6)=x)(h7:a.eval (.tmp 7)=y)(h:Q .normal { (a.put (some 12) (.func (.func 65) #[] #[x,y])) with defers:=d33 x y::a.defers } w):wpOps pz (regOps q3) Q [0,1] a w:=by
 have e0:(regOps q3)[0]? = some ((regOps q3)[0]'(by rw [size33]; decide)):=Array.getElem?_eq_getElem _
 have e1:(regOps q3)[1]? = some ((regOps q3)[1]'(by rw [size33]; decide)):=Array.getElem?_eq_getElem _
 refine wpOps_val (w':=w) e0 (by kernel_rfl) mk33 ?_
 rw [h6,h7,show ((regOps q3)[0]'(by rw [size33]; decide)).dst=some 12 by kernel_rfl]
 refine wpOps_dfr (w':=w) e1 (by kernel_rfl) (df33 (ev12 hs)) ?_
 rw [show ((regOps q3)[1]'(by rw [size33]; decide)).dst=none by kernel_rfl]
 exact h
theorem leave_ret{fn:Func}{tmps:Array Value}{R:Ending->Wd->Prop}(h:∃ v,(results fn tmps).run pz w = .ok v w/\R (.returned v) w):Leaves pz fn tmps R [d33 (.pointer (some ra)) (.pointer (some ea))] .returning w:=by
 refine leaves_cons (by simp) (f:=65) (args:=#[.pointer (some ra), .pointer (some ea)]) (by kernel_rfl) (CallsD.mono d65_ret ?_)
 rintro _ _ _ ⟨⟨v,rfl⟩,rfl,rfl⟩
 exact h
theorem leave_pan{fn:Func}{tmps:Array Value}{R:Ending->Wd->Prop}{x:Addr}(h:F67 ra ea x w fun w'=>∃ v,(results fn tmps).run pz w' = .ok v w'/\R (.returned v) w'):Leaves pz fn tmps R [d33 (.pointer (some ra)) (.pointer (some ea))] (.panicking [{ v:=wrV x,recovered:=false }]) w:=by
 refine leaves_cons (by simp) (f:=65) (args:=#[.pointer (some ra), .pointer (some ea)]) (by kernel_rfl) (CallsD.mono (d65_pan h) ?_)
 rintro _ u' w' ⟨⟨v,rfl⟩,hs,hk⟩
 show Leaves pz fn tmps R [] (settle u') w'
 rw [hs]; exact hk
theorem wpOps_call{P:Program}{ops:Array Oper}{Q:Exit->Act->Wd->Prop}{i:Nat}{rest:List Nat}{a:Act}{w w':Wd}{o:Oper}{f:FuncId}{args:Array Value}(ho:ops[i]? = some o)(hw:Region.wanted o (yielded ops a.tmps)=true)(hr:(execOp a.eval o).run P w = .ok (.enter f args) w')
  (h:Calls P f args w' fun e w''=>(∃ v,e = .returned v/\wpOps P ops Q rest (a.put o.dst v) w'')∨∃ c,e = .panicked c/\Q (.panic c) a w''):wpOps P ops Q (i::rest) a w:=by
 simp only [wpOps,ho,hw,if_true]
 left
 simp only [Oper.wp,Oper.upon,hr]
 refine Calls.mono h fun e w'' h=>?_
 rcases h with ⟨v,rfl,h⟩ | ⟨c,rfl,h⟩
 .exact h
 .exact h
noncomputable abbrev rest20:Code:=seqR (seqR (seqR c20))
noncomputable abbrev k20:Code:=seqR (seqL (seqR rest20))
theorem size6:(regOps (cndT k20)).size=4:=by kernel_rfl
theorem mv6{a:Act}:(execOp a.eval ((regOps (cndT k20))[0]'(by rw [size6]; decide))).run pz w = .ok (.value (a.eval (.tmp 8))) w:=by kernel_rfl
theorem bd6{a:Act}:(execOp a.eval ((regOps (cndT k20))[2]'(by rw [size6]; decide))).run pz w = .ok (.value (.agg #[.slice none 0 0, .slice none 0 0])) w:=by kernel_rfl
theorem cl6{a:Act}:(execOp a.eval ((regOps (cndT k20))[3]'(by rw [size6]; decide))).run pz w = .ok (.enter 66 #[a.eval (.tmp 21),a.eval (.tmp 22),a.eval (.tmp 23)]) w:=by kernel_rfl
theorem ld6{a:Act}{b:Addr}{t0 t1 t2 t3:Int}(h5:a.eval (.tmp 5) = .pointer (some b))(c0:Cell w b (.int .u32 t0))(c1:Cell w (b.add 1) (.int .u64 t1))(c2:Cell w (b.add 2) (.int .u16 t2))(c3:Cell w (b.add 3) (.int .u8 t3)):(execOp a.eval ((regOps (cndT k20))[1]'(by rw [size6]; decide))).run pz w = .ok (.value (.agg #[.int .u32 t0, .int .u64 t1, .int .u16 t2, .int .u8 t3])) w:=by
 have h:loadC (Cell w) pz 47 (.pointer (some b)) (fun v=>v = .agg #[.int .u32 t0, .int .u64 t1, .int .u16 t2, .int .u8 t3]):=⟨t0,c0,t1,c1,t2,c2,t3,c3,rfl⟩
 obtain ⟨v,h1,h2⟩:=loadC_sound h
 have e1:execOp a.eval ((regOps (cndT k20))[1]'(by rw [size6]; decide))=(do let v <- Instr.loadAt 47 (a.eval (.tmp 5)); pure (.value v)):=by kernel_rfl
 rw [e1,h5,Sem.run_bind,h1 w fun _ _ h=>h,h2]; rfl
theorem ev_put{a:Act}{v:Value}{i j:Nat}(h:i < a.tmps.size):(a.put (some i) v).eval (.tmp j)=if j=i then v else a.eval (.tmp j):=by
 by_cases e:j=i
 .subst e; simp [Act.put,Act.eval,h]
 .have:i≠j:=fun h=>e h.symm
  simp [Act.put,Act.eval,e,this]
theorem sz_put{a:Act}{v:Value}{i:Nat}:(a.put (some i) v).tmps.size=a.tmps.size:=by simp [Act.put]
theorem reg6{a:Act}{b:Addr}{pw:Value}{t0 t1 t2 t3:Int}{Q:Exit->Act->Wd->Prop}(hs:a.tmps.size=29)(h8:a.eval (.tmp 8)=pw)(h5:a.eval (.tmp 5) = .pointer (some b))(c0:Cell w b (.int .u32 t0))(c1:Cell w (b.add 1) (.int .u64 t1))(c2:Cell w (b.add 2) (.int .u16 t2))(c3:Cell w (b.add 3) (.int .u8 t3))
  (h:Calls pz 66 #[pw, .agg #[.int .u32 t0, .int .u64 t1, .int .u16 t2, .int .u8 t3], .agg #[.slice none 0 0, .slice none 0 0]] w fun e w''=>(∃ v,e = .returned v/\Q .normal ((((a.put (some 21) pw).put (some 22) (.agg #[.int .u32 t0, .int .u64 t1, .int .u16 t2, .int .u8 t3])).put (some 23) (.agg #[.slice none 0 0, .slice none 0 0])).put (some 24) v) w'')∨∃ c,e = .panicked c/\Q (.panic c) (((a.put (some 21) pw).put (some 22) (.agg #[.int .u32 t0, .int .u64 t1, .int .u16 t2, .int .u8 t3])).put (some 23) (.agg #[.slice none 0 0, .slice none 0 0])) w''):wpOps pz (regOps (cndT k20)) Q [0,1,2,3] a w:=by
 have e0:(regOps (cndT k20))[0]? = some ((regOps (cndT k20))[0]'(by rw [size6]; decide)):=Array.getElem?_eq_getElem _
 have e1:(regOps (cndT k20))[1]? = some ((regOps (cndT k20))[1]'(by rw [size6]; decide)):=Array.getElem?_eq_getElem _
 have e2:(regOps (cndT k20))[2]? = some ((regOps (cndT k20))[2]'(by rw [size6]; decide)):=Array.getElem?_eq_getElem _
 have e3:(regOps (cndT k20))[3]? = some ((regOps (cndT k20))[3]'(by rw [size6]; decide)):=Array.getElem?_eq_getElem _
 refine wpOps_val (w':=w) e0 (by kernel_rfl) mv6 ?_
 rw [show ((regOps (cndT k20))[0]'(by rw [size6]; decide)).dst=some 21 by kernel_rfl,h8]
 refine wpOps_val (w':=w) e1 (by kernel_rfl) (ld6 (by rw [ev_put (by omega),if_neg (by decide)]; exact h5) c0 c1 c2 c3) ?_
 rw [show ((regOps (cndT k20))[1]'(by rw [size6]; decide)).dst=some 22 by kernel_rfl]
 refine wpOps_val (w':=w) e2 (by kernel_rfl) bd6 ?_
 rw [show ((regOps (cndT k20))[2]'(by rw [size6]; decide)).dst=some 23 by kernel_rfl]
 refine wpOps_call (w':=w) e3 (by kernel_rfl) cl6 ?_
 rw [show ((regOps (cndT k20))[3]'(by rw [size6]; decide)).dst=some 24 by kernel_rfl]
 have E:∀ t:Nat,((((a.put (some 21) pw).put (some 22) (.agg #[.int .u32 t0, .int .u64 t1, .int .u16 t2, .int .u8 t3])).put (some 23) (.agg #[.slice none 0 0, .slice none 0 0])).eval (.tmp t))=if t=23 then .agg #[.slice none 0 0, .slice none 0 0] else if t=22 then .agg #[.int .u32 t0, .int .u64 t1, .int .u16 t2, .int .u8 t3] else if t=21 then pw else a.eval (.tmp t):=fun t=>by
  rw [ev_put (by simp only [sz_put]; omega),ev_put (by simp only [sz_put]; omega),ev_put (by omega)]
 have v1:=E 21; have v2:=E 22; have v3:=E 23
 simp only [Nat.reduceEqDiff,if_true,if_false] at v1 v2 v3
 rw [v1,v2,v3]
 exact h
end
theorem Nn.imp{p:Option Addr}{K K':Addr->Prop}(h:Nn p K)(hk:∀ a,K a->K' a):Nn p K':=by obtain ⟨a,h1,h2⟩:=h; exact ⟨a,h1,hk a h2⟩
theorem St1.imp{w:Wd}{a:Addr}{v:Value}{K K':Wd->Prop}(h:St1 w a v K)(hk:∀ w,K w->K' w):St1 w a v K':=by
 obtain ⟨cs,T,fz,h1,h2,h3,h4,h5,h6⟩:=h; exact ⟨cs,T,fz,h1,h2,h3,h4,h5,fun w' hw=>hk w' (h6 w' hw)⟩
theorem StN.imp{w:Wd}{a:Addr}{vs:List Value}{K K':Wd->Prop}(h:StN w a vs K)(hk:∀ w,K w->K' w):StN w a vs K':=by
 obtain ⟨cs,T,fz,h1,h2,h3,h4,h5,h6⟩:=h; exact ⟨cs,T,fz,h1,h2,h3,h4,h5,fun w' hw=>hk w' (h6 w' hw)⟩
abbrev A20a:Ann := .nil
abbrev A20b:Ann := .seq .nil (.cond (.seq .nil .nil) .nil)
abbrev A20d:Ann := .nil
abbrev A20e:Ann := .nil
abbrev A20g:Ann := .seq .nil .nil
def ptrP(v:Value)(K:Addr->Prop):Prop:=match v with
 | .pointer (some a)=>K a
 | _=>False
def onlyN(next:Env->Wd->Prop):Exit->Env->Wd->Prop
 | .normal,ρ,w=>next ρ w
 | _,_,_=>False
def Q8(fin:Env->Wd->Prop):Exit->Env->Wd->Prop
 | .ret,ρ,w=>fin ρ w
 | .normal,ρ,w=>fin ρ w
 | _,_,_=>False
def XW(ra ea:Addr)(K:Wd->Prop):PX:=fun c w'=>∃ x:Addr,c=[{ v:=wrV x,recovered:=false }]/\F67 ra ea x w' K
noncomputable def Q7 (fin:Env->Wd->Prop) (ρ:Env) (w:Wd):Prop:=wpc pz PK NoX A20g (seqR (seqR rest20)) (Q8 fin) ρ w
def put3(ρ:Env)(t0 t1 t2 t3:Int):Env:=put (put (put ρ 21 (ρ 8)) 22 (.agg #[.int .u32 t0, .int .u64 t1, .int .u16 t2, .int .u8 t3])) 23 (.agg #[.slice none 0 0, .slice none 0 0])
noncomputable def R6 (fin:Env->Wd->Prop) (ra ea:Addr) (ρ:Env) (w:Wd):Prop:=ptrP (ρ 5) fun b=>∃ t0:Int,Cell w b (.int .u32 t0)/\∃ t1:Int,Cell w (b.add 1) (.int .u64 t1)/\∃ t2:Int,Cell w (b.add 2) (.int .u16 t2)/\∃ t3:Int,Cell w (b.add 3) (.int .u8 t3) /\
 callKX pz 66 #[ρ 8, .agg #[.int .u32 t0, .int .u64 t1, .int .u16 t2, .int .u8 t3], .agg #[.slice none 0 0, .slice none 0 0]] [] (fun w'=>Q7 fin (put (put3 ρ t0 t1 t2 t3) 24 (.tuple #[])) w') (XW ra ea (fin (put3 ρ t0 t1 t2 t3))) w
noncomputable def Q5 (fin:Env->Wd->Prop) (ra ea:Addr) (ρ:Env) (w:Wd):Prop:=condW (ρ 20) (R6 fin ra ea ρ w) (Q7 fin ρ w)
noncomputable def Q4 (fin:Env->Wd->Prop) (ra ea:Addr) (ρ:Env) (w:Wd):Prop:=wpc pz PK NoX A20e (seqL (seqL (seqR rest20))) (onlyN (Q5 fin ra ea)) ρ w
noncomputable def Q1 (fin:Env->Wd->Prop):Exit->Env->Wd->Prop
 | .ret,ρ,w=>fin ρ w
 | .normal,ρ,w=>ptrP (ρ 6) fun ra=>ptrP (ρ 7) fun ea=>wpc pz PK NoX A20d (seqL rest20) (onlyN (Q4 fin ra ea)) (put ρ 12 (.func (.func 65) #[] #[.pointer (some ra), .pointer (some ea)])) w
 | _,_,_=>False
noncomputable def W0 (fin:Env->Wd->Prop) (args:List Value) (w:Wd):Prop:=wpc pz PK NoX A20a (seqL c20) (onlyN fun ρ w=>wpc pz PK NoX A20b (seqL (seqR c20)) (Q1 fin) ρ w) (argEnv args) w
theorem F67.mono{ra ea x:Addr}{w:Wd}{K K':Wd->Prop}(h:F67 ra ea x w K)(hk:∀ w,K w->K' w):F67 ra ea x w K':=by
 obtain ⟨S,h0,h1⟩:=h
 refine ⟨S,h0,Nn.imp h1 fun a h=>?_⟩
 obtain ⟨c,c1,d,d1,e,e1,h⟩:=h
 refine ⟨c,c1,d,d1,e,e1,Nn.imp h fun a h=>?_⟩
 obtain ⟨v,v1,l,h⟩:=h
 exact ⟨v,v1,l,StN.imp h fun w h=>⟨h.1,St1.imp h.2 fun w h=>⟨h.1,hk w h.2⟩⟩⟩
section
variable {w:Wd} {fin:Env->Wd->Prop} {R:Ending->Wd->Prop}
abbrev FinOK(fin:Env->Wd->Prop)(R:Ending->Wd->Prop):Prop:=∀(D:List Deferred)(ρ:Env)(a:Act)(w:Wd),Rep D 29 a ρ->fin ρ w->∃ v,(results Tryz.f20 a.tmps).run pz w = .ok v w/\R (.returned v) w
abbrev Po(R:Ending->Wd->Prop):Exit->Act->Wd->Prop:=bodyPostD pz Tryz.f20 R
theorem q7_sound(hf:FinOK fin R){ra ea:Addr}{ρ:Env}{a:Act}(hr:Rep [d33 (.pointer (some ra)) (.pointer (some ea))] 29 a ρ)(h:Q7 fin ρ w):(seqR (seqR rest20)).wp pz (Po R) a w:=by
 refine wp_mono (wpIn_wide.1 (wpc_sound (ro:=none) (n:=29) (D:=[d33 (.pointer (some ra)) (.pointer (some ea))]) A20g _ _ ρ w a (.inl rfl) (by kernel_rfl) h hr)) ?_
 intro e a' w' hp
 have fin':∀{ρ':Env},Rep [d33 (.pointer (some ra)) (.pointer (some ea))] 29 a' ρ'->fin ρ' w'->Leaves pz Tryz.f20 a'.tmps R a'.defers .returning w':=fun r q=>by
  rw [r.defers]; exact leave_ret (hf _ _ _ _ r q)
 cases e with
 | normal=>obtain ⟨ρ',r',q,_⟩:=hp; exact fin' r' q
 | ret=>obtain ⟨ρ',r',q,_⟩:=hp; exact fin' r' q
 | panic c=>exact hp.1.elim
 | outgrown=>exact hp.elim
 | exit i=>obtain ⟨_,_,q,_⟩:=hp; exact q.elim
 | goto i=>obtain ⟨_,_,q,_⟩:=hp; exact q.elim
theorem r6_sound(hf:FinOK fin R){ra ea:Addr}{ρ:Env}{a:Act}(hr:Rep [d33 (.pointer (some ra)) (.pointer (some ea))] 29 a ρ)(h:R6 fin ra ea ρ w):(Code.region 6 (regOps (cndT k20)) false).wp pz (Exit.then ((seqR (seqR rest20)).wp pz (Po R)) (Po R)) a w:=by
 refine wp_region ?_
 rw [size6]
 unfold R6 ptrP at h
 split at h
 case h_2=>exact h.elim
 rename_i b hb
 obtain ⟨t0,c0,t1,c1,t2,c2,t3,c3,h⟩:=h
 refine reg6 (b:=b) hr.size (hr.get 8) ((hr.get 5).trans hb) c0 c1 c2 c3 (Calls.mono h ?_)
 have r3:=((hr.put (d:=21) (by decide) (ρ 8)).put (d:=22) (by decide) (.agg #[.int .u32 t0, .int .u64 t1, .int .u16 t2, .int .u8 t3])).put (d:=23) (by decide) (.agg #[.slice none 0 0, .slice none 0 0])
 rintro e w' (⟨rfl,h⟩ | ⟨c,rfl,x,rfl,h⟩)
 .exact .inl ⟨_,rfl,q7_sound hf (r3.put (d:=24) (by decide) _) h⟩
 .refine .inr ⟨_,rfl,?_⟩
  show Leaves pz Tryz.f20 _ R _ _ w'
  rw [r3.defers]
  exact leave_pan (F67.mono h fun w h=>hf _ _ _ _ r3 h)
theorem q5_sound(hf:FinOK fin R){ra ea:Addr}{ρ:Env}{a:Act}(hr:Rep [d33 (.pointer (some ra)) (.pointer (some ea))] 29 a ρ)(h:Q5 fin ra ea ρ w):(Code.cond (.tmp 20) (.region 6 (regOps (cndT k20)) false) .skip).wp pz (Exit.then ((seqR (seqR rest20)).wp pz (Po R)) (Po R)) a w:=by
 unfold Q5 condW at h
 split at h
 case h_2=>exact h.elim
 rename_i b hb
 refine wp_cond (t:=b) ((hr.get 20).trans hb) ?_
 cases b with
 | true=>exact r6_sound hf hr h
 | false=>exact wp_skip (q7_sound hf hr h)
theorem q4_sound(hf:FinOK fin R){ra ea:Addr}{ρ:Env}{a:Act}(hr:Rep [d33 (.pointer (some ra)) (.pointer (some ea))] 29 a ρ)(h:Q4 fin ra ea ρ w):(seqR rest20).wp pz (Po R) a w:=by
 have e:seqR rest20 = .seq (.seq (seqL (seqL (seqR rest20))) (.cond (.tmp 20) (.region 6 (regOps (cndT k20)) false) .skip)) (seqR (seqR rest20)):=by kernel_rfl
 rw [e]
 refine wp_seq (wp_seq (wp_mono (wpIn_wide.1 (wpc_sound (ro:=none) (n:=29) (D:=[d33 (.pointer (some ra)) (.pointer (some ea))]) A20e _ _ ρ w a (.inl rfl) (by kernel_rfl) h hr)) ?_))
 intro e a' w' hp
 cases e with
 | normal=>obtain ⟨ρ',r',q,_⟩:=hp; exact q5_sound hf r' q
 | ret=>obtain ⟨_,_,q,_⟩:=hp; exact q.elim
 | panic c=>exact hp.1.elim
 | outgrown=>exact hp.elim
 | exit i=>obtain ⟨_,_,q,_⟩:=hp; exact q.elim
 | goto i=>obtain ⟨_,_,q,_⟩:=hp; exact q.elim
theorem rest_sound(hf:FinOK fin R){ra ea:Addr}{ρ:Env}{a:Act}(hr:Rep [d33 (.pointer (some ra)) (.pointer (some ea))] 29 a ρ)(h:wpc pz PK NoX A20d (seqL rest20) (onlyN (Q4 fin ra ea)) ρ w):rest20.wp pz (Po R) a w:=by
 have e:rest20 = .seq (seqL rest20) (seqR rest20):=by kernel_rfl
 rw [e]
 refine wp_seq (wp_mono (wpIn_wide.1 (wpc_sound (ro:=none) (n:=29) (D:=[d33 (.pointer (some ra)) (.pointer (some ea))]) A20d _ _ ρ w a (.inl rfl) (by kernel_rfl) h hr)) ?_)
 intro e a' w' hp
 cases e with
 | normal=>obtain ⟨ρ',r',q,_⟩:=hp; exact q4_sound hf r' q
 | ret=>obtain ⟨_,_,q,_⟩:=hp; exact q.elim
 | panic c=>exact hp.1.elim
 | outgrown=>exact hp.elim
 | exit i=>obtain ⟨_,_,q,_⟩:=hp; exact q.elim
 | goto i=>obtain ⟨_,_,q,_⟩:=hp; exact q.elim
theorem q1_sound(hf:FinOK fin R){ρ:Env}{a:Act}(hr:Rep [] 29 a ρ)(h:Q1 fin .normal ρ w):(Code.seq (.region 3 (regOps q3) false) rest20).wp pz (Po R) a w:=by
 have h:ptrP (ρ 6) fun ra=>ptrP (ρ 7) fun ea=>wpc pz PK NoX A20d (seqL rest20) (onlyN (Q4 fin ra ea)) (put ρ 12 (.func (.func 65) #[] #[.pointer (some ra), .pointer (some ea)])) w:=h
 unfold ptrP at h
 split at h
 case h_2=>exact h.elim
 rename_i ra hra
 split at h
 case h_2=>exact h.elim
 rename_i ea hea
 refine wp_seq (wp_region ?_)
 rw [size33]
 refine reg33 (x := .pointer (some ra)) (y := .pointer (some ea)) (by rw [hr.size]; decide) ((hr.get 6).trans hra) ((hr.get 7).trans hea) (rest_sound hf (ra:=ra) (ea:=ea) ?_ h)
 have r1:=hr.put (d:=12) (by decide) (.func (.func 65) #[] #[.pointer (some ra), .pointer (some ea)])
 exact ⟨by rw [hr.defers],r1.size,r1.get⟩
theorem w0_sound(hf:FinOK fin R){args:List Value}(ha:Nat.ble args.length 29=true)(h:W0 fin args w):Calls pz 20 args.toArray w R:=by
 refine calls_of_wp_defers Tryz.func20 body20 ?_
 rw [show c20 = .seq (seqL c20) (.seq (seqL (seqR c20)) (.seq (.region 3 (regOps q3) false) rest20)) from c20_eq]
 refine wp_seq (wp_mono (wpIn_wide.1 (wpc_sound (ro:=none) (n:=29) (D:=[]) A20a _ _ _ w _ (.inl rfl) (by kernel_rfl) h (args_rep ha))) ?_)
 intro e a' w' hp
 cases e with
 | normal =>
  obtain ⟨ρ',r',q,_⟩:=hp
  refine wp_seq (wp_mono (wpIn_wide.1 (wpc_sound (ro:=none) (n:=29) (D:=[]) A20b _ _ ρ' w' a' (.inl rfl) (by kernel_rfl) q r')) ?_)
  intro e a2 w2 hp
  cases e with
  | normal=>obtain ⟨ρ2,r2,q2,_⟩:=hp; exact q1_sound hf r2 q2
  | ret =>
   obtain ⟨ρ2,r2,q2,_⟩:=hp
   show Leaves pz Tryz.f20 _ R _ _ w2
   rw [r2.defers]
   exact hf _ _ _ _ r2 q2
  | panic c=>exact hp.1.elim
  | outgrown=>exact hp.elim
  | exit i=>obtain ⟨_,_,q,_⟩:=hp; exact q.elim
  | goto i=>obtain ⟨_,_,q,_⟩:=hp; exact q.elim
 | ret=>obtain ⟨_,_,q,_⟩:=hp; exact q.elim
 | panic c=>exact hp.1.elim
 | outgrown=>exact hp.elim
 | exit i=>obtain ⟨_,_,q,_⟩:=hp; exact q.elim
 | goto i=>obtain ⟨_,_,q,_⟩:=hp; exact q.elim
end
def F_sound_Check(s:Value)(tenant t0:Int)(t1 t2 t3:Int)(w:Wd)(K:Int->Int->Int->Int->Int->Int->Int->Wd->Prop):Prop:=NewW w (.cells [.int .u32 t0, .int .u64 t1, .int .u16 t2, .int .u8 t3].toArray 47) fun c c0=>NewW c0 (.cells [.int .i64 0, .int .i64 0, .int .i64 0, .int .u32 0, .int .u64 0, .int .u16 0].toArray 49) fun a c2=>NewW c2 (.cells [.int .i64 0].toArray 50) fun d h=>IsI s/\If (isNilI s) (∃ n:Int,Cell h (A0 a) (.int .i64 n)/\∃ o:Int,Cell h ((A0 a).add 1) (.int .i64 o)/\∃ p:Int,Cell h ((A0 a).add 2) (.int .i64 p)/\∃ y:Int,Cell h ((A0 a).add 3) (.int .u32 y)/\∃ F:Int,Cell h ((A0 a).add 4) (.int .u64 F)/\∃ G:Int,Cell h ((A0 a).add 5) (.int .u16 G)/\StL h (A0 a) 6 [.int .i64 n, .int .i64 o, .int .i64 p, .int .u32 y, .int .u64 F, .int .u16 G] fun c3=>St1 c3 (A0 d) (.int .i64 1) fun i=>∃ a5:Int,Cell i (A0 a) (.int .i64 a5)/\∃ a6:Int,Cell i ((A0 a).add 1) (.int .i64 a6)/\∃ a7:Int,Cell i ((A0 a).add 2) (.int .i64 a7)/\∃ a8:Int,Cell i ((A0 a).add 3) (.int .u32 a8)/\∃ H:Int,Cell i ((A0 a).add 4) (.int .u64 H)/\∃ I:Int,Cell i ((A0 a).add 5) (.int .u16 I)/\∃ b6:Int,Cell i (A0 d) (.int .i64 b6)/\K a5 a6 a7 a8 H I b6 i) (NewW h (.map #[] 0) fun b9 c4=>oneC s=true/\NewW c4 (.cells [s, .int .u32 tenant, .map (some b9), .int .i64 0, .int .i64 0, .int .i64 0, .int .u32 0, .int .u64 0, .int .u16 0].toArray 147) fun m b=>∃ J:Int,Cell b (A0 c) (.int .u32 J)/\∃ L:Int,Cell b ((A0 c).add 1) (.int .u64 L)/\∃ M:Int,Cell b ((A0 c).add 2) (.int .u16 M)/\∃ N:Int,Cell b ((A0 c).add 3) (.int .u8 N)/\If (!(((J == 0) && ((L == 0) && ((M == 0) && (true)))) && ((N == 0) && (true)))) (∃ O:Int,Cell b (A0 c) (.int .u32 O)/\∃ P:Int,Cell b ((A0 c).add 1) (.int .u64 P)/\∃ Q:Int,Cell b ((A0 c).add 2) (.int .u16 Q)/\∃ R:Int,Cell b ((A0 c).add 3) (.int .u8 R)/\C_sound_walk_node (some (A0 m)) O P Q R ⟨none,0,0⟩ ⟨none,0,0⟩ b (fun j=>Nn (some (A0 m)) fun k=>∃ q:Int,Cell j (k.add 3) (.int .i64 q)/\∃ r:Int,Cell j ((k.add 3).add 1) (.int .i64 r)/\∃ t:Int,Cell j ((k.add 3).add 2) (.int .i64 t)/\∃ u:Int,Cell j ((k.add 3).add 3) (.int .u32 u)/\∃ v:Int,Cell j ((k.add 3).add 4) (.int .u64 v)/\∃ x:Int,Cell j ((k.add 3).add 5) (.int .u16 x)/\StL j (A0 a) 6 [.int .i64 q, .int .i64 r, .int .i64 t, .int .u32 u, .int .u64 v, .int .u16 x] fun c5=>St1 c5 (A0 d) (.int .i64 0) fun e=>∃ S:Int,Cell e (A0 a) (.int .i64 S)/\∃ T:Int,Cell e ((A0 a).add 1) (.int .i64 T)/\∃ U:Int,Cell e ((A0 a).add 2) (.int .i64 U)/\∃ V:Int,Cell e ((A0 a).add 3) (.int .u32 V)/\∃ W:Int,Cell e ((A0 a).add 4) (.int .u64 W)/\∃ Y:Int,Cell e ((A0 a).add 5) (.int .u16 Y)/\∃ b7:Int,Cell e (A0 d) (.int .i64 b7)/\K S T U V W Y b7 e) (XW (A0 a) (A0 d) fun g=>∃ a9:Int,Cell g (A0 a) (.int .i64 a9)/\∃ b0:Int,Cell g ((A0 a).add 1) (.int .i64 b0)/\∃ b1:Int,Cell g ((A0 a).add 2) (.int .i64 b1)/\∃ b2:Int,Cell g ((A0 a).add 3) (.int .u32 b2)/\∃ b3:Int,Cell g ((A0 a).add 4) (.int .u64 b3)/\∃ b4:Int,Cell g ((A0 a).add 5) (.int .u16 b4)/\∃ b5:Int,Cell g (A0 d) (.int .i64 b5)/\K a9 b0 b1 b2 b3 b4 b5 g)) (Nn (some (A0 m)) fun l=>∃ z:Int,Cell b (l.add 3) (.int .i64 z)/\∃ A:Int,Cell b ((l.add 3).add 1) (.int .i64 A)/\∃ B:Int,Cell b ((l.add 3).add 2) (.int .i64 B)/\∃ C:Int,Cell b ((l.add 3).add 3) (.int .u32 C)/\∃ D:Int,Cell b ((l.add 3).add 4) (.int .u64 D)/\∃ E:Int,Cell b ((l.add 3).add 5) (.int .u16 E)/\StL b (A0 a) 6 [.int .i64 z, .int .i64 A, .int .i64 B, .int .u32 C, .int .u64 D, .int .u16 E] fun c1=>St1 c1 (A0 d) (.int .i64 0) fun f=>∃ Z:Int,Cell f (A0 a) (.int .i64 Z)/\∃ a0:Int,Cell f ((A0 a).add 1) (.int .i64 a0)/\∃ a1:Int,Cell f ((A0 a).add 2) (.int .i64 a1)/\∃ a2:Int,Cell f ((A0 a).add 3) (.int .u32 a2)/\∃ a3:Int,Cell f ((A0 a).add 4) (.int .u64 a3)/\∃ a4:Int,Cell f ((A0 a).add 5) (.int .u16 a4)/\∃ b8:Int,Cell f (A0 d) (.int .i64 b8)/\K Z a0 a1 a2 a3 a4 b8 f))
abbrev tys20:List Ty:=[.agg [.one (.int .i64), .one (.int .i64), .one (.int .i64), .one (.int .u32), .one (.int .u64), .one (.int .u16)], .one (.int .i64)]
noncomputable abbrev fin20 (K:Int->Int->Int->Int->Int->Int->Int->Wd->Prop) (ρ:Env) (w:Wd):Prop:=resW pz Tryz.f20.results.toList ρ w (fun vs=>getC tys20 vs K w)
theorem S_sound_Check{s:Value}{tenant t0:Int}{t1 t2 t3:Int}{w:Wd}{K:Int->Int->Int->Int->Int->Int->Int->Wd->Prop}(h:F_sound_Check s tenant t0 t1 t2 t3 w K):C_sound_Check s tenant t0 t1 t2 t3 w K:=by
 have e:F_sound_Check s tenant t0 t1 t2 t3 w K=W0 (fin20 K) [s, .int .u32 tenant, .agg ([.int .u32 t0, .int .u64 t1, .int .u16 t2, .int .u8 t3]).toArray] w:=by kernel_rfl
 rw [e] at h
 have h2:=w0_sound (R:=fun e w'=>exC tys20 K (fun vs Y=>e = .returned (tup vs)/\Y w')) (fun D ρ a w hr hq=>by
  obtain ⟨vs,h1,h2⟩:=results_run hr hq
  refine ⟨_,h1,?_⟩
  show exC tys20 K (fun us Y=>Ending.returned (tup vs) = .returned (tup us)/\Y w)
  exact exC_mono tys20 K (fun us X hh=>⟨by rw [hh.1],hh.2⟩) (getC_elim tys20 vs K w h2)) rfl h
 have c:callK pz 20 #[s, .int .u32 tenant, .agg ([.int .u32 t0, .int .u64 t1, .int .u16 t2, .int .u8 t3]).toArray] tys20 K w=C_sound_Check s tenant t0 t1 t2 t3 w K:=by kernel_rfl
 rw [<- c]
 exact h2
section
variable {w:Wd} {T:Nat->Option Nat} {m:MemV} {M:Mm}
end
section
variable {w:Wd} {T:Nat->Option Nat} {m:MemV} {M:Mm}
theorem f67_ok{b1 b2 xb:Nat}{e p c g:Int}{cs:List Value}{v:Value}{K:Wd->Prop}(hx:w.heap[xb]? = some (.cells [.int .i64 e, .int .u32 p, .int .u64 c, .int .u16 g].toArray 143 (0,0)))(h1:w.heap[b1]? = some (.cells cs.toArray 49 (0,0)))(hl:cs.length=6)(h2:w.heap[b2]? = some (.cells [v].toArray 50 (0,0)))(hn:xb≠b1/\xb≠b2/\b1≠b2)
  (k:∀ w',w'.heap[b1]? = some (.cells [.int .i64 0, .int .i64 0, .int .i64 0, .int .u32 p, .int .u64 c, .int .u16 g].toArray 49 (0,0))->w'.heap[b2]? = some (.cells [.int .i64 e].toArray 50 (0,0))->Ext (fun q=>q=b1∨q=b2) w w'->K w'):F67 ⟨b1,0,none⟩ ⟨b2,0,none⟩ ⟨xb,0,none⟩ w K:=by
 have nx:¬ (xb=b1∨xb=b2):=by omega
 refine ⟨Ext (fun q=>q=b1∨q=b2) w,(Ext.refl _ _).drew,Nn.mk ⟨_,Held.but (Cell.lst hx rfl) nx,_,Held.but (Cell.lst hx rfl) nx,_,Held.but (Cell.lst hx rfl) nx,Nn.mk ⟨_,Held.but (Cell.lst hx rfl) nx,st_all (w:=drewW w) h1 rfl hl (by simp [oneC]) fun w1 g1 x1 _=>?_⟩⟩⟩
 have x01:Ext (·=b1) w w1:=x1.drew_left
 have g2:=get_ext h2 x01 (by omega)
 have x01':Ext (fun q=>q=b1∨q=b2) w w1:=(Ext.refl _ _).trans x01 fun q _ h => .inl h
 refine ⟨x01',St1.b1 g2 rfl fun w2 h=>?_⟩
 have x2:Ext (·=b2) w1 w2:=h.ext
 have x02:=x01'.trans x2 fun q _ h => .inr h
 exact ⟨x02,k w2 (get_ext g1 x2 (by omega)) (h.get g2) x02⟩
theorem check_z{t:Int}{K:Int->Int->Int->Int->Int->Int->Int->Wd->Prop}(k:∀ w',Ext No w w'->K 0 0 0 0 0 0 0 w'):C_sound_Check (srcV m) t 0 0 0 0 w K:=by
 apply S_sound_Check
 refine NewW.mk fun b w1 n1=>NewW.mk fun b1 w2 n2=>NewW.mk fun b2 w3 n3=>⟨trivial,If.no (NewW.mk fun b3 w6 n6=>⟨rfl,NewW.mk fun b4 w7 n7=>?_⟩)⟩
 have e1:=n1.at_; have e2:=n2.at_; have e3:=n3.at_; have e6:=n6.at_; have e7:=n7.at_
 have z1:=n1.size; have z2:=n2.size; have z3:=n3.size; have z6:=n6.size; have z7:=n7.size
 have x37:Ext No w3 w7:=n6.ext.no n7.ext
 have g17:=get_no n1.get ((n2.ext.no n3.ext).no x37)
 have g27:=get_no n2.get (n3.ext.no x37)
 have g37:=get_no n3.get x37
 have g77:=n7.get
 refine ⟨_,Cell.lst g17 rfl,_,Cell.lst g17 rfl,_,Cell.lst g17 rfl,_,Cell.lst g17 rfl,If.not (If.yes (Nn.mk ⟨_,Cell.lst g77 rfl,_,Cell.lst g77 rfl,_,Cell.lst g77 rfl,_,Cell.lst g77 rfl,_,Cell.lst g77 rfl,_,Cell.lst g77 rfl,st_all g27 rfl rfl (by simp [oneC]) fun w4 g4 x4 _=>?_⟩))⟩
 have g34:=get_ext g37 x4 (by omega)
 refine St1.b1 g34 rfl fun w5 h5=>?_
 have x5:Ext (·=b2) w4 w5:=h5.ext
 have g5:=get_ext g4 x5 (by omega)
 have g6:=h5.get g34
 refine ⟨_,Cell.lst g5 rfl,_,Cell.lst g5 rfl,_,Cell.lst g5 rfl,_,Cell.lst g5 rfl,_,Cell.lst g5 rfl,_,Cell.lst g5 rfl,_,Cell.lst g6 rfl,k w5 ?_⟩
 have x07:Ext No w w7:=((n1.ext.no n2.ext).no n3.ext).no x37
 exact (x07.trans x4 fun q hq h=>by omega).trans x5 fun q hq h=>by omega
theorem check_spec{t:Int}{p c g lev:Int}{K:Int->Int->Int->Int->Int->Int->Int->Wd->Prop}(hz:¬ (p=0/\c=0/\g=0/\lev=0))
  (h:∀ bw sr w1,WkR w1.heap m t bw sr [] 0 0 0->bw≠sr->w.heap.size<=bw->w.heap.size<=sr->Ext No w w1->∀(K1:Wd->Prop)(X1:PX),
   (∀ S kn pn cn w',WkR w'.heap m t bw sr S kn pn cn->Ext (fun q=>q=bw∨q=sr) w1 w'->(∀ w'',Ext No w w''->K kn pn cn 0 0 0 0 w'')->K1 w') ->
   (∀ b e p c g w',w'.heap[b]? = some (.cells [.int .i64 e, .int .u32 p, .int .u64 c, .int .u16 g].toArray 143 (0,0))->w1.heap.size<=b->Ext (fun q=>q=bw∨q=sr) w1 w'->(∀ w'',Ext No w w''->K 0 0 0 p c g e w'')->X1 [{ v := .iface 141 (.pointer (some ⟨b,0,none⟩)),recovered:=false }] w') ->
   C_sound_walk_node (some ⟨bw,0,none⟩) p c g lev ⟨none,0,0⟩ ⟨none,0,0⟩ w1 K1 X1):C_sound_Check (srcV m) t p c g lev w K:=by
 apply S_sound_Check
 refine NewW.mk fun b w1 n1=>NewW.mk fun b1 w2 n2=>NewW.mk fun b2 w3 n3=>⟨trivial,If.no (NewW.mk fun b3 w6 n6=>⟨rfl,NewW.mk fun b4 w7 n7=>?_⟩)⟩
 have e1:=n1.at_; have e2:=n2.at_; have e3:=n3.at_; have e6:=n6.at_; have e7:=n7.at_
 have z1:=n1.size; have z2:=n2.size; have z3:=n3.size; have z6:=n6.size; have z7:=n7.size
 have x37:Ext No w3 w7:=n6.ext.no n7.ext
 have x07:Ext No w w7:=((n1.ext.no n2.ext).no n3.ext).no x37
 have g17:=get_no n1.get ((n2.ext.no n3.ext).no x37)
 have g27:=get_no n2.get (n3.ext.no x37)
 have g37:=get_no n3.get x37
 have hc:(((p == 0) && ((c == 0) && ((g == 0) && true))) && ((lev == 0) && true))=false:=by
  rw [Bool.eq_false_iff]; simp only [ne_eq,Bool.and_eq_true,beq_iff_eq,and_true]; rintro ⟨⟨h1,h2,h3⟩,h4⟩; exact hz ⟨h1,h2,h3,h4⟩
 refine ⟨_,Cell.lst g17 rfl,_,Cell.lst g17 rfl,_,Cell.lst g17 rfl,_,Cell.lst g17 rfl,?_⟩
 rw [hc]
 refine If.not (If.no ⟨_,Cell.lst g17 rfl,_,Cell.lst g17 rfl,_,Cell.lst g17 rfl,_,Cell.lst g17 rfl,?_⟩)
 refine h b4 b3 w7 ⟨n7.get,⟨#[],0,get_no n6.get n7.ext,rfl,BornOK.nil⟩⟩ (by omega) (by omega) (by omega) x07 _ _ (fun S kn pn cn w8 W8 x8 hk=>?_) fun xb e p c g w8 hx hxb x8 hk=>?_
 .have g28:=get_ext g27 x8 (by omega)
  have g38:=get_ext g37 x8 (by omega)
  have g88:=W8.at_
  refine Nn.mk ⟨_,Cell.lst g88 rfl,_,Cell.lst g88 rfl,_,Cell.lst g88 rfl,_,Cell.lst g88 rfl,_,Cell.lst g88 rfl,_,Cell.lst g88 rfl,st_all g28 rfl rfl (by simp [oneC]) fun w4 g4 x4 _=>?_⟩
  have g34:=get_ext g38 x4 (by omega)
  refine St1.b1 g34 rfl fun w5 h5=>?_
  have x5:Ext (·=b2) w4 w5:=h5.ext
  have g5:=get_ext g4 x5 (by omega)
  have g6:=h5.get g34
  refine ⟨_,Cell.lst g5 rfl,_,Cell.lst g5 rfl,_,Cell.lst g5 rfl,_,Cell.lst g5 rfl,_,Cell.lst g5 rfl,_,Cell.lst g5 rfl,_,Cell.lst g6 rfl,hk w5 ?_⟩
  exact ((x07.trans x8 fun q hq h=>by omega).trans x4 fun q hq h=>by omega).trans x5 fun q hq h=>by omega
 .have g28:=get_ext g27 x8 (by omega)
  have g38:=get_ext g37 x8 (by omega)
  refine ⟨⟨xb,0,none⟩,rfl,f67_ok hx g28 rfl g38 (by omega) fun w5 g5 g6 x5=>⟨_,Cell.lst g5 rfl,_,Cell.lst g5 rfl,_,Cell.lst g5 rfl,_,Cell.lst g5 rfl,_,Cell.lst g5 rfl,_,Cell.lst g5 rfl,_,Cell.lst g6 rfl,hk w5 ?_⟩⟩
  exact (x07.trans x8 fun q hq h=>by omega).trans x5 fun q hq h=>by omega
theorem check_ok{t:Int}{lev:Nat}{r:Rf}{kvs:List KV}{ps:List Rf}{K:Int->Int->Int->Int->Int->Int->Int->Wd->Prop}(R:MemR w.heap T m M)(hT:TreeT M.f t r lev kvs ps)(hl:lev<=30)(hnd:ps.Nodup)(hk:kvs.length<=1000000000)(hp:ps.length<=1000000000)(hc:chgP kvs<=1000000000)
  (k:∀ w',Ext No w w'->K kvs.length ps.length (chgP kvs:Nat) 0 0 0 0 w'):C_sound_Check (srcV m) t r.p r.c r.g lev w K:=by
 rcases hT with ⟨rfl,h1,rfl,rfl⟩ | ⟨hr,_,hS⟩
 .have:lev=0:=by omega
  subst this; exact check_z k
 refine check_spec (fun h=>hr (by cases r; simp only [Rf.z,Rf.mk.injEq]; exact ⟨h.1,h.2.1,h.2.2.1⟩)) fun bw sr w1 W hbs hb hs x1 K1 X1 k1 kx=>?_
 have R1:=R.no x1
 refine wnode_spec ⟨R.supT hb,R.supT hs,hbs⟩ lev R1 (by simpa using hS) hl W (Rd.nil _ _) B8.nil (fun h=>(h rfl).elim) (Rd.nil _ _) B8.nil (fun h=>(h rfl).elim) (fun x _=>⟨?_, .inl rfl⟩) (by simpa using hnd) (by omega) (by omega) (by omega) fun w2 W2 x2=>k1 _ _ _ _ w2 W2 x2 fun w3 x3=>?_
 .unfold LtB; cases x.1 <;> simp [cmpB]
 .have:=k w3 x3; simpa using this
end
end Go.Proofs.YtcamoanigdfihaaGreat
namespace Go.V
def ansK{β:Sort _}(res:WRes)(K:Int->Int->Int->Int->Int->Int->Int->β):β:=match res with
 | .ok s=>K s.kn s.pn s.cn 0 0 0 0
 | .bad e r=>K 0 0 0 r.p r.c r.g e
end Go.V
namespace Go.Proofs.YtcamoanigdfihaaGreat
open Go.V
section
variable {w:Wd} {T:Nat->Option Nat} {m:MemV} {M:Mm} {A:List PgD}
theorem checkD_z(A:List PgD):checkD A .z 0 = .ok ⟨[],0,0,0⟩:=by unfold checkD; rw [if_pos ⟨rfl,rfl⟩]
theorem check_any{lev:Nat}{r:Rf}{K:Int->Int->Int->Int->Int->Int->Int->Wd->Prop}(R:MemR w.heap T m M)(hA:SndM M A)(h60:A.length<=60)(hlev:lev<=255)
  (k:∀ w',Ext No w w'->ansK (checkD A r lev) K w'):C_sound_Check (srcV m) 5 r.p r.c r.g lev w K:=by
 by_cases hz:r = .z/\lev=0
 .obtain ⟨rfl,rfl⟩:=hz
  rw [checkD_z] at k
  exact check_z k
 .have hc:checkD A r lev=nodeD A lev ⟨[],0,0,0⟩ r [] []:=by unfold checkD; rw [if_neg hz]
  rw [hc] at k
  refine check_spec (fun h=>hz ⟨by cases r; simp only [Rf.z,Rf.mk.injEq]; exact ⟨h.1,h.2.1,h.2.2.1⟩,by omega⟩) fun bw sr w1 W hbs hb hs x1 K1 X1 k1 kx=>?_
  refine wnode_any hA h60 ⟨R.supT hb,R.supT hs,hbs⟩ lev (s:=⟨[],0,0,0⟩) (lo:=[]) (hi:=[]) (R.no x1) hlev W (WOk.nil A) (Rd.nil _ _) B8.nil (fun h=>(h rfl).elim) (Rd.nil _ _) B8.nil (fun h=>(h rfl).elim) (fun s' w2 hn W2 x2=>k1 _ _ _ _ w2 W2 x2 fun w3 x3=>?_) fun e r' b w2 hn g hb' x2=>kx b _ _ _ _ w2 g hb' x2 fun w3 x3=>?_
  .have:=k w3 x3
   rw [hn] at this; exact this
  .have:=k w3 x3
   rw [hn] at this; exact this
theorem rcheck_spec{base lev:Nat}{all:Sl}{L:List PgE}{r:Rf}{K:Int->Int->Int->Int->Int->Int->Int->Wd->Prop}(R:AllR w.heap base all L)(hbase:base<=w.heap.size)(hL:L.length<=60)(hOK:∀ x∈L,x.d.OK)(hlev:lev<=255)
  (k:∀ w',Ext No w w'->ansK (checkD (L.map PgE.d) r lev) K w'):C_ref17_Check all r.p r.c r.g lev w K:=by
 apply S_ref17_Check
 refine NewW.mk fun b w1 n1=>NewW.mk fun b1 w2 n2=>NewW.mk fun b2 w3 n3=>?_
 have e1:=n1.at_; have e2:=n2.at_; have e3:=n3.at_; have z1:=n1.size; have z2:=n2.size; have z3:=n3.size
 have x03:=(n1.ext.no n2.ext).no n3.ext
 have g3:=get_no n1.get (n2.ext.no n3.ext)
 have g13:=get_no n2.get n3.ext
 have W3:RwS w3.heap base b2 all [] 0 0 0 .z 0 (fun q=>q=b2) ⟨none,0,0⟩:=⟨n3.get,Own.nil _ _ _ _,by simp [Sl.blk],fun q=>by simp [Sl.blk],by omega⟩
 refine ⟨fun w'=>∃ B,RwP (checkD (L.map PgE.d) r lev) w'.heap base b2 all B/\GrowB (fun q=>q=b2) w3 B/\Ext (fun q=>q=b2) w3 w',⟨_,Cell.lst g3 rfl,_,Cell.lst g3 rfl,_,Cell.lst g3 rfl,_,Cell.lst g3 rfl,?_⟩,?_⟩
 .rw [z_iff]
  by_cases hz:r = .z/\lev=0
  .obtain ⟨rfl,rfl⟩:=hz
   rw [decide_eq_true rfl,checkD_z]
   exact If.not (If.yes ⟨_,⟨_,W3⟩,GrowB.refl,Ext.refl _ _⟩)
  .have hc:checkD (L.map PgE.d) r lev=nodeD (L.map PgE.d) lev ⟨[],0,0,0⟩ r [] []:=by unfold checkD; rw [if_neg hz]
   have hf:(decide (r = .z) && (((lev:Int) == 0) && true))=false:=by
    rw [Bool.and_true,<- Bool.not_eq_true,Bool.and_eq_true,decide_eq_true_eq,beq_iff_eq]
    exact fun h=>hz ⟨h.1,by omega⟩
   rw [hf,hc]
   refine If.not (If.no ⟨_,Cell.lst g3 rfl,_,Cell.lst g3 rfl,_,Cell.lst g3 rfl,_,Cell.lst g3 rfl,?_⟩)
   exact rnode_spec hL hOK lev (s:=⟨[],0,0,0⟩) (lo:=[]) (hi:=[]) (R.no x03) hlev W3 (WOk.nil _) (Rd.nil _ _) B8.nil (fun h=>(h rfl).elim) (Rd.nil _ _) B8.nil (fun h=>(h rfl).elim) fun w4 B4 hP g4 x4=>⟨B4,hP,g4,x4⟩
 rintro _ w5 ⟨B,hP,gB,x5⟩
 have g15:=get_ext g13 x5 (by omega)
 have y5:=x5.size
 have bl1:=blt g13
 have hB1:¬ B b1:=fun h=>by
  rcases gB b1 h with h | h
  .omega
  .omega
 have fin:∀{kn pn cn:Nat}{r':Rf}{e:Int}{S:List Rf}{seen:Sl},RwS w5.heap base b2 all S kn pn cn r' e B seen->(∀ w',Ext No w w'->K kn pn cn r'.p r'.c r'.g e w') ->
   ∃ S:Wd->Prop,S (drewW w5)/\Nn (some (Addr.mk b2 0 none)) fun a=>∃ c_7:Int,Held S (a.add 2) (.int .i64 c_7)/\∃ c_8:Int,Held S ((a.add 2).add 1) (.int .i64 c_8)/\∃ c_9:Int,Held S ((a.add 2).add 2) (.int .i64 c_9)/\∃ c_10:Int,Held S ((a.add 2).add 3) (.int .u32 c_10)/\∃ c_11:Int,Held S ((a.add 2).add 4) (.int .u64 c_11)/\∃ c_12:Int,Held S ((a.add 2).add 5) (.int .u16 c_12)/\Nn (some (Addr.mk b2 0 none)) fun a_1=>∃ vv_1:Int,Held S (a_1.add 8) (.int .i64 vv_1) /\
    List.length (α:=Value) [.int .i64 c_7, .int .i64 c_8, .int .i64 c_9, .int .u32 c_10, .int .u64 c_11, .int .u16 c_12]=6/\StN (drewW w5) (Addr.mk b1 0 none) [.int .i64 c_7, .int .i64 c_8, .int .i64 c_9, .int .u32 c_10, .int .u64 c_11, .int .u16 c_12] fun w6=>S w6/\∃ c_13:Int,Cell w6 (Addr.mk b1 0 none) (.int .i64 c_13)/\∃ c_14:Int,Cell w6 ((Addr.mk b1 0 none).add 1) (.int .i64 c_14)/\∃ c_15:Int,Cell w6 ((Addr.mk b1 0 none).add 2) (.int .i64 c_15)/\∃ c_16:Int,Cell w6 ((Addr.mk b1 0 none).add 3) (.int .u32 c_16)/\∃ c_17:Int,Cell w6 ((Addr.mk b1 0 none).add 4) (.int .u64 c_17)/\∃ c_18:Int,Cell w6 ((Addr.mk b1 0 none).add 5) (.int .u16 c_18)/\K c_13 c_14 c_15 c_16 c_17 c_18 vv_1 w6:=fun {kn pn cn r' e S seen} W5 kk=>by
  have n21:¬ b2=b1:=by omega
  refine ⟨Ext (fun q=>q=b1) w5,(Ext.refl _ _).drew,Nn.mk ⟨_,Held.but (Cell.lst W5.at_ rfl) n21,_,Held.but (Cell.lst W5.at_ rfl) n21,_,Held.but (Cell.lst W5.at_ rfl) n21,_,Held.but (Cell.lst W5.at_ rfl) n21,_,Held.but (Cell.lst W5.at_ rfl) n21,_,Held.but (Cell.lst W5.at_ rfl) n21,Nn.mk ⟨_,Held.but (Cell.lst W5.at_ rfl) n21,?_⟩⟩⟩
  refine st_all (w:=drewW w5) (get_no g15 (Ext.refl No w5).drew) rfl rfl (by simp [oneC]) fun w6 g6 x6 _=>?_
  have x6':Ext (·=b1) w5 w6:=Ext.drew_left x6
  exact ⟨x6',_,Cell.lst g6 rfl,_,Cell.lst g6 rfl,_,Cell.lst g6 rfl,_,Cell.lst g6 rfl,_,Cell.lst g6 rfl,_,Cell.lst g6 rfl,kk w6 ((x03.trans x5 fun q hq h=>by omega).trans x6' fun q hq h=>by omega)⟩
 cases hres:checkD (L.map PgE.d) r lev with
 | ok s =>
  rw [hres] at hP k
  obtain ⟨seen,W5⟩:=hP
  exact fin W5 k
 | bad e r' =>
  rw [hres] at hP k
  obtain ⟨_,S,seen,W5⟩:=hP
  exact fin W5 k
end
end Go.Proofs.YtcamoanigdfihaaGreat
namespace Go.V
theorem own_ne{h:Array Obj}{base b:Nat}{e T:TypeId}{sz:Nat}{s:Sl}{cs:List Value}{l:Array Value}{f:Nat×Nat}(o:Own h base e sz s cs)(g:h[b]? = some (.cells l T f))(hT:e≠T):∀ q,s.blk=some q->q≠b:=fun q hq hb=>by
 subst hb
 rcases o.is with ⟨rfl,_⟩ | ⟨b',rest,ha,_,hg,_⟩
 .simp [Sl.blk] at hq
 .simp [Sl.blk,ha] at hq
  subst hq
  rw [hg] at g
  simp only [Option.some.injEq,Obj.cells.injEq] at g
  exact hT g.2.1
def kidR(rs:List Rf)(n:Int):Rf:=if 0<=n then rs.getD n.toNat .z else .z
theorem kidR_ok{rs:List Rf}{n:Int}(h:∀ r∈rs,r.ok):(kidR rs n).ok:=by
 unfold kidR
 split
 .rcases Nat.lt_or_ge n.toNat rs.length with hl | hl
  .have:rs.getD n.toNat .z=rs[n.toNat]:=by simp [List.getD,hl]
   rw [this]; exact h _ (List.getElem_mem hl)
  .have:rs.getD n.toNat .z = .z:=by simp [List.getD,List.getElem?_eq_none hl]
   rw [this]; decide
 .decide
structure PgI where
 lev:Int
 keys:Sl
 ks:List (Sl×List Int)
 kids:Sl
 kd:List Int
 lens:Sl
 ln:List Int
 piece:Bool
 bad:Bool
 size:Int
 odd:Int
def PgI.cs(x:PgI):List Value:=[.int .u8 x.lev, .slice x.keys.a x.keys.len x.keys.cap, .slice x.kids.a x.kids.len x.kids.cap, .slice x.lens.a x.lens.len x.lens.cap, .bool x.piece, .bool x.bad, .int .i64 x.size, .int .i64 x.odd]
abbrev kSl(p:Sl×List Int):Value := .slice p.1.a p.1.len p.1.cap
structure PgIR(h:Array Obj)(x:PgI):Prop where
 lv:0<=x.lev/\x.lev<=255
 kR:Rd h x.keys 1 (x.ks.map kSl)
 kb:∀ p∈x.ks,Rd h p.1 1 (p.2.map (Value.int .u8))/\B8 p.2
 dR:Rd h x.kids 1 (x.kd.map (Value.int .i64))
 nR:Rd h x.lens 1 (x.ln.map (Value.int .i64))
 n64:∀ y∈x.ln,-9223372036854775808<=y/\y<=9223372036854775807
theorem PgIR.no{w w':Wd}{x:PgI}(r:PgIR w.heap x)(e:Ext No w w'):PgIR w'.heap x:=⟨r.lv,r.kR.no e,fun p hp=>⟨(r.kb p hp).1.no e,(r.kb p hp).2⟩,r.dR.no e,r.nR.no e,r.n64⟩
end Go.V
namespace Go.Proofs.YtcamoanigdfihaaGreat
open Go.V
section
variable {w:Wd}
theorem kid_spec{all:Sl}{rs:List Rf}{n:Int}{K:Int->Int->Int->Wd->Prop}(h:Rd w.heap all 3 (rs.flatMap refCs))(k:∀ w',Ext No w w'->K (kidR rs n).p (kidR rs n).c (kidR rs n).g w'):C_law17_kid all n w K:=by
 apply S_law17_kid
 have hl:all.len=rs.length:=by have:=h.len; rw [flat_len' (refCs_len rs)] at this; omega
 refine NewW.mk fun b w1 n1=>?_
 have e1:=n1.at_
 have zz:kidR rs n = .z->List.length (α:=Value) [.int .u32 0, .int .u64 0, .int .u16 0]=3/\StN w1 (Addr.mk b 0 none) [.int .u32 0, .int .u64 0, .int .u16 0] fun w2=>∃ c:Int,Cell w2 (Addr.mk b 0 none) (.int .u32 c)/\∃ c_1:Int,Cell w2 ((Addr.mk b 0 none).add 1) (.int .u64 c_1)/\∃ c_2:Int,Cell w2 ((Addr.mk b 0 none).add 2) (.int .u16 c_2)/\K c c_1 c_2 w2:=fun hz =>
  st_all n1.get rfl rfl (by simp [oneC]) fun w2 g2 x2 _=>⟨_,Cell.lst g2 rfl,_,Cell.lst g2 rfl,_,Cell.lst g2 rfl,by
   have:=k w2 (n1.ext.trans x2 fun q hq h=>by omega)
   rw [hz] at this; exact this⟩
 refine If.dec (fun hn=>zz (by unfold kidR; rw [if_neg (by omega)])) fun hn=>If.dec (fun hg=>zz ?_) fun hg=>?_
 .unfold kidR; rw [if_pos (by omega)]
  simp [List.getD,List.getElem?_eq_none (show rs.length<=n.toNat by omega)]
 .refine Ix.elem (h.no n1.ext) (refCs_len rs) (by decide) (by omega) (by omega) fun bb o hi _ hc=>?_
  refine ⟨_,hc 0 _ rfl,_,hc 1 _ rfl,_,hc 2 _ rfl,st_all n1.get rfl rfl (by simp [oneC]) fun w2 g2 x2 _=>⟨_,Cell.lst g2 rfl,_,Cell.lst g2 rfl,_,Cell.lst g2 rfl,?_⟩⟩
  have:=k w2 (n1.ext.trans x2 fun q hq h=>by omega)
  have e:kidR rs n=rs[n.toNat]:=by unfold kidR; rw [if_pos (by omega)]; simp [List.getD,hi]
  rw [e] at this; exact this
structure EnI(h:Array Obj)(ks:List (Sl×List Int))(p:EntV×Ent):Prop where
 r:EntR h p.1 p.2
 v:p.2.val=[]
 k:p.2.key≠[]->∃ y∈ks,p.1.k=y.1/\p.2.key=y.2
theorem EnI.no{w w':Wd}{ks:List (Sl×List Int)}{p:EntV×Ent}(e:EnI w.heap ks p)(x:Ext No w w'):EnI w'.heap ks p:=⟨e.r.no x,e.v,e.k⟩
theorem EnI.mk'{ks:List (Sl×List Int)}{kS:Sl}{kb:List Int}{n:Int}{ch cd:Rf}(hk:Rd w.heap kS 1 (kb.map (Value.int .u8)))(k8:B8 kb)(hn:-9223372036854775808<=n/\n<=9223372036854775807)(h1:ch.ok)(h2:cd.ok)(hm:kb≠[]->∃ y∈ks,kS=y.1/\kb=y.2):EnI w.heap ks (⟨kS,⟨none,0,0⟩,n,ch,cd⟩,⟨kb,[],n,ch,cd⟩) :=
 ⟨⟨hk,Rd.nil _ _,rfl,rfl,rfl,k8,B8.nil,hn,h1,h2⟩,rfl,hm⟩
abbrev nCs(k lev:Int)(s:Sl):Obj := .cells [.int .u8 k, .int .u8 lev, .slice s.a s.len s.cap].toArray 39 (0,0)
structure NdI(w0 w:Wd)(x:PgI)(b b1 b2:Nat)(k:Int)(s:Sl)(N:List (EntV×Ent)):Prop where
 gb:w.heap[b]? = some (.cells x.cs.toArray 32 (0,0))
 g1:w.heap[b1]? = some (nCs 0 0 ⟨none,0,0⟩)
 g2:w.heap[b2]? = some (nCs k x.lev s)
 own:Own w.heap w0.heap.size 133 9 s (N.flatMap entCs)
 en:∀ p∈N,EnI w0.heap x.ks p
 ext:Ext No w0 w
theorem NdI.no{w0 w w':Wd}{x:PgI}{b b1 b2:Nat}{k:Int}{s:Sl}{N:List (EntV×Ent)}(d:NdI w0 w x b b1 b2 k s N)(e:Ext No w w'):NdI w0 w' x b b1 b2 k s N:=⟨get_no d.gb e,get_no d.g1 e,get_no d.g2 e,d.own.no e,d.en,d.ext.no e⟩
theorem nd_put{w0 w:Wd}{x:PgI}{b b1 b2 b3:Nat}{k:Int}{s:Sl}{N:List (EntV×Ent)}{p:EntV×Ent}{K:Wd->Prop}(d:NdI w0 w x b b1 b2 k s N)(h0:w0.heap.size<=b2)(hb:b≠b2/\b1≠b2)(g3:w.heap[b3]? = some (.cells p.1.cs.toArray 133 (0,0)))(hp:EnI w0.heap x.ks p)(hn:N.length<=1000)
  (kk:∀ s' w',NdI w0 w' x b b1 b2 k s' (N++[p])->K w') :
  ∃ vv_8:Sl,Cell w ((Addr.mk b2 0 none).add 2) (.slice vv_8.a vv_8.len vv_8.cap)/\∃ c:Sl,Cell w (Addr.mk b3 0 none) (.slice c.a c.len c.cap)/\∃ c_1:Sl,Cell w ((Addr.mk b3 0 none).add 1) (.slice c_1.a c_1.len c_1.cap)/\∃ c_2:Int,Cell w ((Addr.mk b3 0 none).add 2) (.int .i64 c_2)/\∃ c_3:Int,Cell w ((Addr.mk b3 0 none).add 3) (.int .u32 c_3)/\∃ c_4:Int,Cell w ((Addr.mk b3 0 none).add 4) (.int .u64 c_4)/\∃ c_5:Int,Cell w ((Addr.mk b3 0 none).add 5) (.int .u16 c_5)/\∃ c_6:Int,Cell w ((Addr.mk b3 0 none).add 6) (.int .u32 c_6)/\∃ c_7:Int,Cell w ((Addr.mk b3 0 none).add 7) (.int .u64 c_7)/\∃ c_8:Int,Cell w ((Addr.mk b3 0 none).add 8) (.int .u16 c_8) /\
   NewW w (.cells [.slice c.a c.len c.cap, .slice c_1.a c_1.len c_1.cap, .int .i64 c_2, .int .u32 c_3, .int .u64 c_4, .int .u16 c_5, .int .u32 c_6, .int .u64 c_7, .int .u16 c_8].toArray 133) fun b_4 w13=>AppW pz 37 37 vv_8 (.slice (some (Addr.mk b_4 0 none)) 1 1) (fun s w14=>St1 w14 ((Addr.mk b2 0 none).add 2) (.slice s.a s.len s.cap) fun w15=>K w15) w13:=by
 have sl:s.len=N.length:=by have:=d.own.len; rw [flat_len' (entCs_len N)] at this; omega
 refine ⟨_,Cell.lst d.g2 rfl,ent_read (x:=p.1) g3 (NewW.mk fun b4 w1 n1=>?_)⟩
 have d1:=d.no n1.ext
 have y0:=d.ext.size; have y1:=n1.ext.size
 have e1:Own w1.heap w.heap.size 133 9 ⟨some ⟨b4,0,none⟩,1,1⟩ (entCs p):=Own.new (n:=1) (sz:=9) n1 rfl (by intro v hv; simp only [entCs,EntV.cs,List.mem_cons,List.not_mem_nil,or_false] at hv; rcases hv with h | h | h | h | h | h | h | h | h <;> subst h <;> rfl)
 refine app_api_Entry d1.own (by omega) e1.rd.src (by show (s.len+1) * 104<=_; omega) fun s' w2 o2 _ x2 hbl=>?_
 have x2':Ext (fun q=>s.blk=some q) w1 w2:=x2
 have ne:∀{q l T f},w1.heap[q]? = some (.cells l T f)->(133:TypeId)≠T->¬ s.blk=some q:=fun g hT h=>own_ne d1.own g hT _ h rfl
 have g22:=get_ext d1.g2 x2' (ne d1.g2 (by decide))
 have gb2:=get_ext d1.gb x2' (ne d1.gb (by decide))
 have g12:=get_ext d1.g1 x2' (ne d1.g1 (by decide))
 refine St1.mk g22 (by show 2 < 3; decide) rfl fun w3 h3=>?_
 have x3:Ext (·=b2) w2 w3:=h3.ext
 have x02:Ext No w0 w2:=d1.ext.trans x2' fun q hq h=>by have:=(d1.own.lt h).1; omega
 have x03:Ext No w0 w3:=x02.trans x3 fun q hq h=>by omega
 have s'n:=own_ne o2 g22 (by decide)
 refine kk s' w3 ⟨get_ext gb2 x3 hb.1,get_ext g12 x3 hb.2,h3.get g22,?_,fun q hq=>?_,x03⟩
 .rw [List.flatMap_append]
  have e:[p].flatMap entCs=entCs p:=by simp
  rw [e]
  exact o2.ext x3 fun q hq h=>s'n q hq h
 .rcases List.mem_append.1 hq with h | h
  .exact d.en q h
  .rw [List.mem_singleton] at h; rw [h]; exact hp
set_option maxHeartbeats 4000000 in
theorem lawnode_spec{x:PgI}{all:Sl}{rs:List Rf}{K:Int->Int->Sl->Wd->Prop}(hx:PgIR w.heap x)(ha:Rd w.heap all 3 (rs.flatMap refCs))(hr:∀ r∈rs,r.ok)(h1:x.ks.length<=20)(h2:x.kd.length<=20)
  (k:∀ s (N:List (EntV×Ent)) w',Own w'.heap w.heap.size 133 9 s (N.flatMap entCs)->(∀ p∈N,EnI w.heap x.ks p)->N.length<=20->Ext No w w'->K (kindOf x.lev) x.lev s w'):C_law17_node x.lev x.keys x.kids x.lens x.piece x.bad x.size x.odd all w K:=by
 apply S_law17_node
 have lk:x.keys.len=x.ks.length:=by have:=hx.kR.len; simp at this; omega
 have ld:x.kids.len=x.kd.length:=by have:=hx.dR.len; simp at this; omega
 have ll:x.lens.len=x.ln.length:=by have:=hx.nR.len; simp at this; omega
 refine NewW.mk fun b w1 n1=>NewW.mk fun b1 w2 n2=>?_
 have e1:=n1.at_; have e2:=n2.at_; have z1:=n1.size; have z2:=n2.size
 have x02:=n1.ext.no n2.ext
 have gb2:w2.heap[b]? = some (.cells x.cs.toArray 32 (0,0)):=get_no n1.get n2.ext
 have g12:w2.heap[b1]? = some (nCs 0 0 ⟨none,0,0⟩):=n2.get
 refine ⟨_,Cell.lst gb2 rfl,new_set rfl rfl (by simp [oneC]) fun b2 w4 g4 hb2 z4 x4=>?_⟩
 have x04:=x02.no x4
 have gb4:=get_no gb2 x4
 have g14:=get_no g12 x4
 have lv:=hx.lv
 -- a key of what was told
 have key:∀{w':Wd}{j:Nat}{K:Addr->Prop},Ext No w w'->(hj:j < x.ks.length)->(∀ bo o,Cell w' ⟨bo,o,none⟩ (.slice x.ks[j].1.a x.ks[j].1.len x.ks[j].1.cap)->K ⟨bo,o,none⟩)->Ix x.keys.a x.keys.len (j:Nat) 1 K:=fun {w' j K} e hj kk =>
  Ix.cell (hx.kR.no e) (by omega) (by omega) fun bo o v _ hv hc=>by
   simp only [Int.toNat_natCast,List.getElem?_map,List.getElem?_eq_getElem hj,Option.map_some,Option.some.injEq] at hv
   subst hv
   exact kk bo o hc
 have kfit:∀{j:Nat}(hj:j < x.ks.length),Rd w.heap x.ks[j].1 1 (x.ks[j].2.map (Value.int .u8))/\B8 x.ks[j].2/\(x.ks[j].2≠[]->∃ y∈x.ks,x.ks[j].1=y.1/\x.ks[j].2=y.2):=fun {j} hj=>⟨(hx.kb _ (List.getElem_mem hj)).1,(hx.kb _ (List.getElem_mem hj)).2,fun _=>⟨_,List.getElem_mem hj,rfl,rfl⟩⟩
 have fin:∀{kd:Int}{s:Sl}{N:List (EntV×Ent)}{w6:Wd},kd=kindOf x.lev->NdI w w6 x b b1 b2 kd s N->N.length<=20->∃ c_9:Int,Cell w6 (Addr.mk b2 0 none) (.int .u8 c_9)/\∃ c_10:Int,Cell w6 ((Addr.mk b2 0 none).add 1) (.int .u8 c_10)/\∃ c_11:Sl,Cell w6 ((Addr.mk b2 0 none).add 2) (.slice c_11.a c_11.len c_11.cap)/\List.length (α:=Value) [.int .u8 c_9, .int .u8 c_10, .slice c_11.a c_11.len c_11.cap]=3/\StN w6 (Addr.mk b1 0 none) [.int .u8 c_9, .int .u8 c_10, .slice c_11.a c_11.len c_11.cap] fun w16 =>
   ∃ c_12:Int,Cell w16 (Addr.mk b1 0 none) (.int .u8 c_12)/\∃ c_13:Int,Cell w16 ((Addr.mk b1 0 none).add 1) (.int .u8 c_13)/\∃ c_14:Sl,Cell w16 ((Addr.mk b1 0 none).add 2) (.slice c_14.a c_14.len c_14.cap)/\K c_12 c_13 c_14 w16:=fun {kd s N w6} hkd d hn =>
  ⟨_,Cell.lst d.g2 rfl,_,Cell.lst d.g2 rfl,_,Cell.lst d.g2 rfl,st_all d.g1 rfl rfl (by simp [oneC]) fun w7 g7 x7 _=>⟨_,Cell.lst g7 rfl,_,Cell.lst g7 rfl,_,Cell.lst g7 rfl,by
   have x7':Ext (·=b1) w6 w7:=x7
   rw [hkd]
   exact k s N w7 (d.own.ext x7' (own_ne d.own d.g1 (by decide))) d.en hn (d.ext.trans x7' fun q hq h=>by omega)⟩⟩
 have hb12:b≠b2/\b1≠b2:=by omega
 refine ⟨_,Cell.lst gb4 rfl,If.dec (fun hp=>?_) fun hp=>?_⟩
 .refine St1.mk g4 (by show 0 < 3; decide) rfl fun w5 h5=>?_
  have x5:Ext (·=b2) w4 w5:=h5.ext
  have d5:NdI w w5 x b b1 b2 2 ⟨none,0,0⟩ []:=⟨get_ext gb4 x5 hb12.1,get_ext g14 x5 hb12.2,h5.get g4,Own.nil _ _ _ _,by simp,x04.trans x5 fun q hq h=>by omega⟩
  refine ⟨fun q i w'=>∃ (j:Nat) (s:Sl) (N:List (EntV×Ent)),i=j/\j<=x.kd.length/\q=x.kd.length - j/\N.length=j/\NdI w w' x b b1 b2 2 s N,⟨x.kd.length,0,_,[],rfl,by omega,by omega,rfl,d5⟩,?_⟩
  rintro _ m0 i w6 ⟨j,s,N,rfl,hj,hq,hN,d6⟩
  refine ⟨_,Cell.lst d6.gb rfl,If.dec (fun h=>?_) fun h=>fin (by unfold kindOf; rw [if_neg (by omega)]) d6 (by omega)⟩
  have hjl:j < x.kd.length:=by omega
  refine ⟨_,Cell.lst d6.gb rfl,Ix.int (hx.dR.no d6.ext) (by omega) h fun bo o _ hc=>⟨_,hc,kid_spec (ha.no d6.ext) fun w7 x7=>new_set rfl rfl (by simp [oneC]) fun b3 w9 g9 hb3 z9 x9=>?_⟩⟩
  have hrr:(kidR rs (x.kd.getD ((j:Nat):Int).toNat 0)).ok:=kidR_ok hr
  generalize kidR rs (x.kd.getD ((j:Nat):Int).toNat 0)=rr at *
  have d9:=(d6.no x7).no x9
  have y6:=d6.ext.size; have y7:=x7.size
  have b3n:b3≠b/\b3≠b1/\b3≠b2:=by have:=blt d6.gb; have:=blt d6.g1; have:=blt d6.g2; omega
  have nx:∀{w12:Wd}{p:EntV×Ent},w12.heap[b3]? = some (.cells p.1.cs.toArray 133 (0,0))->EnI w.heap x.ks p->NdI w w12 x b b1 b2 2 s N->_:=fun {w12 p} g hp d=>nd_put (K:=fun w15=>Ar .i64 ((j:Int)+1) fun z_2=>∃ m1,m1 < m0/\∃ (j:Nat) (s:Sl) (N:List (EntV×Ent)),z_2=j/\j<=x.kd.length/\m1=x.kd.length - j/\N.length=j/\NdI w w15 x b b1 b2 2 s N) d (by omega) hb12 g hp (by omega) fun s' w' d'=>Ar.i64 (by omega) ⟨x.kd.length - (j+1),by omega,j+1,s',N++[p],by omega,by omega,rfl,by simp [hN],d'⟩
  refine ⟨fun w'=>∃ p:EntV×Ent,w'.heap[b3]? = some (.cells p.1.cs.toArray 133 (0,0))/\EnI w.heap x.ks p/\NdI w w' x b b1 b2 2 s N,⟨fun t w'=>w'=w9/\(t=true->0 < j/\j - 1 < x.ks.length),If.dec (fun hi=>Ar.i64 (by omega) ⟨_,Cell.lst d9.gb rfl,rfl,fun ht=>by have:=of_decide_eq_true ht; omega⟩) fun hi=>⟨rfl,fun h=>by cases h⟩,?_⟩,?_⟩
  .rintro _ t w10 ⟨rfl,ht⟩
   refine If.cases (fun h=>?_) fun h=>⟨(⟨⟨none,0,0⟩,⟨none,0,0⟩,0, .z,rr⟩,⟨[],[],0, .z,rr⟩),g9,EnI.mk' (Rd.nil _ _) B8.nil (by decide) (by decide) hrr (fun h=>(h rfl).elim),d9⟩
   obtain ⟨hj0,hj1⟩:=ht h
   refine ⟨_,Cell.lst d9.gb rfl,Ar.i64 (by omega) ?_⟩
   rw [show ((j:Nat):Int) - 1=((j - 1:Nat):Int) by omega]
   obtain ⟨f1,f2,f3⟩:=kfit hj1
   refine key d9.ext hj1 fun bo o hc=>⟨_,hc,St1.mk g9 (by show 0 < 9; decide) rfl fun w11 h11=>?_⟩
   have x11:Ext (·=b3) w10 w11:=h11.ext
   exact ⟨(⟨x.ks[j - 1].1,⟨none,0,0⟩,0, .z,rr⟩,⟨x.ks[j - 1].2,[],0, .z,rr⟩),h11.get g9,EnI.mk' f1 f2 (by decide) (by decide) hrr f3,⟨get_ext d9.gb x11 (by omega),get_ext d9.g1 x11 (by omega),get_ext d9.g2 x11 (by omega),d9.own.ext x11 fun q hq h=>by have:=(d6.own.lt hq).2; omega,d9.en,d9.ext.trans x11 fun q hq h=>by omega⟩⟩
  rintro _ w12 ⟨p,g,hp,d⟩
  exact nx g hp d
 .refine ⟨fun q i w'=>∃ (j:Nat) (s:Sl) (N:List (EntV×Ent)),i=j/\j<=x.ks.length/\q=x.ks.length - j/\N.length=j/\NdI w w' x b b1 b2 1 s N,⟨x.ks.length,0,⟨none,0,0⟩,[],rfl,by omega,by omega,rfl,gb4,g14,g4,Own.nil _ _ _ _,by simp,x04⟩,?_⟩
  rintro _ m0 i w6 ⟨j,s,N,rfl,hj,hq,hN,d6⟩
  refine ⟨_,Cell.lst d6.gb rfl,If.dec (fun h=>?_) fun h=>fin (by unfold kindOf; rw [if_pos (by omega)]) d6 (by omega)⟩
  have hjl:j < x.ks.length:=by omega
  obtain ⟨f1,f2,f3⟩:=kfit hjl
  refine ⟨_,Cell.lst d6.gb rfl,key d6.ext hjl fun bo o hc=>⟨_,hc,new_set rfl rfl (by simp [oneC]) fun b3 w9 g9 hb3 z9 x9=>?_⟩⟩
  have d9:=d6.no x9
  have y6:=d6.ext.size
  have l1:=blt d6.gb; have l2:=blt d6.g1; have l3:=blt d6.g2
  have nx:∀{w12:Wd}{p:EntV×Ent},w12.heap[b3]? = some (.cells p.1.cs.toArray 133 (0,0))->EnI w.heap x.ks p->NdI w w12 x b b1 b2 1 s N->_:=fun {w12 p} g hp d=>nd_put (K:=fun w15=>Ar .i64 ((j:Int)+1) fun z_2=>∃ m1,m1 < m0/\∃ (j:Nat) (s:Sl) (N:List (EntV×Ent)),z_2=j/\j<=x.ks.length/\m1=x.ks.length - j/\N.length=j/\NdI w w15 x b b1 b2 1 s N) d (by omega) hb12 g hp (by omega) fun s' w' d'=>Ar.i64 (by omega) ⟨x.ks.length - (j+1),by omega,j+1,s',N++[p],by omega,by omega,rfl,by simp [hN],d'⟩
  refine ⟨fun w'=>∃ p:EntV×Ent,w'.heap[b3]? = some (.cells p.1.cs.toArray 133 (0,0))/\EnI w.heap x.ks p/\NdI w w' x b b1 b2 1 s N,⟨fun t w'=>Ext No w9 w'/\(t=true->j < x.kd.length/\j < x.ln.length),⟨_,Cell.lst d9.gb rfl,If.dec (fun hi=>⟨_,Cell.lst d9.gb rfl,If.dec (fun hi2=>⟨_,Cell.lst d9.gb rfl,Ix.int (hx.dR.no d9.ext) (by omega) hi fun bo o _ hc=>⟨_,hc,kid_spec (ha.no d9.ext) fun w7 x7=>⟨x7,fun _=>by omega⟩⟩⟩) fun hi2=>⟨Ext.refl _ _,fun h=>by cases h⟩⟩) fun hi=>⟨Ext.refl _ _,fun h=>by cases h⟩⟩,?_⟩,?_⟩
  .rintro _ t w10 ⟨x10,ht⟩
   have d10:=d9.no x10
   have g10:=get_no g9 x10
   refine If.cases (fun h=>?_) fun h=>⟨(⟨x.ks[j].1,⟨none,0,0⟩,0, .z, .z⟩,⟨x.ks[j].2,[],0, .z, .z⟩),g10,EnI.mk' f1 f2 (by decide) (by decide) (by decide) f3,d10⟩
   obtain ⟨hj0,hj1⟩:=ht h
   refine ⟨_,Cell.lst d10.gb rfl,Ix.int (hx.dR.no d10.ext) (by omega) (by omega) fun bo o _ hc=>⟨_,hc,kid_spec (ha.no d10.ext) fun w7 x7=>?_⟩⟩
   have hrr:(kidR rs (x.kd.getD ((j:Nat):Int).toNat 0)).ok:=kidR_ok hr
   generalize kidR rs (x.kd.getD ((j:Nat):Int).toNat 0)=rr at *
   have d7:=d10.no x7
   refine st_part (get_no g10 x7) rfl (by show 3+3<=9; decide) (by simp [oneC]) fun w11 g11 x11 z11=>?_
   have x11':Ext (·=b3) w7 w11:=x11
   have d11:NdI w w11 x b b1 b2 1 s N:=⟨get_ext d7.gb x11' (by omega),get_ext d7.g1 x11' (by omega),get_ext d7.g2 x11' (by omega),d7.own.ext x11' fun q hq h=>by have:=(d6.own.lt hq).2; omega,d7.en,d7.ext.trans x11' fun q hq h=>by omega⟩
   refine ⟨_,Cell.lst d11.gb rfl,Ix.int (hx.nR.no d11.ext) (by omega) (by omega) fun bo o _ hc=>⟨_,hc,St1.mk g11 (by show 2 < 9; decide) rfl fun w12 h12=>?_⟩⟩
   have x12:Ext (·=b3) w11 w12:=h12.ext
   have hln:-9223372036854775808<=x.ln.getD ((j:Nat):Int).toNat 0/\x.ln.getD ((j:Nat):Int).toNat 0<=9223372036854775807:=by
    have e:x.ln.getD ((j:Nat):Int).toNat 0=x.ln[j]:=by simp [List.getD,hj1]
    rw [e]; exact hx.n64 _ (List.getElem_mem hj1)
   generalize x.ln.getD ((j:Nat):Int).toNat 0=nn at *
   exact ⟨(⟨x.ks[j].1,⟨none,0,0⟩,nn,rr, .z⟩,⟨x.ks[j].2,[],nn,rr, .z⟩),h12.get g11,EnI.mk' f1 f2 hln hrr (by decide) f3,⟨get_ext d11.gb x12 (by omega),get_ext d11.g1 x12 (by omega),get_ext d11.g2 x12 (by omega),d11.own.ext x12 fun q hq h=>by have:=(d6.own.lt hq).2; omega,d11.en,d11.ext.trans x12 fun q hq h=>by omega⟩⟩
  rintro _ w12 ⟨p,g,hp,d⟩
  exact nx g hp d
end
end Go.Proofs.YtcamoanigdfihaaGreat
namespace Go.V
open Go.Proofs.YtcamoanigdfihaaGreat
def PgD.good(p:PgD):List Int:=if p.piece then chB (List.replicate p.size 0) p.next else pad (wr (kindOf p.lev) p.lev p.l)
structure WrI(w0 w:Wd)(x:PgI)(b b1 b2:Nat)(y:PgE):Prop where
 gb:w.heap[b]? = some (.cells x.cs.toArray 32 (0,0))
 g1:w.heap[b1]? = some (.cells (PgE.cs .z).toArray 42 (0,0))
 g2:w.heap[b2]? = some (.cells y.cs.toArray 42 (0,0))
 ext:Ext No w0 w
theorem WrI.no{w0 w w':Wd}{x:PgI}{b b1 b2:Nat}{y:PgE}(d:WrI w0 w x b b1 b2 y)(e:Ext No w w'):WrI w0 w' x b b1 b2 y:=⟨get_no d.gb e,get_no d.g1 e,get_no d.g2 e,d.ext.no e⟩
theorem WrI.set{Z:Nat->Prop}{w0 w w':Wd}{x:PgI}{b b1 b2:Nat}{y y':PgE}(d:WrI w0 w x b b1 b2 y)(e:Ext Z w w')(h1:¬ Z b)(h2:¬ Z b1)(g:w'.heap[b2]? = some (.cells y'.cs.toArray 42 (0,0)))(h3:∀ q,q < w0.heap.size->¬ Z q):WrI w0 w' x b b1 b2 y':=⟨get_ext d.gb e h1,get_ext d.g1 e h2,g,d.ext.trans e fun q hq h=>h3 q hq h⟩
structure PgG(w0 w:Wd)(x:PgI)(y:PgE):Prop where
 pc:y.d.piece=true->(1<=y.d.size/\y.d.size<=208)/\y.d.next.ok/\y.d.lev=0/\y.d.l=[]
 nd:y.d.piece=false->RightP (kindOf y.d.lev) y.d.lev y.d.l/\(wr (kindOf y.d.lev) y.d.lev y.d.l).length<=224
 own:Own w.heap w0.heap.size 133 9 y.ns (y.N.flatMap entCs)
 en:∀ p∈y.N,EnI w0.heap x.ks p
 el:ents y.N=y.d.l
 sz:y.bs.len=y.d.size
 nk:y.nk=if y.d.piece then 0 else kindOf y.d.lev
 bad:y.d.bad=x.bad
theorem PgG.ext{Z:Nat->Prop}{w0 w w':Wd}{x:PgI}{y:PgE}(g:PgG w0 w x y)(e:Ext Z w w')(h:∀ q,y.ns.blk=some q->¬ Z q):PgG w0 w' x y:=⟨g.pc,g.nd,g.own.ext e h,g.en,g.el,g.sz,g.nk,g.bad⟩
end Go.V
namespace Go.Proofs.YtcamoanigdfihaaGreat
open Go.V
theorem own_two{h:Array Obj}{b1 b2:Nat}{e1 e2:TypeId}{z1 z2:Nat}{s1 s2:Sl}{c1 c2:List Value}(o1:Own h b1 e1 z1 s1 c1)(o2:Own h b2 e2 z2 s2 c2)(he:e1≠e2):∀ b,s1.blk=some b->s2.blk≠some b:=fun b h1 h2=>by
 rcases o2.is with ⟨rfl,_⟩ | ⟨q2,r2,a2,_,g2,_⟩
 .simp [Sl.blk] at h2
 .simp [Sl.blk,a2] at h2
  exact own_ne o1 g2 he b h1 h2.symm
theorem rd_nil'{h h':Array Obj}{s:Sl}{sz:Nat}{l:List Value}(r:Rd h s sz l)(e:l=[]):Rd h' s sz l:=by
 subst e
 exact ⟨r.len,r.cap,fun h=>(h rfl).elim,by simp⟩
theorem EnI.re{h h':Array Obj}{ks:List (Sl×List Int)}{p:EntV×Ent}(e:EnI h ks p)(hk:∀ y∈ks,Rd h' y.1 1 (y.2.map (Value.int .u8))):EnI h' ks p:=by
 refine ⟨⟨?_,rd_nil' e.r.v (by rw [e.v]; rfl),e.r.n,e.r.ch,e.r.cd,e.r.k8,e.r.v8,e.r.n64,e.r.cho,e.r.cdo⟩,e.v,e.k⟩
 by_cases hne:p.2.key=[]
 .exact rd_nil' e.r.k (by rw [hne]; rfl)
 .obtain ⟨y,hy,h1,h2⟩:=e.k hne
  rw [h1,h2]; exact hk y hy
theorem rep_u8(n:Nat):(List.replicate n [Value.int .u8 0]).flatten=(List.replicate n (0:Int)).map (Value.int .u8):=by simp
theorem set_rep{l:List Int}{j:Nat}(h:j < l.length):(List.replicate j (255:Int)++l.drop j).set j 255=List.replicate (j+1) 255++l.drop (j+1):=by
 rw [List.set_append_right _ _ (by simp),List.length_replicate,Nat.sub_self,List.drop_eq_getElem_cons h,List.set_cons_zero,List.replicate_succ',List.append_assoc]
 rfl
theorem good_len{w0 w:Wd}{x:PgI}{y:PgE}(g:PgG w0 w x y):y.d.good.length=224:=by
 unfold PgD.good
 cases hp:y.d.piece
 .exact pad_len (g.nd hp).2
 .exact chB_len (by simpa using (g.pc hp).1.2)
theorem good_b8{w0 w:Wd}{x:PgI}{y:PgE}(g:PgG w0 w x y)(hl:0<=y.d.lev/\y.d.lev<=255):B8 y.d.good:=by
 unfold PgD.good
 cases hp:y.d.piece
 .refine pad_b8 (wr_b8 ?_ hl fun e he=>?_)
  .unfold kindOf; split <;> omega
  .rw [<- g.el] at he
   obtain ⟨p,hp,rfl⟩:=List.mem_map.1 he
   exact ⟨(g.en p hp).r.k8,(g.en p hp).r.v8⟩
 .exact chB_b8 fun z hz=>by rw [List.eq_of_mem_replicate hz]; decide
section
variable {w:Wd} {T:Nat->Option Nat} {m:MemV} {M:Mm}
set_option maxHeartbeats 4000000 in
theorem written_spec{x:PgI}{all:Sl}{rs:List Rf}{K:Int->Int->Int->Int->Int->Sl->Bool->Sl->Int->Int->Int->Bool->Bool->Wd->Prop}(R:MemR w.heap T m M)(hM:M.pages.length<=1000)(hx:PgIR w.heap x)(ha:Rd w.heap all 3 (rs.flatMap refCs))(hr:∀ r∈rs,r.ok)(h1:x.ks.length<=20)(h2:x.kd.length<=20)
  (k0:∀ y w',Ext No w w'->pgK K y false w')
  (k1:∀(y:PgE) T' m' M' w',PgG w w' x y->y.d.r=⟨y.d.r.p,M.commit,M.gen⟩->2<=y.d.r.p/\y.d.r.p<=10000->M'.pages=M.pages++[y.d.pg]->M'.commit=M.commit->M'.gen=M.gen->MemR w'.heap T' m' M'->m'.bm=m.bm->Tg w T T'->(∀ q,y.ns.blk=some q->T' q=none)->Ext (Ts T) w w'->pgK K y true w'):C_law17_written (some ⟨m.bm,0,none⟩) x.lev x.keys x.kids x.lens x.piece x.bad x.size x.odd all w K:=by
 apply S_law17_written
 have ld:x.kids.len=x.kd.length:=by have:=hx.dR.len; simp at this; omega
 have lv:=hx.lv
 refine NewW.mk fun b w1 n1=>NewW.mk fun b1 w2 n2=>?_
 have e1:=n1.at_; have e2:=n2.at_; have z1:=n1.size; have z2:=n2.size
 have x02:=n1.ext.no n2.ext
 have gb2:w2.heap[b]? = some (.cells x.cs.toArray 32 (0,0)):=get_no n1.get n2.ext
 refine ⟨_,Cell.lst gb2 rfl,_,Cell.lst gb2 rfl,new_set (vs:=PgE.cs ⟨⟨.z,0,[],x.piece,0, .z,x.bad⟩,0,⟨none,0,0⟩,[],⟨none,0,0⟩⟩) rfl rfl (PgE.one _) fun b2 w4 g4 hb2 z4 x4=>?_⟩
 have d4:WrI w w4 x b b1 b2 ⟨⟨.z,0,[],x.piece,0, .z,x.bad⟩,0,⟨none,0,0⟩,[],⟨none,0,0⟩⟩:=⟨get_no gb2 x4,get_no n2.get x4,g4,x02.no x4⟩
 have hbb:b≠b2/\b1≠b2/\b≠b1/\w.heap.size<=b/\w.heap.size<=b1/\w.heap.size<=b2:=by omega
 refine ⟨fun kind level bS ev w'=>∃ y:PgE,WrI w w' x b b1 b2 y/\(ev≠0∨ev=0/\y.d.r = .z/\PgG w w' x y/\kind=y.d.kind/\level=y.d.v/\OwnB w'.heap w.heap.size bS y.d.good),⟨_,Cell.lst d4.gb rfl,?_⟩,?_⟩
 .cases hp:x.piece
  .rw [hp] at d4
   refine If.no ⟨_,Cell.lst d4.gb rfl,_,Cell.lst d4.gb rfl,_,Cell.lst d4.gb rfl,_,Cell.lst d4.gb rfl,_,Cell.lst d4.gb rfl,_,Cell.lst d4.gb rfl,_,Cell.lst d4.gb rfl,_,Cell.lst d4.gb rfl,?_⟩
   refine lawnode_spec (hx.no d4.ext) (ha.no d4.ext) hr h1 h2 fun s N w11 o11 en hN x11=>?_
   have d11:=d4.no x11
   have y4:=d4.ext.size
   have en0:∀ p∈N,EnI w.heap x.ks p:=fun p hp=>(en p hp).re fun y hy=>(hx.kb y hy).1
   refine st_part d11.g2 rfl (by show 3+3<=12; decide) (by simp [oneC]) fun w12 g12 x12 z12=>?_
   have x12':Ext (·=b2) w11 w12:=x12
   have d12:WrI w w12 x b b1 b2 ⟨⟨.z,x.lev,ents N,false,0, .z,x.bad⟩,kindOf x.lev,s,N,⟨none,0,0⟩⟩:=d11.set x12' (by omega) (by omega) g12 (fun q hq h=>by omega)
   have xd:Ext No w12 (drewW w12):=(Ext.refl No w12).drew
   have o12:=o11.ext x12' (own_ne o11 d11.g2 (by decide))
   have od:=o12.no xd
   have dd:=d12.no xd
   refine ⟨Ext No w12,xd,_,Held.cell (Cell.lst d12.g2 rfl),_,Held.cell (Cell.lst d12.gb rfl),_,Cell.lst dd.g2 rfl,_,Cell.lst dd.g2 rfl,_,Cell.lst dd.g2 rfl,?_⟩
   refine encode_spec (w:=drewW w12) (L:=N) ⟨od.rd,fun p hp=>((en0 p hp).no dd.ext).r⟩ (by omega) (fun t w13 hri hsh o13 x13=>⟨_,dd.no x13, .inr ⟨rfl,rfl,⟨(fun h=>by cases h),fun _=>⟨hri,hsh⟩,(od.no x13).mono (by omega),en0,rfl,rfl,rfl,rfl⟩,rfl,rfl,o13.mono (by have:=d12.ext.size; exact this)⟩⟩) fun c w13 _ hc x13=>⟨_,dd.no x13, .inl hc⟩
  .rw [hp] at d4
   refine If.yes ⟨fun t w'=>w'=w4/\(t=true->1<=x.size/\x.size<=208/\0 < x.kd.length),⟨_,Cell.lst d4.gb rfl,If.dec (fun a1=>⟨_,Cell.lst d4.gb rfl,If.dec (fun a2=>⟨_,Cell.lst d4.gb rfl,rfl,fun ht=>by have:=of_decide_eq_true ht; omega⟩) fun _=>⟨rfl,fun h=>by cases h⟩⟩) fun _=>⟨rfl,fun h=>by cases h⟩⟩,?_⟩
   rintro _ t w5 ⟨rfl,ht⟩
   refine If.cases (fun h=>?_) fun h=>⟨_,d4, .inl (by decide)⟩
   obtain ⟨s1,s2,s3⟩:=ht h
   refine ⟨_,Cell.lst d4.gb rfl,MkW.mk (by omega) (Int.le_refl _) (by omega) (by omega) fun bm w6 n6=>?_⟩
   have om:Own w6.heap w5.heap.size 5 1 ⟨some ⟨bm,0,none⟩,x.size.toNat,x.size.toNat⟩ (List.replicate x.size.toNat [Value.int .u8 0]).flatten:=Own.make n6 (Nat.le_refl _) (by simp [oneC])
   have hbm:=n6.at_; have z6:=n6.size; have y5:=d4.ext.size
   have l1:=blt d4.gb; have l2:=blt d4.g1; have l3:=blt d4.g2
   have d6:=d4.no n6.ext
   refine St1.mk d6.g2 (by show 7 < 12; decide) rfl fun w7 h7=>?_
   have x7:Ext (·=b2) w6 w7:=h7.ext
   have d7:WrI w w7 x b b1 b2 ⟨⟨.z,0,[],true,x.size.toNat, .z,x.bad⟩,0,⟨none,0,0⟩,[],⟨some ⟨bm,0,none⟩,x.size.toNat,x.size.toNat⟩⟩:=d6.set x7 (by omega) (by omega) (h7.get d6.g2) (fun q hq h=>by omega)
   have om7:=om.ext x7 (own_ne om d6.g2 (by decide))
   refine ⟨_,Cell.lst d7.gb rfl,Ix.int (hx.dR.no d7.ext) (Int.le_refl 0) (by omega) fun bo o _ hc=>⟨_,hc,kid_spec (ha.no d7.ext) fun w8 x8=>?_⟩⟩
   have hrr:(kidR rs (x.kd.getD (0:Int).toNat 0)).ok:=kidR_ok hr
   generalize kidR rs (x.kd.getD (0:Int).toNat 0)=rr at *
   have d8:=d7.no x8
   have om8:=om7.no x8
   refine st_part d8.g2 rfl (by show 8+3<=12; decide) (by simp [oneC]) fun w9 g9 x9 z9=>?_
   have x9':Ext (·=b2) w8 w9:=x9
   have d9:WrI w w9 x b b1 b2 ⟨⟨.z,0,[],true,x.size.toNat,rr,x.bad⟩,0,⟨none,0,0⟩,[],⟨some ⟨bm,0,none⟩,x.size.toNat,x.size.toNat⟩⟩:=d8.set x9' (by omega) (by omega) g9 (fun q hq h=>by omega)
   have om9:=om8.ext x9' (own_ne om8 d8.g2 (by decide))
   rw [rep_u8] at om9
   refine ⟨_,Cell.lst d9.g2 rfl,_,Cell.lst d9.g2 rfl,_,Cell.lst d9.g2 rfl,_,Cell.lst d9.g2 rfl,page_spec (piece:=List.replicate x.size.toNat 0) om9.rd (by simp; omega) (by simp; omega) hrr fun t w10 o10 x10=>?_⟩
   exact ⟨_,d9.no x10, .inr ⟨rfl,rfl,⟨fun _=>⟨(by show 1<=x.size.toNat/\x.size.toNat<=208; omega),hrr,rfl,rfl⟩,(fun h=>by cases h),Own.nil _ _ _ _,by simp,rfl,rfl,rfl,rfl⟩,rfl,rfl,o10.mono (by have:=d9.ext.size; exact this)⟩⟩
 rintro _ kind level bS ev w14 ⟨y,d14,hcase⟩
 refine If.bne (fun hev=>?_) fun hev=>?_
 .refine pg_read (x:=y) d14.g2 (st_all d14.g1 rfl rfl (PgE.one y) fun w15 g15 x15 _=>pg_read (x:=y) g15 (k0 y w15 ?_))
  exact d14.ext.trans x15 fun q hq h=>by omega
 obtain ⟨_,hr0,G,hk,hlv,o14⟩:=hcase.resolve_left fun h=>h hev
 have gl:=good_len G
 refine ⟨fun w'=>∃ l,OwnB w'.heap w.heap.size bS l/\l=(if x.bad then List.replicate 224 255 else y.d.good)/\WrI w w' x b b1 b2 y/\PgG w w' x y,⟨_,Cell.lst d14.gb rfl,If.cases (fun hb=>?_) fun hb=>⟨_,o14,by rw [hb]; rfl,d14,G⟩⟩,?_⟩
 .refine ⟨fun q i w'=>∃ j:Nat,i=j/\j<=224/\q=224 - j/\OwnB w'.heap w.heap.size bS (List.replicate j 255++y.d.good.drop j)/\WrI w w' x b b1 b2 y/\PgG w w' x y,⟨224,0,rfl,by omega,by omega,by simpa using o14,d14,G⟩,?_⟩
  rintro _ m0 i w16 ⟨j,rfl,hj,hq,o16,d16,G16⟩
  have hbl:bS.len=224:=by have:=OwnB.len o16; simp at this; omega
  refine If.dec (fun h=>?_) fun h=>⟨_,o16,by rw [hb,if_pos rfl,List.drop_of_length_le (by omega),show j=224 by omega,List.append_nil],d16,G16⟩
  refine St1.own o16 (by omega) h rfl fun w17 o17 x17 z17=>Ar.i64 (by omega) ⟨224 - (j+1),by omega,j+1,by omega,by omega,rfl,?_,⟨get_ext d16.gb x17 fun h=>own_ne o16 d16.gb (by decide) _ h rfl,get_ext d16.g1 x17 fun h=>own_ne o16 d16.g1 (by decide) _ h rfl,get_ext d16.g2 x17 fun h=>own_ne o16 d16.g2 (by decide) _ h rfl,d16.ext.trans x17 fun q hq h=>by have:=(o16.lt h).1; omega⟩,G16.ext x17 fun q h1 h2=>own_two G16.own o16 (by decide) q h1 h2⟩
  have e:((List.replicate j (255:Int)++y.d.good.drop j).map (Value.int .u8)).set ((j:Nat):Int).toNat (.int .u8 255)=(List.replicate (j+1) (255:Int)++y.d.good.drop (j+1)).map (Value.int .u8):=by
   rw [<- set_rep (by omega),List.map_set,Int.toNat_natCast]
  rw [e] at o17; exact o17
 rintro _ w18 ⟨l,o18,hl,d18,G18⟩
 have hlev:0<=y.d.lev/\y.d.lev<=255:=by
  cases hpp:y.d.piece
  .have:=(G.nd hpp).1.shape
   unfold shapeP at this; omega
  .have:=(G.pc hpp).2.2.1; omega
 have l8:B8 l:=by
  rw [hl]; split
  .exact bad8
  .exact good_b8 G hlev
 have hlpay:∀ r,PgD.pay { y.d with r:=r }=l:=fun r=>by
  rw [hl]
  unfold PgD.pay PgD.good
  simp only [G.bad]
 have y18:=d18.ext.size
 have R18:=R.no d18.ext
 have sup:∀ q,w.heap.size<=q->T q=none:=fun q hq=>R.supT hq
 have nT:∀{q},w.heap.size<=q->¬ Ts T q:=fun h h'=>h' (sup _ h)
 refine memPut_spec R18 o18.rd l8 (by omega) (fun n T' m' w19 _ hfree R19 hbm htg x19=>?_) fun w19 hne _=>?_
 rotate_left
 .exfalso; apply hne; rw [hl]; split
  .simp
  .exact gl
 have y19:=x19.size
 have g219:=get_ext d18.g2 x19 (nT (by omega))
 have g119:=get_ext d18.g1 x19 (nT (by omega))
 refine new_set rfl rfl (by simp [oneC]) fun b4 w21 g21 hb4 z21 x21=>⟨_,Cell.lst g21 rfl,_,Cell.lst g21 rfl,_,Cell.lst g21 rfl,st_part (off:=0) (get_no g219 x21) rfl (by show 0+3<=12; decide) (by simp [oneC]) fun w22 g22 x22 z22=>?_⟩
 have x22':Ext (·=b2) w21 w22:=x22
 have g22':w22.heap[b2]? = some (.cells (PgE.cs { y with d:={ y.d with r:=⟨n,M.commit,M.gen⟩ } }).toArray 42 (0,0)):=g22
 refine pg_read (x:={ y with d:={ y.d with r:=⟨n,M.commit,M.gen⟩ } }) g22' (st_all (get_ext (get_no g119 x21) x22' (by omega)) rfl rfl (PgE.one _) fun w23 g23 x23 _=>pg_read (x:={ y with d:={ y.d with r:=⟨n,M.commit,M.gen⟩ } }) g23 ?_)
 have x23':Ext (·=b1) w22 w23:=x23
 have x18:Ext (fun q=>Ts T q∨q=b2∨q=b1) w18 w23:=(((x19.mono fun q _ h=>Or.inl h).no x21).trans x22' fun q _ h => .inr (.inl h)).trans x23' fun q _ h => .inr (.inr h)
 have nsn:∀ q,y.ns.blk=some q->w.heap.size<=q/\q < w18.heap.size:=fun q hq=>G18.own.lt hq
 have G23:PgG w w23 x y:=G18.ext x18 fun q hq h=>by
  have:=nsn q hq
  rcases h with h | h | h
  .exact nT this.1 h
  .exact own_ne G18.own d18.g2 (by decide) q hq h
  .exact own_ne G18.own d18.g1 (by decide) q hq h
 have hle:=IsFree.le (n:=n) hfree.all hfree.lo
 have R23:MemR w23.heap T' m' { M with pages:=M.pages++[(n,⟨5,kind,level,⟨n,M.commit,M.gen⟩,l,false⟩)] }:=((R19.no x21).ext x22' fun q hq=>by rw [hq]; exact (htg b2 (blt d18.g2)).trans (sup b2 (by omega))).ext x23' fun q hq=>by rw [hq]; exact (htg b1 (blt d18.g1)).trans (sup b1 (by omega))
 refine k1 { y with d:={ y.d with r:=⟨n,M.commit,M.gen⟩ } } T' m' { M with pages:=M.pages++[(n,⟨5,kind,level,⟨n,M.commit,M.gen⟩,l,false⟩)] } w23 ⟨G23.pc,G23.nd,G23.own,G23.en,G23.el,G23.sz,G23.nk,G23.bad⟩ rfl ⟨hfree.lo,by show n<=10000; omega⟩ ?_ rfl rfl R23 hbm (fun q hq=>htg q (by omega)) (fun q hq=>(htg q (nsn q hq).2).trans (sup q (nsn q hq).1)) (d18.ext.of_no.trans x18 fun q hq h=>?_)
 .show M.pages++[_]=M.pages++[_]
  congr 2
  unfold PgD.pg
  rw [hlpay,hk,hlv]
  rfl
 .rcases h with h | h | h
  .exact h
  .omega
  .omega
end
section
variable {w:Wd} {T:Nat->Option Nat} {m:MemV} {M:Mm}
end
section
variable {w:Wd} {T:Nat->Option Nat} {m:MemV} {M:Mm}
theorem wnode_form{t:Int}{r:Rf}{lev:Nat}{l:List Ent}{bw sr kn pn cn:Nat}{S:List Rf}{b0 b1:Sl}{K:Wd->Prop}{X:PX}(R:MemR w.heap T m M)(W:WkR w.heap m t bw sr S kn pn cn)(hb:T bw=none/\T sr=none/\bw≠sr)(hN:NodeAt M.f t (kindOf lev) lev r l)(hl:l.length < if lev=0 then 1 else 2)(hn:r ∉ S)(hp:pn<=1000000000)
    (kx:∀ b w',w'.heap[b]? = some (.cells [.int .i64 5, .int .u32 r.p, .int .u64 r.c, .int .u16 r.g].toArray 143 (0,0))->w.heap.size<=b->Ext (fun q=>q=bw∨q=sr) w w'->X [{ v := .iface 141 (.pointer (some ⟨b,0,none⟩)),recovered:=false }] w'):C_sound_walk_node (some ⟨bw,0,none⟩) r.p r.c r.g lev b0 b1 w K X:=by
  apply S_sound_walk_node
  refine NewW.mk fun b w1 n1=>NewW.mk fun b1' w2 n2=>?_
  have e1:=n1.at_; have e2:=n2.at_; have z1:=n1.size; have z2:=n2.size
  have x02:=n1.ext.no n2.ext
  have g12:=get_no n1.get n2.ext
  have lt:=W.lt
  refine ⟨fun kind least w'=>kind=kindOf lev/\least=(if lev=0 then 1 else 2:Nat)/\w'=w2,⟨_,Cell.lst g12 rfl,If.dec (fun h=>⟨by unfold kindOf; rw [if_neg (by omega)],by rw [if_neg (by omega)]; rfl,rfl⟩) fun h=>⟨by unfold kindOf; rw [if_pos (by omega)],by rw [if_pos (by omega)]; rfl,rfl⟩⟩,?_⟩
  rintro _ kind least w3 ⟨rfl,rfl,rfl⟩
  refine ⟨_,Cell.lst g12 rfl,_,Cell.lst g12 rfl,_,Cell.lst g12 rfl,_,Cell.lst g12 rfl,?_⟩
  refine wpage_spec (R.no x02) (W.no x02) hb hN.at_ hn (by omega) fun s w4 o4 W4 x4=>?_
  have y4:=x4.size
  have p8:B8 (pad (wr (kindOf lev) lev l)):=by
    obtain ⟨pg,h1,h2,h3,h4,h5,h6⟩:=hN.at_
    rw [<- h6]; exact (R.find h1).p8
  refine decode_ok o4.rd hN.right hN.short p8 (fun e he=>(hN.ok e he).1) fun s5 N5 w5 o5 eL x5=>new_set rfl rfl (by simp [oneC]) fun b2 w7 g7 hb2 z7 x7=>?_
  have x57:=x5.no x7
  have y5:=x5.size; have y7:=x7.size
  have g17:=get_no (get_ext g12 x4 (by omega)) x57
  have nd7:=(o5.no x7).nd
  have hsl:s5.len=l.length:=by have:=nd7.len; have:=ents_len eL; omega
  refine ⟨fun _=>False,⟨fun tt w'=>tt=true/\w'=w7,If.bne (fun h=>(h rfl).elim) fun _=>⟨_,Cell.lst g7 rfl,If.bne (fun h=>(h rfl).elim) fun _=>⟨_,Cell.lst g7 rfl,_,Cell.lst g17 rfl,If.bne (fun h=>(h rfl).elim) fun _=>⟨_,Cell.lst g7 rfl,decide_eq_true (by omega),rfl⟩⟩⟩,?_⟩,fun _ _ h=>h.elim⟩
  rintro _ tt w8 ⟨rfl,rfl⟩
  refine If.yes ⟨_,Cell.lst g17 rfl,_,Cell.lst g17 rfl,_,Cell.lst g17 rfl,NewW.mk fun b3 w9 n9=>kx b3 w9 n9.get ?_ (((x02.of_no.trans x4 fun _ _ h=>h).no x57).no n9.ext)⟩
  have:=n9.at_; omega
theorem one_right{r:Rf}(hr:r ≠ .z):RightP 2 1 [⟨[],[],0, .z,r⟩]/\(wr 2 1 [⟨[],[],0, .z,r⟩]).length<=224:=by
 refine ⟨⟨.inr ⟨rfl,by decide,by decide⟩,fun _=>by simp,fun i hi=>?_,fun i hi=>?_⟩,?_⟩
 .simp only [List.length_cons,List.length_nil] at hi
  have:i=0:=by omega
  subst this
  exact ⟨by unfold keyP; rw [if_pos ⟨rfl,rfl⟩]; rfl,by rw [if_pos rfl]; exact ⟨hr,rfl,rfl,rfl⟩⟩
 .simp at hi
 .simp [wr,wrE,refB_len]
set_option maxHeartbeats 1000000 in
theorem known17{K:Bool->Wd->Prop}(k:∀ w',Ext No w w'->K true w'):C_law17_known w K:=by
 apply S_law17_known
 refine newMem_spec (by omega) fun T m w1 R1 hT x1=>lit1 fun c1 w2 r1 hc1 hl1 x2=>lit1 fun c2 w3 r2 hc2 hl2 x3=>NewW.mk fun b5 w12 n12=>?_
 have sup:∀ q,w1.heap.size<=q->T q=none:=fun q hq=>R1.supT hq
 have s2:=x2.size; have s3:=x3.size; have z12:=n12.size
 have x112:Ext No w1 w12:=(x2.no x3).no n12.ext
 have R12:=R1.no x112
 have b8:∀ c:Int,0<=c->c<=255->B8 [c]:=fun c h1 h2=>by intro y hy; rw [List.mem_singleton] at hy; subst hy; omega
 generalize hxs:([⟨⟨some ⟨c1,0,none⟩,1,1⟩,⟨some ⟨c2,0,none⟩,1,1⟩,false,[97],[49]⟩]:List OpV)=xs
 have hops:Rd w12.heap ⟨some ⟨b5,0,none⟩,1,1⟩ 3 (xs.flatMap OpV.cs):=by
  rw [<- hxs]; exact (Own.new n12 rfl (by simp [oneC])).rd
 have hlen:xs.length=1:=by rw [<- hxs]; rfl
 have hx:∀ x∈xs,OpR w12.heap T x:=fun x hx=>by
  rw [<- hxs,List.mem_singleton] at hx
  have bl:∀{c:Nat},w1.heap.size<=c->c < w12.heap.size->∀ q,(⟨some ⟨c,0,none⟩,1,1⟩ : Sl).blk=some q->T q=none/\q < w12.heap.size:=fun {c} h1 h2 q hq=>by
   simp [Sl.blk] at hq; subst hq; exact ⟨sup _ h1,h2⟩
  subst hx
  exact ⟨Rd.no r1 (x3.no n12.ext),Rd.no r2 n12.ext,b8 _ (by decide) (by decide),b8 _ (by decide) (by decide),fun _=>bl (by omega) (by omega),fun _=>bl (by omega) (by omega)⟩
 have hkv:opsL xs []=[([97],[49])]:=by
  rw [<- hxs]; show kvOp [97] (some [49]) []=_; decide
 refine apply_spec (t:=5) (lev:=0) (r := .z) (kvs:=[]) (ps:=[]) R12 (.inl ⟨rfl,rfl,rfl,rfl⟩) (by omega) (fun q=>by simp) hops hx (by omega) (by simp) (fun w' hb _=>?_) fun r' lv' ps' T' m' M' w13 _ A=>?_
 .exfalso
  obtain ⟨x,hx',hf⟩:=hb
  rw [<- hxs,List.mem_singleton] at hx'
  subst hx'
  exact hf (by simp [OpV.fit])
 obtain ⟨R13,hbm,tg,x13,tr,hlv,cg⟩:=A
 rw [hkv] at tr
 have x013:Ext No w w13:=(x1.no x112).trans x13 fun q hq h=>h (hT q hq)
 have hsrc:(Value.iface 24 (.pointer (some ⟨m.bm,0,none⟩)))=srcV m':=(srcV_eq hbm).symm
 have hS:r' ≠ .z/\SubT M'.f 5 lv' r' [([97],[49])] ps':=by
  rcases tr with ⟨_,_,h,_⟩ | ⟨h1,_,h⟩
  .cases h
  .exact ⟨h1,by simpa using h⟩
 have hps:ps'=[r']:=one_page hS.2 (by decide)
 refine new_set rfl rfl (by simp [oneC]) fun b6 w15 g15 hb6 z15 x15=>⟨_,Cell.lst g15 rfl,_,Cell.lst g15 rfl,_,Cell.lst g15 rfl,_,Cell.lst g15 rfl,?_⟩
 rw [hsrc]
 have hch:chgP [(([97]:List Int),([49]:List Int))]=1:=by decide
 refine check_ok (R13.no x15) tr hlv (by rw [hps]; simp) (by simp) (by rw [hps]; simp) (by rw [hch]; decide) fun w16 x16=>new_set rfl rfl (by simp [oneC]) fun b7 w18 g18 hb7 z18 x18=>?_
 have g1518:=get_no (get_no g15 x16) x18
 refine ⟨_,Cell.lst g1518 rfl,_,Cell.lst g1518 rfl,_,Cell.lst g1518 rfl,NewW.mk fun b8' w19 n19=>?_⟩
 have x1319:=((x15.no x16).no x18).no n19.ext
 have R19:=R13.no x1319
 have o19:Own w19.heap w18.heap.size 133 9 ⟨some ⟨b8',0,none⟩,1,1⟩ (([(⟨⟨none,0,0⟩,⟨none,0,0⟩,0, .z,r'⟩,⟨[],[],0, .z,r'⟩)]:List (EntV×Ent)).flatMap entCs):=Own.new (n:=1) (sz:=9) n19 rfl (by simp [entCs,EntV.cs,oneC])
 have hro:r'.ok:=by
  have:∃ p,M'.f r'.p=some p/\p.r=r':=by
   obtain ⟨l,p',hN,_⟩:=hS.2.opens2
   obtain ⟨pg,h1,h2,_⟩:=hN.at_
   exact ⟨pg,h1,h2⟩
  obtain ⟨pg,h1,h2⟩:=this
  have:=(R13.find h1).ok
  rw [h2] at this; exact this
 have nd19:NdR w19.heap ⟨some ⟨b8',0,none⟩,1,1⟩ [(⟨⟨none,0,0⟩,⟨none,0,0⟩,0, .z,r'⟩,⟨[],[],0, .z,r'⟩)]:=⟨o19.rd,fun p hp=>by
  rw [List.mem_singleton] at hp; subst hp
  exact ⟨Rd.nil _ _,Rd.nil _ _,rfl,rfl,rfl,B8.nil,B8.nil,(by show (-9223372036854775808:Int)<=0/\(0:Int)<=_; omega),(by show Rf.z.ok; decide),hro⟩⟩
 have hri:=one_right hS.1
 refine encode_spec nd19 (by simp) (fun t20 w20 _ _ o20 x20=>?_) fun c w20 hno _ _=>(hno hri).elim
 have g1820:=get_no (get_no g18 n19.ext) x20
 have x1320:=x1319.no x20
 refine ⟨fun w'=>w'=w20,If.bne (fun h=>(h rfl).elim) fun _=>If.bne (fun h=>(h rfl).elim) fun _=>If.bne (fun h=>(h rfl).elim) fun _=>⟨_,Cell.lst g1820 rfl,_,Cell.lst g1820 rfl,_,Cell.lst g1820 rfl,_,Cell.lst g1820 rfl,_,Cell.lst g1820 rfl,_,Cell.lst g1820 rfl,?_⟩,?_⟩
 .rw [hch,hps]; exact If.no rfl
 rintro _ w21 rfl
 rw [<- hbm]
 have R20:=R13.no x1320
 have hM13:M'.pages.length<=60:=by have:=cg.len; rw [hlen] at this; simp at this; omega
 refine memPut_spec R20 o20.rd (pad_b8 (wr_b8 (by decide) (by decide) fun e he=>?_)) (by omega) (fun n T2 m2 w22 hPl hfree R22 hbm2 tg2 x22=>?_) fun w22 hPl _=>?_
 .rw [show ents [((⟨⟨none,0,0⟩,⟨none,0,0⟩,0, .z,r'⟩ : EntV),(⟨[],[],0, .z,r'⟩ : Ent))]=[⟨[],[],0, .z,r'⟩] from rfl,List.mem_singleton] at he
  subst he; exact ⟨B8.nil,B8.nil⟩
 .refine new_set rfl rfl (by simp [oneC]) fun b9 w24 g24 hb9 z24 x24=>⟨_,Cell.lst g24 rfl,_,Cell.lst g24 rfl,_,Cell.lst g24 rfl,?_⟩
  have R24:=R22.no x24
  have hsrc2:srcV m'=srcV m2:=(srcV_eq hbm2).symm
  rw [hsrc2]
  refine check_spec (fun h=>by have:=hfree.lo; omega) fun bw sr w25 W hbs hb hs x25 K1 X1 k1 kx=>?_
  have R25:MemR w25.heap T2 m2 (putM M' n 5 2 1 (pad (wr 2 1 [⟨[],[],0, .z,r'⟩]))):=R24.no x25
  have hN:NodeAt (putM M' n 5 2 1 (pad (wr 2 1 [⟨[],[],0, .z,r'⟩]))).f 5 (kindOf (1:Nat)) (1:Nat) ⟨n,M'.commit,M'.gen⟩ [⟨[],[],0, .z,r'⟩]:=⟨putM_at hfree,hri.1,hri.2,fun e he=>by
   rw [List.mem_singleton] at he; subst he
   exact ⟨⟨(by show Rf.z.ok; decide),hro⟩,B8.nil,B8.nil⟩⟩
  have hC:=wnode_form (t:=5) (r:=⟨n,M'.commit,M'.gen⟩) (lev:=1) (b0:=⟨none,0,0⟩) (b1:=⟨none,0,0⟩) (K:=K1) (X:=X1) R25 W ⟨R24.supT hb,R24.supT hs,hbs⟩ hN (by simp) (by simp) (by omega)
  refine hC fun b w26 g26 hb26 x26=>kx b _ _ _ _ w26 g26 hb26 x26 fun w27 x27=>new_set rfl rfl (by simp [oneC]) fun b10 w29 g29 hb10 z29 x29=>If.beq (fun _=>If.beq (fun _=>?_) fun h=>(h rfl).elim) fun h=>(h rfl).elim
  have g2429:=get_no (get_no g24 x27) x29
  refine ⟨_,Cell.lst g29 rfl,_,Cell.lst g29 rfl,_,Cell.lst g29 rfl,_,Cell.lst g29 rfl,_,Cell.lst g29 rfl,_,Cell.lst g29 rfl,_,Cell.lst g2429 rfl,_,Cell.lst g2429 rfl,_,Cell.lst g2429 rfl,?_⟩
  simp only [beq_self_eq_true,Bool.and_self]
  have hT':∀ q,q < w.heap.size->T' q=none:=fun q hq=>by rw [tg q (by have:=x1.size; have:=x112.size; omega)]; exact hT q hq
  exact k w29 ((((x013.no x1320).trans x22 fun q hq h=>h (hT' q hq)).no x24).no x27 |>.no x29)
 .exact absurd (pad_len hri.2) hPl
end
end Go.Proofs.YtcamoanigdfihaaGreat
namespace Go.V
open Go.Proofs.YtcamoanigdfihaaGreat
structure PgP(w0 w:Wd)(xs:List PgI)(T:Nat->Option Nat)(y:PgE):Prop where
 own:Own w.heap w0.heap.size 133 9 y.ns (y.N.flatMap entCs)
 en:∃ x∈xs,∀ p∈y.N,EnI w0.heap x.ks p
 el:ents y.N=y.d.l
 sz:y.bs.len=y.d.size
 nk:y.nk=if y.d.piece then 0 else kindOf y.d.lev
 ok:y.d.OK
 tn:∀ q,y.ns.blk=some q->T q=none
theorem PgP.ext{Z:Nat->Prop}{w0 w w':Wd}{xs:List PgI}{T T':Nat->Option Nat}{y:PgE}(r:PgP w0 w xs T y)(e:Ext Z w w')(h:∀ q,y.ns.blk=some q->¬ Z q)(hT:∀ q,q < w.heap.size->T' q=T q):PgP w0 w' xs T' y :=
 ⟨r.own.ext e h,r.en,r.el,r.sz,r.nk,r.ok,fun q hq=>(hT q (r.own.lt hq).2).trans (r.tn q hq)⟩
theorem PgP.er{w0 w:Wd}{xs:List PgI}{T:Nat->Option Nat}{y:PgE}(r:PgP w0 w xs T y)(e:Ext No w0 w):PgER w.heap w.heap.size y:=by
 obtain ⟨x,hxm,hen⟩:=r.en
 have hs:=e.size
 refine ⟨⟨r.own.rd,fun p hp=>((hen p hp).no e).r⟩,fun q hq=>(r.own.lt hq).2,fun p hp hne q hq=>?_,fun p hp hne q hq=>?_,r.el,r.sz,r.nk⟩
 .have:=Rd.lt (hen p hp).r.k (by simpa using hne) hq; omega
 .exact (hne (hen p hp).v).elim
structure LpS(w0 w:Wd)(xs:List PgI)(bm:Nat)(all pages:Sl)(rs:List Rf)(L:List PgE)(T:Nat->Option Nat)(m:MemV)(M:Mm):Prop where
 mem:MemR w.heap T m M
 bm:m.bm=bm
 tn:∀ q,q < w0.heap.size->T q=none
 oa:Own w.heap w0.heap.size 36 3 all (rs.flatMap refCs)
 op:Own w.heap w0.heap.size 42 12 pages (L.flatMap PgE.cs)
 ta:∀ q,all.blk=some q->T q=none
 tp:∀ q,pages.blk=some q->T q=none
 ok:∀ r∈rs,r.ok
 pg:∀ y∈L,PgP w0 w xs T y
 eq:M.pages=L.map fun y=>y.d.pg
 cm:M.commit=1/\M.gen=1
 ext:Ext No w0 w
theorem LpS.no{w0 w w':Wd}{xs:List PgI}{bm:Nat}{all pages:Sl}{rs:List Rf}{L:List PgE}{T:Nat->Option Nat}{m:MemV}{M:Mm}(s:LpS w0 w xs bm all pages rs L T m M)(e:Ext No w w'):LpS w0 w' xs bm all pages rs L T m M :=
 ⟨s.mem.no e,s.bm,s.tn,s.oa.no e,s.op.no e,s.ta,s.tp,s.ok,fun y hy=>(s.pg y hy).ext e (fun _ _ h=>h) fun _ _=>rfl,s.eq,s.cm,s.ext.no e⟩
theorem LpS.lens{w0 w:Wd}{xs:List PgI}{bm:Nat}{all pages:Sl}{rs:List Rf}{L:List PgE}{T:Nat->Option Nat}{m:MemV}{M:Mm}(s:LpS w0 w xs bm all pages rs L T m M):all.len=rs.length/\pages.len=L.length:=by
 have h1:=s.oa.len; have h2:=s.op.len
 rw [flat_len' (refCs_len rs)] at h1
 rw [flat_len' (pgCs_len L)] at h2
 exact ⟨by omega,by omega⟩
end Go.V
namespace Go.Proofs.YtcamoanigdfihaaGreat
open Go.V
section
variable {w:Wd} {T:Nat->Option Nat} {m:MemV} {M:Mm}
theorem lp_ref{w0:Wd}{xs:List PgI}{bm b:Nat}{all pages:Sl}{rs:List Rf}{L:List PgE}{r:Rf}{w1:Wd}{K:Sl->Wd->Prop}(s:LpS w0 w xs bm all pages rs L T m M)(n:New w (.cells (refCs r).toArray 36) b w1)(hr:r.ok)(hn:rs.length<=1000)
  (k:∀ s' w',LpS w0 w' xs bm s' pages (rs++[r]) L T m M->K s' w'):AppW pz 27 27 all (.slice (some (Addr.mk b 0 none)) 1 1) K w1:=by
 have s1:=s.no n.ext
 have y0:=s.ext.size; have y1:=n.ext.size
 obtain ⟨la,_⟩:=s.lens
 have e1:Own w1.heap w.heap.size 36 3 ⟨some ⟨b,0,none⟩,1,1⟩ (refCs r):=Own.new (n:=1) (sz:=3) n rfl (by simp [refCs,oneC])
 refine app_api_Ref s1.oa (by omega) e1.rd.src (by show (all.len+1) * 24<=_; omega) fun s' w2 o2 _ x2 hbl=>k s' w2 ?_
 have x2':Ext (fun q=>all.blk=some q) w1 w2:=x2
 have sup:∀ q,w1.heap.size<=q->T q=none:=fun q hq=>s1.mem.supT hq
 refine ⟨s1.mem.ext x2' fun q hq=>s.ta q hq,s.bm,s.tn,?_,s1.op.ext x2' fun q h1 h2=>own_two s1.op s1.oa (by decide) q h1 h2,fun q hq=>?_,s.tp,fun q hq=>?_,fun y hy=>(s1.pg y hy).ext x2' (fun q h1 h2=>own_two (s1.pg y hy).own s1.oa (by decide) q h1 h2) fun _ _=>rfl,s.eq,s.cm,s1.ext.trans x2' fun q hq h=>by have:=(s1.oa.lt h).1; omega⟩
 .rw [List.flatMap_append]
  have e:[r].flatMap refCs=refCs r:=by simp
  rw [e]; exact o2
 .rcases hbl with h | ⟨b',h3,h4⟩
  .rw [h] at hq; exact s.ta q hq
  .rw [h3] at hq; cases hq; exact sup _ h4
 .rcases List.mem_append.1 hq with h | h
  .exact s.ok q h
  .rw [List.mem_singleton] at h; rw [h]; exact hr
theorem lp_page{w0 w1 w2:Wd}{xs:List PgI}{bm b:Nat}{all pages:Sl}{rs:List Rf}{L:List PgE}{y:PgE}{x:PgI}{T':Nat->Option Nat}{m':MemV}{M':Mm}{K:Sl->Wd->Prop}(s:LpS w0 w xs bm all pages rs L T m M)(hx:x∈xs)(G:PgG w w1 x y)(hks:∀ p∈y.N,EnI w0.heap x.ks p)(hr:y.d.r=⟨y.d.r.p,1,1⟩)(hr2:2<=y.d.r.p/\y.d.r.p<=10000)(hM:M'.pages=M.pages++[y.d.pg])(hc:M'.commit=1/\M'.gen=1)(R:MemR w1.heap T' m' M')(hbm:m'.bm=m.bm)(tg:Tg w T T')(hns:∀ q,y.ns.blk=some q->T' q=none)(x1:Ext (Ts T) w w1)
  (n:New w1 (.cells (PgE.cs y).toArray 42) b w2) (hn:L.length<=1000) (k:∀ s' w',LpS w0 w' xs bm all s' rs (L++[y]) T' m' M'->Ext (fun q=>pages.blk=some q) w2 w'->K s' w'):AppW pz 28 28 pages (.slice (some (Addr.mk b 0 none)) 1 1) K w2:=by
 have y0:=s.ext.size; have y1:=x1.size; have y2:=n.ext.size
 obtain ⟨_,lp⟩:=s.lens
 have nT:∀{q},T q=none->¬ Ts T q:=fun h h'=>h' h
 have tgx:∀ q,q < w.heap.size->T' q=T q:=tg
 have e1:Own w2.heap w1.heap.size 42 12 ⟨some ⟨b,0,none⟩,1,1⟩ (PgE.cs y):=Own.new (n:=1) (sz:=12) n rfl (PgE.one y)
 have x02:Ext (Ts T) w w2:=x1.no n.ext
 have op2:=s.op.ext x02 fun q hq=>nT (s.tp q hq)
 have oa2:=s.oa.ext x02 fun q hq=>nT (s.ta q hq)
 have pg2:∀ z∈L,PgP w0 w2 xs T' z:=fun z hz=>(s.pg z hz).ext x02 (fun q hq=>nT ((s.pg z hz).tn q hq)) tgx
 have hrk:y.d.r.ok:=by
  rw [hr]
  exact ⟨⟨Int.le_trans (by decide) hr2.1,Int.le_trans hr2.2 (by decide)⟩,⟨by show (0:Int)<=1; decide,by show (1:Int)<=18446744073709551615; decide⟩,⟨by show (0:Int)<=1; decide,by show (1:Int)<=65535; decide⟩⟩
 have ny:PgP w0 w2 xs T' y:=⟨(G.own.no n.ext).mono y0,⟨x,hx,hks⟩,G.el,G.sz,G.nk,⟨G.pc,fun hp=>⟨(G.nd hp).1,(G.nd hp).2,fun e he=>by
  rw [<- G.el] at he
  obtain ⟨p,hp,rfl⟩:=List.mem_map.1 he
  have h:=(hks p hp).r
  exact ⟨h.cho,h.cdo,h.k8⟩⟩,hrk⟩,hns⟩
 refine app_donjonref17_Page op2 (by omega) e1.rd.src (by show (pages.len+1) * 120<=_; omega) fun s' w3 o3 _ x3 hbl=>k s' w3 ?_ x3
 have x3':Ext (fun q=>pages.blk=some q) w2 w3:=x3
 refine ⟨(R.no n.ext).ext x3' fun q hq=>?_,hbm.trans s.bm,fun q hq=>(tgx q (by omega)).trans (s.tn q hq),oa2.ext x3' fun q h1 h2=>own_two oa2 op2 (by decide) q h1 h2,?_,fun q hq=>(tgx q (s.oa.lt hq).2).trans (s.ta q hq),fun q hq=>?_,s.ok,fun z hz=>?_,?_,hc,(s.ext.trans x02 fun q hq h=>h (s.tn q hq)).trans x3' fun q hq h=>by have:=(op2.lt h).1; omega⟩
 .have h5:pages.blk=some q:=hq
  exact (tgx q (s.op.lt h5).2).trans (s.tp q h5)
 .rw [List.flatMap_append]
  have e:[y].flatMap PgE.cs=PgE.cs y:=by simp
  rw [e]; exact o3
 .rcases hbl with h | ⟨b',h3,h4⟩
  .rw [h] at hq; exact (tgx q (s.op.lt hq).2).trans (s.tp q hq)
  .rw [h3] at hq; cases hq; exact R.supT (by omega)
 .have h6:PgP w0 w2 xs T' z:=by
   rcases List.mem_append.1 hz with h | h
   .exact pg2 z h
   .rw [List.mem_singleton] at h; rw [h]; exact ny
  exact h6.ext x3' (fun q h1 h2=>own_two h6.own op2 (by decide) q h1 h2) fun _ _=>rfl
 .rw [hM,s.eq,List.map_append]; rfl
set_option maxHeartbeats 8000000 in
theorem soundChecks_spec{l:Sl}{xs:List PgI}{root level:Int}{K:Bool->Wd->Prop}(hl:Rd w.heap l 8 (xs.flatMap PgI.cs))(hx:∀ x∈xs,PgIR w.heap x)(hlev:0<=level/\level<=255)(k:∀ w',Ext No w w'->K true w'):C_law17_SoundChecks l root level w K:=by
 apply S_law17_SoundChecks
 have csl:∀ y∈xs,(PgI.cs y).length=8:=fun _ _=>rfl
 have hol:l.len=xs.length:=by have:=hl.len; rw [flat_len' csl] at this; omega
 refine If.dec (fun _=>known17 k) fun h60=>?_
 refine newMem_spec (by omega) fun T m w2 R2 hT x2=>?_
 obtain ⟨I,hI⟩ : ∃ I:Nat->Sl->Sl->Int->Wd->Prop,I=fun q all pages (i:Int) w'=>∃ (j:Nat) (rs:List Rf) (L:List PgE) (T':Nat->Option Nat) (m':MemV) (M':Mm),i=j/\j<=xs.length/\q=xs.length - j/\rs.length<=j/\L.length<=j/\LpS w w' xs m.bm all pages rs L T' m' M':=⟨_,rfl⟩
 refine ⟨I,by rw [hI]; exact ⟨xs.length,0,[],[],T,m,_,rfl,by omega,by omega,by simp,by simp,⟨R2,rfl,hT,Own.nil _ _ _ _,Own.nil _ _ _ _,fun q hq=>by simp [Sl.blk] at hq,fun q hq=>by simp [Sl.blk] at hq,by simp,by simp,rfl,⟨rfl,rfl⟩,x2⟩⟩,?_⟩
 intro _ m0 all pages i w3 hi
 rw [hI] at hi
 obtain ⟨j,rs,L,T1,m1,M1,rfl,hj,hq,hrs,hLl,s⟩:=hi
 refine If.dec (fun h=>?_) fun h=>?_
 .have hjl:j < xs.length:=by omega
  have hm:xs[j]∈xs:=List.getElem_mem hjl
  have el:∀{w':Wd}{K:Addr->Prop},Ext No w w'->(∀ bb o,(∀ i v,(PgI.cs xs[j])[i]? = some v->Cell w' ⟨bb,o+i,none⟩ v)->K ⟨bb,o,none⟩)->Ix l.a l.len (j:Nat) 8 K:=fun e kk =>
   Ix.elem (hl.no e) csl (by decide) (by omega) (by omega) fun bb o hi _ hc=>by
    simp only [Int.toNat_natCast] at hi hc
    exact kk bb o fun i v hv=>hc i v hv
  generalize hxj:xs[j]=x at el hm
  have hxx:=hx x hm
  have lk:x.keys.len=x.ks.length:=by have:=hxx.kR.len; simp at this; omega
  have ld:x.kids.len=x.kd.length:=by have:=hxx.dR.len; simp at this; omega
  have same:∀{K:Wd->Prop},Ar .i64 ((j:Int)+1) fun z=>∃ m1,m1 < m0/\I m1 all pages z w3:=fun {_}=>Ar.i64 (by omega) ⟨xs.length - (j+1),by omega,by rw [hI]; exact ⟨j+1,rs,L,T1,m1,M1,by omega,by omega,rfl,by omega,by omega,s⟩⟩
  refine ⟨fun w'=>w'=w3/\x.ks.length<=20/\x.kd.length<=20,el s.ext fun _ _ hc=>⟨_,hc 1 _ rfl,If.dec (fun _=>same (K:=fun _=>True)) fun g1=>el s.ext fun _ _ hc=>⟨_,hc 2 _ rfl,If.dec (fun _=>same (K:=fun _=>True)) fun g2=>el s.ext fun _ _ hc=>⟨_,hc 3 _ rfl,If.dec (fun _=>same (K:=fun _=>True)) fun _=>⟨rfl,by omega,by omega⟩⟩⟩⟩,?_⟩
  rintro _ w4 ⟨rfl,g1,g2⟩
  have y0:=s.ext.size
  have hpl:M1.pages.length<=1000:=by rw [s.eq]; simp; omega
  refine el s.ext fun _ _ hc=>⟨_,hc 0 _ rfl,_,hc 1 _ rfl,_,hc 2 _ rfl,_,hc 3 _ rfl,_,hc 4 _ rfl,_,hc 5 _ rfl,_,hc 6 _ rfl,_,hc 7 _ rfl,?_⟩
  rw [<- s.bm]
  refine written_spec (x:=x) s.mem hpl (hxx.no s.ext) s.oa.rd s.ok g1 g2 (fun y w5 x5=>?_) fun y T' m' M' w5 G hr hr2 hM hc1 hc2 R5 hbm htg hns x5=>?_
  .refine new_set (vs:=PgE.cs y) rfl rfl (PgE.one y) fun b w7 g7 hb z7 x7=>If.not (If.no (NewW.mk fun b1 w8 n8=>?_))
   have s7:=(s.no x5).no x7
   exact lp_ref (r := .z) s7 n8 (by decide) (by omega) fun s' w9 s9=>Ar.i64 (by omega) ⟨xs.length - (j+1),by omega,by rw [hI]; exact ⟨j+1,rs++[.z],L,T1,m1,M1,by omega,by omega,rfl,by simp; omega,by omega,s9⟩⟩
  have y5:=x5.size
  refine new_set (vs:=PgE.cs y) rfl rfl (PgE.one y) fun b w7 g7 hb z7 x7=>If.not (If.yes (pg_read (x:=y) g7 (NewW.mk fun b2 w10 n10=>?_)))
  have y10:=n10.ext.size
  have z10:=n10.size
  rw [s.cm.1,s.cm.2] at hr
  have G7:PgG w4 w7 x y:=G.ext x7 fun _ _ h=>h
  have hks:∀ p∈y.N,EnI w.heap x.ks p:=fun p hp=>(G.en p hp).re fun z hz=>(hxx.kb z hz).1
  refine lp_page s hm G7 hks hr hr2 hM ⟨hc1.trans s.cm.1,hc2.trans s.cm.2⟩ (R5.no x7) hbm htg hns (x5.no x7) n10 (by omega) fun s11 w11 S11 x11=>?_
  have x11':Ext (fun q=>pages.blk=some q) w10 w11:=x11
  have g11:=get_ext (get_no g7 n10.ext) x11' fun h=>by have:=(s.op.lt h).2; omega
  refine ⟨_,Cell.lst g11 rfl,_,Cell.lst g11 rfl,_,Cell.lst g11 rfl,new_set (vs:=refCs y.d.r) rfl rfl (by simp [refCs,oneC]) fun b3 w13 g13 hb3 z13 x13=>?_⟩
  have S13:=S11.no x13
  have fin:∀{r:Rf}{w20:Wd},LpS w w20 xs m.bm all s11 rs (L++[y]) T' m' M'->w20.heap[b3]? = some (.cells (refCs r).toArray 36 (0,0))->r.ok->∃ c_29:Int,Cell w20 (Addr.mk b3 0 none) (.int .u32 c_29)/\∃ c_30:Int,Cell w20 ((Addr.mk b3 0 none).add 1) (.int .u64 c_30)/\∃ c_31:Int,Cell w20 ((Addr.mk b3 0 none).add 2) (.int .u16 c_31) /\
    NewW w20 (.cells [.int .u32 c_29, .int .u64 c_30, .int .u16 c_31].toArray 36) fun b_6 w21=>AppW pz 27 27 all (.slice (some (Addr.mk b_6 0 none)) 1 1) (fun s_4 w21=>Ar .i64 ((j:Int)+1) fun z_8=>∃ m1,m1 < m0/\I m1 s_4 s11 z_8 w21) w21:=fun {r w20} S20 g20 hro =>
   ⟨_,Cell.lst g20 rfl,_,Cell.lst g20 rfl,_,Cell.lst g20 rfl,NewW.mk fun b6 w21 n21=>lp_ref (r:=r) S20 n21 hro (by omega) fun s' w22 S22=>Ar.i64 (by omega) ⟨xs.length - (j+1),by omega,by rw [hI]; exact ⟨j+1,rs++[r],L++[y],T',m',M',by omega,by omega,rfl,by simp; omega,by simp; omega,S22⟩⟩⟩
  have hyo:y.d.r.ok:=(S13.pg y (by simp)).ok.r
  have wr:∀{w14:Wd},Ext (·=b3) w13 w14->LpS w w14 xs m.bm all s11 rs (L++[y]) T' m' M':=fun {w14} x14=>by
   have b3n:∀{base e sz s cs},Own w13.heap base e sz s cs->(e≠36∨∀ q,s.blk=some q->q < w11.heap.size)->∀ q,s.blk=some q->¬ q=b3:=fun o he q hq h=>by
    rcases he with h1 | h1
    .exact own_ne o g13 h1 q hq h
    .have:=h1 q hq; omega
   have y11:=S11.ext.size
   exact ⟨S13.mem.ext x14 fun q hq=>by rw [hq]; exact S11.mem.supT (by omega),S13.bm,S13.tn,S13.oa.ext x14 (b3n S13.oa (.inr fun q hq=>(S11.oa.lt hq).2)),S13.op.ext x14 (b3n S13.op (.inl (by decide))),S13.ta,S13.tp,S13.ok,fun z hz=>(S13.pg z hz).ext x14 (b3n (S13.pg z hz).own (.inl (by decide))) fun _ _=>rfl,S13.eq,S13.cm,S13.ext.trans x14 fun q hq h=>by omega⟩
  obtain ⟨ok1,ok2,ok3⟩:=hyo
  refine el S13.ext fun _ _ hc=>⟨_,hc 7 _ rfl,If.beq (fun _=>?_) fun _=>If.beq (fun _=>?_) fun _=>fin S13 g13 ⟨ok1,ok2,ok3⟩⟩
  .have e1:y.d.r.c=1:=by rw [hr]
   refine ⟨_,Cell.lst g13 rfl,Ar.u64 (by omega) (St1.mk g13 (by show 1 < 3; decide) rfl fun w14 h14=>?_)⟩
   exact fin (r:=⟨y.d.r.p,y.d.r.c+1,y.d.r.g⟩) (wr h14.ext) (h14.get g13) ⟨ok1,⟨by show 0<=y.d.r.c+1; omega,by show y.d.r.c+1<=_; omega⟩,ok3⟩
  .refine ⟨_,Cell.lst g13 rfl,Ar.u32 (by omega) (St1.mk g13 (by show 0 < 3; decide) rfl fun w14 h14=>?_)⟩
   exact fin (r:=⟨y.d.r.p+1000,y.d.r.c,y.d.r.g⟩) (wr h14.ext) (h14.get g13) ⟨⟨by show 0<=y.d.r.p+1000; omega,by show y.d.r.p+1000<=_; omega⟩,ok2,ok3⟩
 refine kid_spec s.oa.rd fun w22 x22=>?_
 generalize kidR rs root=rr
 refine new_set rfl rfl (by simp [oneC]) fun b7 w24 g24 hb7 z24 x24=>?_
 have s24:=(s.no x22).no x24
 have y24:=s24.ext.size
 refine ⟨fun w'=>∃ (r:Rf) (lv:Nat),lv<=255/\w'.heap[b7]? = some (.cells [.int .u32 r.p, .int .u64 r.c, .int .u16 r.g, .int .u8 lv].toArray 47 (0,0))/\LpS w w' xs m.bm all pages rs L T1 m1 M1,⟨_,Cell.lst g24 rfl,_,Cell.lst g24 rfl,_,Cell.lst g24 rfl,?_⟩,?_⟩
 .rw [z_iff]
  refine If.dec (fun _=>st_all g24 rfl rfl (by simp [oneC]) fun w25 g25 x25 _=>⟨.z,0,by omega,g25,?_⟩) fun _=>⟨rr,level.toNat,by omega,?_,s24⟩
  .have x25':Ext (·=b7) w24 w25:=x25
   have y22:=x22.size; have y3:=s.ext.size
   have b7n:∀{base e sz s cs},Own w24.heap base e sz s cs->e≠47->∀ q,s.blk=some q->¬ q=b7:=fun o he q hq h=>own_ne o g24 he q hq h
   exact ⟨s24.mem.ext x25' fun q hq=>by rw [hq]; exact s.mem.supT (by omega),s24.bm,s24.tn,s24.oa.ext x25' (b7n s24.oa (by decide)),s24.op.ext x25' (b7n s24.op (by decide)),s24.ta,s24.tp,s24.ok,fun z hz=>(s24.pg z hz).ext x25' (b7n (s24.pg z hz).own (by decide)) fun _ _=>rfl,s24.eq,s24.cm,s24.ext.trans x25' fun q hq h=>by omega⟩
  .have e:((level.toNat:Nat):Int)=level:=by omega
   rw [e]; exact g24
 rintro _ w26 ⟨r,lv,hlv,g26,s26⟩
 have hA:SndM M1 (L.map PgE.d):=⟨by rw [s26.eq,List.map_map]; rfl,fun d hd=>by obtain ⟨y,hy,rfl⟩:=List.mem_map.1 hd; exact (s26.pg y hy).ok⟩
 have hL60:L.length<=60:=by omega
 refine ⟨_,Cell.lst g26 rfl,_,Cell.lst g26 rfl,_,Cell.lst g26 rfl,_,Cell.lst g26 rfl,?_⟩
 have hsrcV:(Value.iface 24 (.pointer (some ⟨m.bm,0,none⟩)))=srcV m1:=by rw [<- s26.bm]
 rw [hsrcV]
 have rc:∀{w':Wd}{K':Int->Int->Int->Int->Int->Int->Int->Wd->Prop},LpS w w' xs m.bm all pages rs L T1 m1 M1->(∀ w'',Ext No w' w''->ansK (checkD (L.map PgE.d) r lv) K' w'')->C_ref17_Check pages r.p r.c r.g lv w' K':=fun {w' K'} S kk =>
  rcheck_spec (base:=w'.heap.size) ⟨S.op.rd,fun q hq=>(S.op.lt hq).2,fun y hy=>(S.pg y hy).er S.ext⟩ (Nat.le_refl _) hL60 (fun y hy=>(S.pg y hy).ok) hlv kk
 refine check_any s26.mem hA (by simp; omega) hlv fun w27 x27=>?_
 cases hres:checkD (L.map PgE.d) r lv
 all_goals
  simp only [ansK]
  refine new_set rfl rfl (by simp [oneC]) fun b8 w29 g29 hb8 z29 x29=>?_
  have x269:=x27.no x29
  have g2629:=get_no g26 x269
  refine ⟨_,Cell.lst g2629 rfl,_,Cell.lst g2629 rfl,_,Cell.lst g2629 rfl,_,Cell.lst g2629 rfl,rc (s26.no x269) fun w30 x30=>?_⟩
  rw [hres]
  simp only [ansK]
  refine new_set rfl rfl (by simp [oneC]) fun b9 w32 g32 hb9 z32 x32=>?_
  have g2932:=get_no g29 (x30.no x32)
  refine ⟨_,Cell.lst g2932 rfl,_,Cell.lst g2932 rfl,_,Cell.lst g2932 rfl,_,Cell.lst g2932 rfl,_,Cell.lst g2932 rfl,_,Cell.lst g2932 rfl,_,Cell.lst g32 rfl,_,Cell.lst g32 rfl,_,Cell.lst g32 rfl,_,Cell.lst g32 rfl,_,Cell.lst g32 rfl,_,Cell.lst g32 rfl,?_⟩
  simp only [beq_self_eq_true,Bool.and_self]
  exact If.yes (If.yes (known17 fun w33 x33=>k w33 ((s26.ext.no (x269.no (x30.no x32))).no x33)))
end
end Go.Proofs.YtcamoanigdfihaaGreat
