/- Texts for LVaultNew, part 5. -/
import Derived.IntWalk
import Derived.Test.YtiigcapldngijaaGreatQn4
namespace Go.V
section sound
variable {P:Program} {w:Wd}
theorem we:∀(vs cs:List Value)(o:Nat),o+vs.length<=cs.length->setL cs o vs=cs.take o++vs++cs.drop (o+vs.length)
 | [],cs,o,_=>by simp[setL]
 | v::vs,cs,o,h=>by
  simp only[List.length_cons]at h;rw[setL,we vs (cs.set o v) (o+1) (by simp;omega)];rw[List.take_set,List.drop_set_of_lt (by omega)];have ho:o < cs.length:=by omega
  have e1:(cs.take (o+1)).set o v=cs.take o++[v]:=by
   rw[List.take_succ_eq_append_getElem ho];rw[List.set_append_right _ _ (by simp;omega)];have:o - (List.take o cs).length=0:=by simp;omega
   rw[this];rfl
  rw[e1];simp[List.append_assoc];congr 1;omega
theorem Cl{ρ:Env}{n sz:Nat}:∀(parts:List (Nat×Operand))(i:Nat)(cells:Array Value)(out:List Value),ng ρ n sz i parts=some out->cells.size=n * sz->i<=n->
  Instr.fill (fun i=>some (i * sz,sz)) cells (parts.map fun p=>(p.1,ev ρ p.2))=some (cells.toList.take (i * sz)++out).toArray/\out.length=(n - i) * sz
 | [],i,cells,out,h,hc,hi=>by
  unfold ng at h
  cases hb:Nat.beq i n with
  | false=>rw[hb]at h;cases h
  | true=>
   rw[hb]at h;simp only[cond_true,Option.some.injEq]at h;subst h;have:=Nat.eq_of_beq_eq_true hb;subst this;simp[Instr.fill,List.take_of_length_le,<- hc]
 | (j,x)::r,i,cells,out,h,hc,hi=>by
  unfold ng at h
  cases hb:(Nat.beq i j && Nat.beq (cV (ev ρ x)).length sz) with
  | false=>rw[hb]at h;cases h
  | true=>
   rw[hb]at h;simp only[cond_true,Option.map_eq_some_iff]at h;obtain⟨aeN,ho,rfl⟩:=h;simp only[Bool.and_eq_true,Nat.beq_eq]at hb;obtain⟨rfl,hl⟩:=hb;rw[jU]at hl
   have hin:i < n:=by
    rcases Nat.lt_or_ge i n with h | h
    .exact h
    .exfalso;have:i=n:=by omega
     subst this
     cases r with
     | nil=>exact Io _ _ _ (by omega) ho
     | cons p r=>exact Io _ _ _ (by omega) ho
   have rS:i * sz+sz<=n * sz:=by
    have:(i+1) * sz<=n * sz:=Nat.mul_le_mul_right sz hin;rw[Nat.add_mul]at this;omega
   simp only[List.map_cons,Instr.fill]
   have e1:¬ ((decide ((ev ρ x).cells.size≠sz) || decide (i * sz+(ev ρ x).cells.size > cells.size))=true):=by
    have:(ev ρ x).cells.size=sz:=by simpa using hl
    simp[this,hc];omega
   rw[if_neg e1];have e2:=xM (i * sz) (ev ρ x).cells.toList 0 cells;rw[Nat.add_zero,we _ _ _ (by rw[hl,Array.length_toList,hc];exact rS),hl]at e2
   have e3:(Array.foldl (fun cs (p:Value×Nat)=>cs.setIfInBounds (i * sz+p.2) p.1) cells (ev ρ x).cells.zipIdx).toList=cells.toList.take (i * sz)++(ev ρ x).cells.toList++cells.toList.drop (i * sz+sz):=by
    rw[<- Array.foldl_toList,Array.toList_zipIdx];exact e2
   obtain⟨h1,h2⟩:=Cl r (i+1) (Array.foldl (fun cs (p:Value×Nat)=>cs.setIfInBounds (i * sz+p.2) p.1) cells (ev ρ x).cells.zipIdx) aeN ho (by
    rw[<- Array.length_toList,e3];simp only[List.length_append,List.length_take,List.length_drop,Array.length_toList,hc,hl];have:(ev ρ x).cells.size=sz:=by simpa using hl
    omega) (by omega)
   refine⟨?_,?_⟩
   .rw[h1,e3];congr 2;rw[jU];have e4:(i+1) * sz=i * sz+sz:=by rw[Nat.add_mul];omega
    rw[e4]
    have hlen:(cells.toList.take (i * sz)++(ev ρ x).cells.toList).length=i * sz+sz:=by
     simp only[List.length_append,List.length_take,Array.length_toList,hc];have:(ev ρ x).cells.size=sz:=by simpa using hl
     omega
    rw[List.take_append_of_le_length (by rw[hlen];exact Nat.le_refl _),List.take_of_length_le (by rw[hlen];exact Nat.le_refl _),List.append_assoc]
   .rw[List.length_append,h2,jU,hl];have:n - i=(n - (i+1))+1:=by omega
    rw[this,Nat.add_mul];omega
where
 Io {ρ:Env} {n sz:Nat}:∀(parts:List (Nat×Operand))(i:Nat)(out:List Value),n < i->ng ρ n sz i parts=some out->False
 | [],i,out,h,he=>by
  unfold ng at he
  have:Nat.beq i n=false:=by
   cases hb:Nat.beq i n with
   | false=>rfl
   | true=>have:=Nat.eq_of_beq_eq_true hb;omega
  rw[this]at he;cases he
 | (j,x)::r,i,out,h,he=>by
  unfold ng at he
  cases hb:(Nat.beq i j && Nat.beq (cV (ev ρ x)).length sz) with
  | false=>rw[hb]at he;cases he
  | true=>
   rw[hb]at he;simp only[cond_true,Option.map_eq_some_iff]at he;obtain⟨o,ho,_⟩:=he;exact Io r (i+1) o (by omega) ho
theorem KR{ρ:Env}{n sz:Nat}:∀(parts:List (Nat×Operand))(i:Nat)(K:List Value->Prop),EB ρ n sz i parts K->∃cs,ng ρ n sz i parts=some cs/\K cs
 | [],i,K,h=>by
  unfold EB at h;unfold ng
  cases hb:Nat.beq i n with
  | false=>rw[hb]at h;exact h.elim
  | true=>rw[hb]at h;exact⟨[],rfl,h⟩
 | (j,x)::r,i,K,h=>by
  unfold EB at h;unfold ng
  cases hb:Nat.beq i j with
  | false=>rw[hb]at h;exact h.elim
  | true=>
   rw[hb]at h;simp only[cond_true]at h;obtain⟨h1,h2⟩:=h;obtain⟨cs,hc,hk⟩:=KR r (i+1) _ h2;refine⟨_,?_,hk⟩;have e:Nat.beq (cV (ev ρ x)).length sz=true:=by rw[h1];exact Nat.beq_refl _
   rw[e,hc];rfl
theorem CY{t:TypeId}{n:Nat}{ρ:Env}{parts:Array (Nat×Operand)}{K:Value->Pw}(h:Bh P t n ρ parts.toList K w) :
  ∃v w',(Instr.buildSlice t n (parts.map fun(i,x)=>(i,ev ρ x))).run P w = .ok v w'/\K v w':=by
 unfold Bh at h;split at h
 .rename_i e hu;split at h
  .rename_i ie hi
   cases hb:Nat.ble (n * ie.size) 16777216 with
   | false=>rw[hb]at h;exact h.elim
   | true=>
    rw[hb]at h;simp only[cond_true]at h
    have h':∃z cs,ie.zero=some z/\ng ρ n ie.size 0 parts.toList=some cs/\au w (.cells cs.toArray e) fun b w'=>K (.slice (some ⟨b,0,none⟩) n n) w':=by
     cases hr:Qp P e with
     | true=>
      rw[hr]at h;simp only[cond_true]at h
      cases hz:ie.zero with
      | none=>rw[hz]at h;exact h.elim
      | some z=>
       rw[hz]at h;obtain⟨cs,h1,h2⟩:=KR _ _ _ h;exact⟨z,cs,rfl,h1,h2⟩
     | false=>
      rw[hr]at h;simp only[cond_false]at h;split at h
      .rename_i z cs hz Nz;exact⟨z,cs,hz,Nz,h⟩
      .exact h.elim
    obtain⟨z,cs,hz,Nz,h⟩:=h'
    .refine⟨_,_,?_,h w.heap.size _ ⟨rfl,rfl⟩⟩;have hle:¬ (n * ie.size > 2 ^ 24):=by have:=Nat.le_of_ble_eq_true hb;omega
     have e3:(parts.map fun(x:Nat×Operand)=>(x.1,ev ρ x.2)).toList=parts.toList.map fun p=>(p.1,ev ρ p.2):=by simp
     have fin:∀zero:Array Value,Instr.fill (fun i=>some (i * ie.size,ie.size)) ((Array.range (n * ie.size)).map (fun x=>zero[x % zero.size]!)) (parts.toList.map fun p=>(p.1,ev ρ p.2))=some cs.toArray:=fun zero=>by
      have:=(Cl (ρ:=ρ) (n:=n) (sz:=ie.size) parts.toList 0 ((Array.range (n * ie.size)).map (fun x=>zero[x % zero.size]!)) cs Nz (by simp) (Nat.zero_le _)).1;simpa using this
     by_cases h0:n * ie.size=0
     .have:=fin #[];rw[h0]at this;have e4:¬ (0 > 2 ^ 24):=by decide
      simp only[Instr.buildSlice,Sem.run_bind,aD hu,bL hi,Result.andThen_ok,h0,if_true,e3,if_neg e4,Sem.run_pure];simp only[this,Sem.run_bind,gi,Result.andThen_ok,Sem.run_pure]
     .simp only[Instr.buildSlice,Sem.run_bind,aD hu,bL hi,Result.andThen_ok,if_neg hle,if_neg h0,Sem.run_pure,e3,ja hi hz];have:=fin z.cells;simp only[this,Sem.run_bind,gi,Result.andThen_ok,Sem.run_pure]
  .exact h.elim
 .exact h.elim
theorem KS(zs:List Value)(hz:0 < zs.length):∀c:Nat,(List.range (c * zs.length)).map (fun i=>zs.toArray[i % zs.length]!)=(List.replicate c zs).flatten
 | 0=>by simp
 | c+1=>by
  have ih:=KS zs hz c;rw[Nat.add_mul,Nat.one_mul,List.range_add,List.map_append,ih,List.replicate_succ',List.flatten_append];congr 1;simp only[List.map_map,List.flatten_cons,List.flatten_nil,List.append_nil];apply List.ext_getElem (by simp);intro i h1 h2;simp only[List.getElem_map,List.getElem_range,Function.comp];have e:(c * zs.length+i) % zs.length=i:=by rw[Nat.mul_comm,Nat.mul_add_mod];exact Nat.mod_eq_of_lt h2
  rw[e,getElem!_pos zs.toArray i (by simpa using h2)];simp
theorem run_askRoom{n:Nat}:(askRoom n).run P w = .ok () w:=by
 unfold askRoom;split <;> simp[mark,Sem.run]
theorem KT{t:TypeId}{l c:Value}{K:Value->Pw}(h:SP P t l c K w):∃v w',(Instr.makeSlice t l c).run P w = .ok v w'/\K v w':=by
 unfold SP at h;split at h
 .rename_i e hu;split at h
  .rename_i ie hi;split at h
   .rename_i z k1 l k2 c hz
    cases hb:(Nat.beq (cV z).length ie.size && Nat.blt 0 ie.size) with
    | false=>rw[hb]at h;exact h.elim
    | true=>
     rw[hb]at h;simp only[Bool.and_eq_true,Nat.beq_eq]at hb;have acm:0 < ie.size:=Nat.le_of_ble_eq_true hb.2;obtain⟨h0,h1,h2,h3,hk⟩:=h;refine⟨_,_,?_,hk w.heap.size _ ⟨rfl,rfl⟩⟩;have wl:IntKind.i64.wrap l=l:=IntWalk.i64_in l ⟨by omega,by omega⟩;have wc:IntKind.i64.wrap c=c:=IntWalk.i64_in c ⟨by omega,by omega⟩;have t1:(decide (c < 0) || decide ((ie.bytes:Int) * c > 2 ^ 48))=false:=by simp;omega
     have t2:(decide (l < 0))=false:=by simp;omega
     have t3:(decide (l > c))=false:=by simp;omega
     have e1:(zs:List Value)->zs.length=ie.size->(Array.range (c.toNat * ie.size)).map (fun i=>zs.toArray[i % zs.toArray.size]!)=(List.replicate c.toNat zs).flatten.toArray:=fun zs Sa=>by
      apply Array.toList_inj.1;simp only[Array.toList_map,Array.toList_range];have:=KS zs (by omega) c.toNat;rw[Sa]at this;simp only[List.size_toArray,Sa];exact this
     have ez:z.cells=(cV z).toArray:=by rw[jU]
     simp only[Instr.makeSlice,Sem.run_bind,aD hu,Result.andThen_ok,asInt,asIntOf,Sem.run_pure,kC hi,wl,wc,t1,t2,t3,Bool.or_false,Bool.false_eq_true,if_false,run_askRoom,bL hi];by_cases hn:c.toNat * ie.size=0
     .have Z_:c.toNat=0:=by rcases Nat.mul_eq_zero.1 hn with h | h <;> omega
      simp only[hn,if_true];rw[Z_];simp[gi,Array.range]
     .simp only[if_neg hn,Sem.run_bind,ja hi hz,Result.andThen_ok,Sem.run_pure,gi,ez];rw[e1 _ hb.1]
   .exact h.elim
  .exact h.elim
 .exact h.elim
theorem Qt{t:Ty}{K:Value->Prop}(h:acd t K):∃v,K v:=by
 cases t with
 | one s=>obtain⟨x,hx⟩:=h;exact⟨_,hx⟩
 | agg l=>
  have:∀(l:List Bb)(K:List Value->Prop),exS l K->∃vs,K vs:=by
   intro l
   induction l with
   | nil=>exact fun K h=>⟨_,h⟩
   | cons s r ih=>
    intro K h
    cases s with
    | one s=>obtain⟨x,hx⟩:=h;obtain⟨vs,hv⟩:=ih _ hx;exact⟨_,hv⟩
    | row k n=>obtain⟨l,_,hx⟩:=h;obtain⟨vs,hv⟩:=ih _ hx;exact⟨_,hv⟩
  obtain⟨vs,hv⟩:=this l _ h;exact⟨_,hv⟩
 | bad=>exact h.elim
theorem qK:∀(ts:List Ty)(K:List Value->Prop),Qr ts K->∃vs,K vs
 | [],K,h=>⟨_,h⟩
 | t::ts,K,h=>by
  obtain⟨v,hv⟩:=Qt h;obtain⟨vs,hvs⟩:=qK ts _ hv;exact⟨_,hvs⟩
theorem ED{X:Type}:∀(l:List Bb)(F:List Value->X)(G:List Value->X->Prop),KH l (SN l F) (fun vs Y=>G vs Y)->∃vs,G vs (F vs)
 | [],F,G,h=>⟨[],h⟩
 | .one s::r,F,G,h=>by
  obtain⟨x,hx⟩:=h;obtain⟨vs,hv⟩:=ED r (fun vs=>F (s.mk x::vs)) (fun vs Y=>G (s.mk x::vs) Y) hx;exact⟨_,hv⟩
 | .row k n::r,F,G,h=>by
  obtain⟨l,_,hx⟩:=h;obtain⟨vs,hv⟩:=ED r (fun vs=>F (l.map (Value.int k)++vs)) (fun vs Y=>G (l.map (Value.int k)++vs) Y) hx;exact⟨_,hv⟩
theorem Eb{G:List Value->(Pw)->Prop}{K:Value->Pw}:∀(l:List Ty)(acc:List Value),Ib l (Bg l acc K) (fun vs Y=>G (acc++vs) Y)->∃vs,G vs (K (fY vs))
 | [],acc,h=>⟨acc,by simpa[Ib,Bg] using h⟩
 | .one s::r,acc,h=>by
  obtain⟨x,hx⟩:=h;have VG:Ib r (Bg r (acc++[s.mk x]) K) (fun vs Y=>G (acc++s.mk x::vs) Y):=hx;exact Eb (G:=G) r (acc++[s.mk x]) (by simpa only[List.append_assoc,List.singleton_append] using VG)
 | .agg l::r,acc,h=>by
  have h':KH l (SN l (fun vs=>Bg r (acc++[.agg vs.toArray]) K)) (fun ws K'=>Ib r K' (fun vs Y=>G (acc++(.agg ws.toArray::vs)) Y)):=h;obtain⟨ws,hw⟩:=ED l _ (fun ws K'=>Ib r K' (fun vs Y=>G (acc++(.agg ws.toArray::vs)) Y)) h';exact Eb (G:=G) r (acc++[.agg ws.toArray]) (by simpa[List.append_assoc] using hw)
 | .bad::r,acc,h=>by
  obtain⟨v,hx⟩:=h;have VG:Ib r (Bg r (acc++[v]) K) (fun vs Y=>G (acc++v::vs) Y):=hx;exact Eb (G:=G) r (acc++[v]) (by simpa only[List.append_assoc,List.singleton_append] using VG)
theorem EE{l:List Ty}{K:Value->Pw}{X:PX}{e:Ending}{w':Wd}(h:KM l (Bg l [] K) X e w'):(∃v,e = .returned v/\K v w')∨∃c,e = .panicked c/\X c w':=by
 rcases h with h | h
 .obtain⟨vs,h1,h2⟩:=Eb (G:=fun vs Y=>e = .returned (fY vs)/\Y w') (K:=K) l [] (by simpa using h);exact .inl ⟨_,h1,h2⟩
 .exact .inr h
section
variable {X:PX} {rd:Bool}
theorem lY.dY{o:Oper}{ε:Operand->Value}{K:Value->Pw}{v:Value}{w':Wd}(h:(execOp ε o).run P w = .ok (.value v) w')(hk:K v w'):lY P X rd o ε K w:=by
 unfold lY;rw[h];exact hk
theorem lY.Pr{o:Oper}{ε:Operand->Value}{l:List Ty}{K:Value->Pw}{s:Sem Next}(he:execOp ε o=s){rd':Bool}(Gs:rd'=true->rd=true)(h:KN P rd' s w (KM l (Bg l [] K) X)):lY P X rd o ε K w:=by
 unfold lY;unfold KN at h;rw[he];generalize s.run P w=r at h;split at h
 .exact Calls.mono h fun e w' he=>EE he
 .exact⟨Gs h.1,RoundIn.mono h.2 fun e w' he=>EE he⟩
 .exact h.elim
theorem zM{n:Nat}{fn:Func}{args:Array Value}(hf:P.funcs[n]? = some fn)(hc:mI fn=true):(callFunc n args).run P w = .ok (.enter n args) w:=by
  simp only[mI,Bool.and_eq_true,Bool.not_eq_true']at hc;have h1:fn.body≠none:=by cases hb:fn.body <;> simp_all
  have h2 : fn.name ≠ "runtime.NumGoroutine" := by simpa using hc.2
  simp[callFunc,program,Sem.run,hf,h1,h2]
theorem lY.eQ{o:Oper}{ε:Operand->Value}{l:List Ty}{K:Value->Pw}{s:Sem Value}(he:execOp ε o=(do pure (Next.value (<- s))))(h:tY P l s K w):lY P X rd o ε K w:=by
 obtain⟨vs,w',h1,h2⟩:=qK _ _ h;refine .dY ?_ h2;rw[he,Sem.run_bind,h1];rfl
theorem lY.Ps{o:Oper}{ε:Operand->Value}{K:Value->Pw}{s:Sem Unit}(he:execOp ε o=(do s;pure Next.skip))(h:Z9 P s K w):lY P X rd o ε K w:=by
 obtain⟨w',h1,h2⟩:=h;unfold lY;rw[he,Sem.run_bind,h1];exact h2
theorem lZ{pk:Nat}{o:Oper}{ρ:Env}{K:Value->Pw}(h:VF P pk X rd o ρ K w):lY P X rd o (ev ρ) K w:=by
 obtain⟨dst,op,type,pos,after,guard⟩:=o
 have plain:R_ P ⟨dst,op,type,pos,after,guard⟩ ρ (fun v=>K v w)->lY P X rd ⟨dst,op,type,pos,after,guard⟩ (ev ρ) K w:=fun h=>by
  obtain⟨v,hv,hk⟩:=Hu h;exact .dY (hv w) hk
 cases op <;> simp only[VF]at h <;> try exact plain h
 case lookup t x i ck=>exact .eQ rfl h
 case mapUpdate t m k v=>exact .Ps rfl h
 case insert t m k v=>exact .Ps rfl h
 case range t x=>exact .eQ rfl h
 case index t x i=>
  cases hq:Il P t with
  | true=>rw[hq]at h;exact .eQ rfl h
  | false=>rw[hq]at h;exact plain h
 case build t parts=>
  cases hq:Il P t with
  | true=>rw[hq]at h;exact .eQ rfl h
  | false=>rw[hq]at h;exact plain h
 case entry it=>
  obtain⟨k,v,w',h1,h2⟩:=h;exact .dY (by simp only[execOp,Sem.run_bind,h1,Result.andThen_ok,Sem.run_pure]) h2
 case typeAssert x xt at_ ck=>exact .eQ rfl h
 case next it isS=>
  rcases h with⟨w',h1,h2⟩ | ⟨k,v,w',h1,h2⟩
  .exact .dY (by simp only[execOp,Sem.run_bind,h1,Result.andThen_ok,Sem.run_pure]) h2
  .exact .dY (by simp only[execOp,Sem.run_bind,h1,Result.andThen_ok,Sem.run_pure]) h2
 case makeMap t r=>
  cases r with
  | none=>
   refine .dY (w':=World.cL w (.map #[] 0)) (v:= .map (some w.heap.size)) ?_ (h w.heap.size _ ⟨rfl,rfl⟩);simp[execOp,Instr.makeMap,newObj,Sem.run,World.cL]
  | some r=>exact plain h
 case panic x=>
  unfold SQ at h;split at h
  .rename_i t v hv;unfold lY
   have:(execOp (ev ρ) ⟨dst,.panic x,type,pos,after,guard⟩).run P w = .halt (.panic (.iface t v)) w:=by
    simp[execOp,hv,Instr.panic,goPanic,Sem.run]
   rw[this];exact h
  .exact h.elim
 case load t x=>
  obtain⟨v,h1,h2⟩:=uF h;exact .dY (by simp only[execOp,Sem.run_bind,h1 w (fun _ _ h=>h),Result.andThen_ok,Sem.run_pure]) h2
 case store t x v=>
  obtain⟨w',h1,h2⟩:=Im h;unfold lY;simp only[execOp,Sem.run_bind,h1,Result.andThen_ok,Sem.run_pure];exact h2
 case alloc t=>
  unfold SO at h;split at h
  .rename_i i hi;split at h
   .rename_i z hz;refine .dY (w':=World.cL w (.cells (cV z).toArray t)) (v:= .pointer (some ⟨w.heap.size,0,none⟩)) ?_ (h w.heap.size _ ⟨rfl,rfl⟩);simp only[execOp,Instr.alloc,Sem.run_bind,ja hi hz,Result.andThen_ok,newVar,gi,Sem.run_pure,jU]
   .exact h.elim
  .exact h.elim
 case box t x=>
  have fin:∀{cs:List Value},(ev ρ x).cells=cs.toArray->(au w (.cells cs.toArray t) fun b w'=>K (.pointer (some ⟨b,0,none⟩)) w')->lY P X rd ⟨dst,.box t x,type,pos,after,guard⟩ (ev ρ) K w:=fun {cs} hc h=>by
   refine .dY (w':=World.cL w (.cells cs.toArray t)) (v:= .pointer (some ⟨w.heap.size,0,none⟩)) ?_ (h w.heap.size _ ⟨rfl,rfl⟩);simp only[execOp,Instr.box,Sem.run_bind,Result.andThen_ok,newVar,gi,Sem.run_pure,hc]
  cases hv:Bc P t with
  | true=>
   rw[hv]at h;simp only[cond_true]at h;refine fin ?_ h.2;have h1:=h.1
   cases hx:ev ρ x <;> rw[hx]at h1 <;> first | rfl | cases h1
  | false=>rw[hv]at h;exact fin (by rw[jU]) h
 case buildSlice t n ps=>
  obtain⟨v,w',h1,h2⟩:=CY h;exact .dY (by simp only[execOp,Sem.run_bind,h1,Result.andThen_ok,Sem.run_pure]) h2
 case makeSlice t l c=>
  obtain⟨v,w',h1,h2⟩:=KT h;exact .dY (by simp only[execOp,Sem.run_bind,h1,Result.andThen_ok,Sem.run_pure]) h2
 case binOp bo t x y ty=>
  cases y with
  | tmp j=>
   simp only at h
   cases hq:SR P t with
   | true=>rw[hq]at h;exact .eQ rfl h
   | false=>rw[hq]at h;exact plain h
  | const v=>
   cases v with
   | nilFunc=>exact .eQ rfl h
   | map m=>
    cases m with
    | none=>exact .eQ rfl h
    | some b=>exact plain h
   | _=>exact plain h
  | global g=>exact plain h
  | func n=>exact plain h
 case convert s d x=>
  cases hb:Hv P s d with
  | true=>rw[hb]at h;exact .eQ rfl h
  | false=>
   rw[hb]at h;simp only[cond_false]at h
   cases hq:KQ P s d with
   | true=>rw[hq]at h;exact .eQ rfl h
   | false=>
   rw[hq]at h;simp only[cond_false]at h;obtain⟨v,h1,h2⟩:=Ck h;exact .dY (by simp only[execOp,Sem.run_bind,h1 w (fun _ _ h=>h),Result.andThen_ok,Sem.run_pure]) h2
 case call c=>
  obtain⟨callee,args,argTypes⟩:=c;have ea:args.map (ev ρ)=(args.toList.map (ev ρ)).toArray:=by apply Array.toList_inj.1;simp
  cases callee with
  | value f=>
   have dyn:aC P rd (ev ρ f) (args.toList.map (ev ρ)) (uE P type) (Bg (uE P type) [] K) X w->lY P X rd ⟨dst,.call ⟨.value f,args,argTypes⟩,type,pos,after,guard⟩ (ev ρ) K w:=fun h=>by
    refine .Pr (s:=KO (ev ρ f) (args.toList.map (ev ρ))) ?_ id h;simp only[execOp,resolve,KO,ea]
   cases f with
   | func n=>
    simp only at h;unfold Yp at h;split at h
    .rename_i fn hfn
     have hx:(execOp (ev ρ) ⟨dst,.call ⟨.value (.func n),args,argTypes⟩,type,pos,after,guard⟩)=callFunc n (args.toList.map (ev ρ)).toArray:=by
      simp only[execOp,resolve,ev,Deferred.ofValue,pure_bind,invoke,ea];congr 1;apply Array.toList_inj.1;simp
     cases hc:mI fn with
     | true=>
      rw[hc]at h;simp only[cond_true]at h;unfold lY;rw[hx,zM hfn hc]
      cases hp:Nat.testBit pk n with
      | true=>
       rw[hp]at h;refine Calls.mono h fun e w' he=>?_
       rcases he with he | he
       .obtain⟨vs,h1,h2⟩:=qK _ _ he;exact .inl ⟨_,h1,h2⟩
       .exact .inr he
      | false=>
       rw[hp]at h;refine Calls.mono h fun e w' he=>?_
       obtain⟨vs,h1,h2⟩:=qK _ _ he;exact .inl ⟨_,h1,h2⟩
     | false=>
      rw[hc]at h;simp only[cond_false]at h;obtain⟨vs,w',h1,h2⟩:=qK _ _ h;exact .dY (by rw[hx];exact h1) h2
    .exact h.elim
   | tmp t=>exact dyn h
   | const v=>exact dyn h
   | global g=>exact dyn h
  | invoke r m=>
   refine .Pr (s:=invoke (.fn (.method m) #[]) (#[ev ρ r]++(args.toList.map (ev ρ)).toArray)) ?_ (by simp) h;simp only[execOp,resolve,pure_bind,ea]
  | builtin b=>
   cases b <;> simp only at h <;> try exact plain h
   case delete=>exact .eQ (by simp only[execOp,resolve,pure_bind,invoke,builtin]) h
   case clear=>exact .eQ (by simp only[execOp,resolve,pure_bind,invoke,builtin]) h
   case unsafeSliceData=>exact .eQ (by simp only[execOp,resolve,pure_bind,invoke,builtin]) h
   case unsafeString=>exact .eQ (by simp only[execOp,resolve,pure_bind,invoke,builtin]) h
   case max=>
    cases hm:Nat.beq args.toList.length 2 with
    | true=>rw[hm]at h;exact plain h
    | false=>rw[hm]at h;exact .eQ (by simp only[execOp,resolve,pure_bind,invoke,builtin]) h
   case len=>
    cases hm:SS P argTypes.toList with
    | true=>rw[hm]at h;exact .eQ (by simp only[execOp,resolve,pure_bind,invoke,builtin]) h
    | false=>rw[hm]at h;exact plain h
   case append=>
    split at h
    .rename_i s x t t' hs ht;split at h
     .rename_i a n c hv;obtain⟨s',w',h1,h2⟩:=h;refine .dY ?_ h2;have ea:args.map (ev ρ)=#[(⟨a,n,c⟩ : Sl).v,ev ρ x]:=by rw[Ik,hs];simp[hv]
      have et:argTypes=#[t,t']:=by apply Array.toList_inj.1;simp[ht]
      simp only[execOp,resolve,pure_bind,invoke,builtin,ea,et,Sem.run_bind,h1,Result.andThen_ok,Sem.run_pure]
     .exact h.elim
    .exact h.elim
   case copy=>
    split at h
    .rename_i s x t t' hs ht;split at h
     .rename_i a n c hv;obtain⟨s',w',h1,h2⟩:=h;refine .dY ?_ h2;have ea:args.map (ev ρ)=#[(⟨a,n,c⟩ : Sl).v,ev ρ x]:=by rw[Ik,hs];simp[hv]
      have et:argTypes=#[t,t']:=by apply Array.toList_inj.1;simp[ht]
      simp only[execOp,resolve,pure_bind,invoke,builtin,ea,et,Sem.run_bind,h1,Result.andThen_ok,Sem.run_pure]
     .exact h.elim
    .exact h.elim
end
theorem KU{S:Pw}{o:Oper}{ρ:Env}{K:Value->Prop}(h:SU P S o ρ K):∃v,(∀w,S w->(execOp (ev ρ) o).run P w = .ok (.value v) w)/\K v:=by
 obtain⟨dst,op,type,pos,after,guard⟩:=o
 have plain:R_ P ⟨dst,op,type,pos,after,guard⟩ ρ K->∃v,(∀w,S w->(execOp (ev ρ) ⟨dst,op,type,pos,after,guard⟩).run P w = .ok (.value v) w)/\K v:=fun h=>by
  obtain⟨v,hv,hk⟩:=Hu h;exact⟨v,fun w _=>hv w,hk⟩
 cases op <;> simp only[SU]at h <;> try exact plain h
 case load t x=>
  obtain⟨v,h1,h2⟩:=uF h;exact⟨v,fun w hS=>by simp only[execOp,Sem.run_bind,h1 w (fun _ _ h=>h w hS),Result.andThen_ok,Sem.run_pure],h2⟩
 case convert s d x=>
  obtain⟨v,h1,h2⟩:=Ck h;exact⟨v,fun w hS=>by simp only[execOp,Sem.run_bind,h1 w (fun _ _ h=>h w hS),Result.andThen_ok,Sem.run_pure],h2⟩
end sound
def gW(ops:Array Oper)(o:Oper)(ρ:Env)(A B:Prop):Prop:=
 match o.guard with
 | none=>A
 | some (j,want)=>match(ops[j]?).bind (·.dst) with
  | some d=>match ρ d with
   | .bool b=>bif want then(bif b then A else B) else(bif b then B else A)
   | _=>B
  | none=>B
def nh(g:Bool)(v:Value)(K:Value->Prop):Prop:=
 bif g then(match v with
  | .bool b=>If b (K (.bool true)) (K (.bool false))
  | v=>K v) else K v
def VH(ops:Array Oper)(i:Nat):Bool:=ops.toList.any fun o=>match o.guard with
 | some (j,_)=>Nat.beq j i
 | none=>false
def aaa(P:Program)(ops:Array Oper)(d:Option Tmp):Option (List Ty):=
 match ops.toList.findSome? (fun o=>match o.op with
  | .extract (.tmp t) 0=>if d=some t then some (wD P o.type) else none
  | _=>none),ops.toList.findSome? (fun o=>match o.op with
  | .extract (.tmp t) 1=>if d=some t then some (wD P o.type) else none
  | _=>none) with
 | some a,some b=>some [a,b]
 | none,some (.one .ptr)=>some [.one .val,.one .ptr]
 | some (.one (.int k)),none=>some [.one (.int k),.one .val]
 | _,_=>none
def opE(P:Program)(pk:Nat)(X:PX)(ops:Array Oper)(o:Oper)(ρ:Env)(K:Value->Pw)(w:Wd):Prop:=
 match o.op with
 | .entry it=>match aaa P ops o.dst with
  | some l=>tY P l (Instr.entry (ev ρ it)) K w
  | none=>VF P pk X true o ρ K w
 | _=>VF P pk X true o ρ K w
def NC(P:Program)(pk:Nat)(X:PX)(ops:Array Oper):Nat->List Oper->Env->(Env->Pw)->Pw
 | _,[],ρ,K,w=>K ρ w
 | i,o::r,ρ,K,w=>gW ops o ρ (opE P pk X ops o ρ (fun v w'=>nh (VH ops i) v fun v=>NC P pk X ops (i+1) r (dt ρ o.dst v) K w') w) (NC P pk X ops (i+1) r (dt ρ o.dst undef) K w)
inductive rV where
 | fin
 | last (i:Nat)
 | take (i:Nat) (r:rV)
 | one (i:Nat) (r:rV)
 | two (i:Nat) (ri:rV) (j:Nat) (rj:rV)
 | three (i:Nat) (ri:rV) (j:Nat) (rj:rV) (k:Nat) (rk:rV)
 | four (i:Nat) (ri:rV) (j:Nat) (rj:rV) (k:Nat) (rk:rV) (l:Nat) (rl:rV)
def bA:List Nat->rV->rV
 | [],p=>p
 | a::l,p=> .take a (bA l p)
def zN(P:Program)(pk:Nat)(X:PX)(ops:Array Oper)(S:Pw)(i:Nat)(next:Env->Pw)(ρ:Env)(w:Wd):Prop:=
 match ops[i]? with
 | some o=>gW ops o ρ (VF P pk X false o ρ (fun v w'=>S w'/\nh (VH ops i) v fun v=>next (dt ρ o.dst v) w') w) (next (dt ρ o.dst undef) w)
 | none=>False
def kD(P:Program)(pk:Nat)(X:PX)(ops:Array Oper)(S:Pw):rV->Env->(Env->Pw)->Pw
 | .fin,ρ,K,w=>K ρ w
 | .last i,ρ,K,w=>match ops[i]? with
  | some o=>gW ops o ρ (VF P pk X false o ρ (fun v w'=>nh (VH ops i) v fun v=>K (dt ρ o.dst v) w') w) (K (dt ρ o.dst undef) w)
  | none=>False
 | .take i r,ρ,K,w=>match ops[i]? with
  | some o=>gW ops o ρ (SU P S o ρ (fun v=>nh (VH ops i) v fun v=>kD P pk X ops S r (dt ρ o.dst v) K w)) (kD P pk X ops S r (dt ρ o.dst undef) K w)
  | none=>False
 | .one i r,ρ,K,w=>zN P pk X ops S i (fun ρ' w'=>kD P pk X ops S r ρ' K w') ρ w
 | .two i ri j rj,ρ,K,w=>zN P pk X ops S i (fun ρ' w'=>kD P pk X ops S ri ρ' K w') ρ w/\zN P pk X ops S j (fun ρ' w'=>kD P pk X ops S rj ρ' K w') ρ w
 | .three i ri j rj k rk,ρ,K,w=>zN P pk X ops S i (fun ρ' w'=>kD P pk X ops S ri ρ' K w') ρ w/\zN P pk X ops S j (fun ρ' w'=>kD P pk X ops S rj ρ' K w') ρ w/\zN P pk X ops S k (fun ρ' w'=>kD P pk X ops S rk ρ' K w') ρ w
 | .four i ri j rj k rk l rl,ρ,K,w=>zN P pk X ops S i (fun ρ' w'=>kD P pk X ops S ri ρ' K w') ρ w/\zN P pk X ops S j (fun ρ' w'=>kD P pk X ops S rj ρ' K w') ρ w/\zN P pk X ops S k (fun ρ' w'=>kD P pk X ops S rk ρ' K w') ρ w/\zN P pk X ops S l (fun ρ' w'=>kD P pk X ops S rl ρ' K w') ρ w
def bP(ops:Array Oper):rV->Nat->Array Bool->Bool
 | .fin,_,li=>(Region.ready .any ops li).isEmpty
 | .last i,_+1,li=>Region.ready .any ops li == [i] && Er ops i && (Region.ready .any ops (li.setIfInBounds i true)).isEmpty
 | .take i r,f+1,li=>Region.free .any ops li i && (Region.ready .any ops li).contains i && bP ops r f (li.setIfInBounds i true)
 | .one i r,f+1,li=>Region.ready .any ops li == [i] && bP ops r f (li.setIfInBounds i true)
 | .two i ri j rj,f+1,li=>Region.ready .any ops li == [i,j] && bP ops ri f (li.setIfInBounds i true) && bP ops rj f (li.setIfInBounds j true)
 | .three i ri j rj k rk,f+1,li=>Region.ready .any ops li == [i,j,k] && bP ops ri f (li.setIfInBounds i true) && bP ops rj f (li.setIfInBounds j true) && bP ops rk f (li.setIfInBounds k true)
 | .four i ri j rj k rk l rl,f+1,li=>Region.ready .any ops li == [i,j,k,l] && bP ops ri f (li.setIfInBounds i true) && bP ops rj f (li.setIfInBounds j true) && bP ops rk f (li.setIfInBounds k true) && bP ops rl f (li.setIfInBounds l true)
 | _,0,_=>false
@[reducible] def Cur:List (Nat×Sh)->Type
 | []=>Pw
 | (_,s)::r=>s.T->Cur r
def KV:(l:List (Nat×Sh))->Cur l->Env->Pw
 | [],J,_,w=>J w
 | (t,s)::r,J,ρ,w=>s.get (ρ t) (fun x=>KV r (J x) ρ w)
def Wb:(l:List (Nat×Sh))->Cur l->Env->(Env->Pw)->Prop
 | [],J,ρ,F=>∀w,J w->F ρ w
 | (t,s)::r,J,ρ,F=>∀x:s.T,Wb r (J x) (put ρ t (s.mk x)) F
inductive tZ where
 | nil
 | seq (a b:tZ)
 | join (l:List (Nat×Sh)) (mask:Nat) (a b:tZ)
 | cond (a b:tZ)
 | block (a:tZ)
 | loop (l:List (Nat×Sh)) (mask:Nat) (a:tZ)
 | scope (a:tZ)
 | draw (p:rV)
 | free
 | cut
abbrev qz(a:tZ):tZ:= .seq .nil a
abbrev n0:tZ:= .nil
def uG(next:Env->Pw)(Q:Exit->Env->Pw):Exit->Env->Pw
 | .normal,ρ,w=>next ρ w
 | e,ρ,w=>Q e ρ w
def EF(id:Nat)(Q:Exit->Env->Pw):Exit->Env->Pw
 | .exit i,ρ,w=>bif Nat.beq i id then Q .normal ρ w else Q (.exit i) ρ w
 | e,ρ,w=>Q e ρ w
def SV(Q:Exit->Env->Pw):Exit->Env->Pw
 | .goto _,_,_=>False
 | e,ρ,w=>Q e ρ w
def ae(w:Wd):Wd:={ w with drawn:=w.drawn+1 }
def Yr(v:Value)(A B:Prop):Prop:=match v with
 | .bool b=>If b A B
 | _=>False
def SW(P:Program)(pk:Nat)(X:PX)(ops:Array Oper)(i:Nat)(next:Env->Pw)(ρ:Env)(w:Wd):Prop:=
 match ops[i]? with
 | some o=>gW ops o ρ (VF P pk X false o ρ (fun v w'=>next (dt ρ o.dst v) w') w) (next (dt ρ o.dst undef) w)
 | none=>False
def Ip(ops:Array Oper)(i:Nat)(d:Nat->Bool):Bool:=match ops[i]? with
 | some o=>o.after.toList.all fun e=>!Region.binds .any e || d e.on
 | none=>false
abbrev Hz(d:Nat->Bool)(i:Nat):Nat->Bool:=fun j=>bif Nat.beq j i then true else d j
def acn(P:Program)(pk:Nat)(X:PX)(ops:Array Oper)(K:Env->Pw)(ρ:Env)(w:Wd):Prop:=
 ∃Inv:(Nat->Bool)->Env->Pw,Inv (fun _=>false) ρ w/\(∀d ρ w,Inv d ρ w->(∀i,i < ops.size->d i=true)->K ρ w)/\
  ∀d ρ w,Inv d ρ w->∀i,d i=false->Ip ops i d=true->SW P pk X ops i (fun ρ' w'=>Inv (Hz d i) ρ' w') ρ w
def zO(ops:Array Oper):Bool:=(List.range ops.size).all fun i=>match ops[i]? with
 | some o=>o.after.toList.all fun e=>Nat.blt e.on i
 | none=>false
def uH(P:Program)(pk:Nat)(X:PX):tZ->Code->(Exit->Env->Pw)->Env->Pw
 | .nil,.skip,Q,ρ,w=>Q .normal ρ w
 | .nil,.label _,Q,ρ,w=>Q .normal ρ w
 | .nil,.exit i,Q,ρ,w=>Q (.exit i) ρ w
 | .nil,.goto l,Q,ρ,w=>Q (.goto l) ρ w
 | .nil,.ret,Q,ρ,w=>Q .ret ρ w
 | .nil,.region _ ops false,Q,ρ,w=>NC P pk X ops 0 ops.toList ρ (Q .normal) w
 | .draw p,.region _ ops true,Q,ρ,w=>∃S:Pw,S (ae w)/\kD P pk X ops S p ρ (Q .normal) (ae w)
 | .free,.region _ ops true,Q,ρ,w=>acn P pk X ops (Q .normal) ρ (ae w)
 | .seq a b,.seq x y,Q,ρ,w=>uH P pk X a x (uG (uH P pk X b y Q) Q) ρ w
 | .join l mask a b,.seq x y,Q,ρ,w=>∃J:Cur l,uH P pk X a x (uG (KV l J) Q) ρ w/\∀SH,Wb l J (mix mask SH ρ) (uH P pk X b y Q)
 | .cond a b,.cond c x y,Q,ρ,w=>Yr (ev ρ c) (uH P pk X a x Q ρ w) (uH P pk X b y Q ρ w)
 | .block a,.block id c,Q,ρ,w=>uH P pk X a c (EF id Q) ρ w
 | .scope a,.scope c,Q,ρ,w=>uH P pk X a c (SV Q) ρ w
 | .loop l mask a,.loop c,Q,ρ,w=>∃I:Nat->Cur l,(∃m,KV l (I m) ρ w)/\∀SH m,Wb l (I m) (mix mask SH ρ) (fun ρ' w'=>uH P pk X a c (uG (fun ρ'' Ea=>∃m',m' < m/\KV l (I m') ρ'' Ea) Q) ρ' w')
 | _,_,_,_,_=>False
def qL(mask:Nat):Option Nat->Bool
 | some d=>Nat.testBit mask d
 | none=>true
def dy(mask:Nat):Code->Bool
 | .region _ ops _=>ops.toList.all fun o=>qL mask o.dst
 | .seq a b=>dy mask a && dy mask b
 | .cond _ a b=>dy mask a && dy mask b
 | .block _ a=>dy mask a
 | .scope a=>dy mask a
 | .loop a=>dy mask a
 | .skip | .label _ | .exit _ | .goto _ | .ret=>true
 | _=>false
def wF(P:Program)(n:Nat):tZ->Code->Bool
 | .nil,.region _ ops false=>ops.toList.all fun o=>qJ n o.dst
 | .draw p,.region _ ops true=>(ops.toList.all fun o=>qJ n o.dst) && Region.noSelect ops && P.follows .mixedOrders && bP ops p ops.size (Array.replicate ops.size false)
 | .nil,_=>true
 | .cut,_=>true
 | .free,.region _ ops true=>(ops.toList.all fun o=>qJ n o.dst) && P.follows .mixedOrders && zO ops
 | .seq a b,.seq x y=>wF P n a x && wF P n b y
 | .join l mask a b,.seq x y=>wF P n a x && wF P n b y && dy mask x && l.all fun p=>Nat.testBit mask p.1
 | .cond a b,.cond _ x y=>wF P n a x && wF P n b y
 | .block a,.block _ x=>wF P n a x
 | .scope a,.scope x=>wF P n a x
 | .loop l mask a,.loop x=>wF P n a x && dy mask x && l.all fun p=>Nat.testBit mask p.1
 | _,_=>false
def rW:Code->Bool
 | .region _ _ d=>!d
 | .seq a b=>rW a && rW b
 | .cond _ a b=>rW a && rW b
 | .block _ a=>rW a
 | .scope a=>rW a
 | .loop a=>rW a
 | _=>true
def wG(P:Program):List ResultVar->Env->Wd->(List Value->Prop)->Prop
 | [],_,_,F=>F []
 | .tmp t::r,ρ,w,F=>wG P r ρ w (fun vs=>F (ρ t::vs))
 | .cell a t::r,ρ,w,F=>KL (Cell w) P t (ρ a) (fun v=>wG P r ρ w (fun vs=>F (v::vs)))
def KW(P:Program)(tys:List Ty)(rs:List ResultVar)(K:kx tys):Exit->Env->Pw
 | .ret,ρ,w=>wG P rs ρ w (fun vs=>qk tys vs K w)
 | .normal,ρ,w=>wG P rs ρ w (fun vs=>qk tys vs K w)
 | _,_,_=>False
abbrev qm(k:IntKind)(n:Nat)(vs:List Value)(K:List Int->List Value->Prop):Prop:=∃l:List Int,l.length=n/\vs.take n=l.map (Value.int k)/\K l (vs.drop n)
theorem qm.mk{k:IntKind}{n:Nat}{l:List Int}{X:Type}{K:List Int->X}{F:X->Prop}(hl:l.length=n)(h:F (K l)):qm k n (List.map (Value.int k) l++[]) fun l2 vs=>i_ [] vs (K l2) F:=by
 refine⟨l,hl,by rw[List.append_nil];exact List.take_of_length_le (by simp[hl]),?_⟩;have e:List.drop n (List.map (Value.int k) l++[])=[]:=by rw[List.append_nil];exact List.drop_eq_nil_of_le (by simp[hl])
 simp only[e];exact h
end Go.V
