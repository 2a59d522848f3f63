/- Texts for LRollSame,LRollBytes,LRollReads,LRollNone, part 5. -/
import Derived.IntWalk
import Derived.Test.YtpjbalhhlaofmaaGreatQv4
namespace Go.V
section sound
variable {P:Program} {w:Wd}
theorem rZ:∀(vs cs:List Value)(o:Nat),o+vs.length<=cs.length->setL cs o vs=cs.take o++vs++cs.drop (o+vs.length)
 | [],cs,o,_=>by simp[setL]
 | v::vs,cs,o,h=>by
  simp only[List.length_cons]at h;rw[setL,rZ vs (cs.set o v) (o+1) (by simp;omega)];rw[List.take_set,List.drop_set_of_lt (by omega)];have ho:o < cs.length:=by omega
  have e1:(cs.take (o+1)).set o v=cs.take o++[v]:=by
   rw[List.take_succ_eq_append_getElem ho];rw[List.set_append_right _ _ (by simp;omega)];have:o - (List.take o cs).length=0:=by simp;omega
   rw[this];rfl
  rw[e1];simp[List.append_assoc];congr 1;omega
theorem xL{ρ:Env}{n sz:Nat}:∀(parts:List (Nat×Operand))(i:Nat)(cells:Array Value)(out:List Value),ld ρ n sz i parts=some out->cells.size=n * sz->i<=n->
  Instr.fill (fun i=>some (i * sz,sz)) cells (parts.map fun p=>(p.1,ev ρ p.2))=some (cells.toList.take (i * sz)++out).toArray/\out.length=(n - i) * sz
 | [],i,cells,out,h,hc,hi=>by
  unfold ld at h
  cases hb:Nat.beq i n with
  | false=>rw[hb]at h;cases h
  | true=>
   rw[hb]at h;simp only[cond_true,Option.some.injEq]at h;subst h;have:=Nat.eq_of_beq_eq_true hb;subst this;simp[Instr.fill,List.take_of_length_le,<- hc]
 | (j,x)::r,i,cells,out,h,hc,hi=>by
  unfold ld at h
  cases hb:(Nat.beq i j && Nat.beq (cS (ev ρ x)).length sz) with
  | false=>rw[hb]at h;cases h
  | true=>
   rw[hb]at h;simp only[cond_true,Option.map_eq_some_iff]at h;obtain⟨Yy,ho,rfl⟩:=h;simp only[Bool.and_eq_true,Nat.beq_eq]at hb;obtain⟨rfl,hl⟩:=hb;rw[iJ]at hl
   have RU:i < n:=by
    rcases Nat.lt_or_ge i n with h | h
    .exact h
    .exfalso;have:i=n:=by omega
     subst this
     cases r with
     | nil=>exact Eu _ _ _ (by omega) ho
     | cons p r=>exact Eu _ _ _ (by omega) ho
   have gZ:i * sz+sz<=n * sz:=by
    have:(i+1) * sz<=n * sz:=Nat.mul_le_mul_right sz RU;rw[Nat.add_mul]at this;omega
   simp only[List.map_cons,Instr.fill]
   have e1:¬ ((decide ((ev ρ x).cells.size≠sz) || decide (i * sz+(ev ρ x).cells.size > cells.size))=true):=by
    have:(ev ρ x).cells.size=sz:=by simpa using hl
    simp[this,hc];omega
   rw[if_neg e1];have e2:=tq (i * sz) (ev ρ x).cells.toList 0 cells;rw[Nat.add_zero,rZ _ _ _ (by rw[hl,Array.length_toList,hc];exact gZ),hl]at e2
   have e3:(Array.foldl (fun cs (p:Value×Nat)=>cs.setIfInBounds (i * sz+p.2) p.1) cells (ev ρ x).cells.zipIdx).toList=cells.toList.take (i * sz)++(ev ρ x).cells.toList++cells.toList.drop (i * sz+sz):=by
    rw[<- Array.foldl_toList,Array.toList_zipIdx];exact e2
   obtain⟨h1,h2⟩:=xL r (i+1) (Array.foldl (fun cs (p:Value×Nat)=>cs.setIfInBounds (i * sz+p.2) p.1) cells (ev ρ x).cells.zipIdx) Yy ho (by
    rw[<- Array.length_toList,e3];simp only[List.length_append,List.length_take,List.length_drop,Array.length_toList,hc,hl];have:(ev ρ x).cells.size=sz:=by simpa using hl
    omega) (by omega)
   refine⟨?_,?_⟩
   .rw[h1,e3];congr 2;rw[iJ];have e4:(i+1) * sz=i * sz+sz:=by rw[Nat.add_mul];omega
    rw[e4]
    have hlen:(cells.toList.take (i * sz)++(ev ρ x).cells.toList).length=i * sz+sz:=by
     simp only[List.length_append,List.length_take,Array.length_toList,hc];have:(ev ρ x).cells.size=sz:=by simpa using hl
     omega
    rw[List.take_append_of_le_length (by rw[hlen];exact Nat.le_refl _),List.take_of_length_le (by rw[hlen];exact Nat.le_refl _),List.append_assoc]
   .rw[List.length_append,h2,iJ,hl];have:n - i=(n - (i+1))+1:=by omega
    rw[this,Nat.add_mul];omega
where
 Eu {ρ:Env} {n sz:Nat}:∀(parts:List (Nat×Operand))(i:Nat)(out:List Value),n < i->ld ρ n sz i parts=some out->False
 | [],i,out,h,he=>by
  unfold ld at he
  have:Nat.beq i n=false:=by
   cases hb:Nat.beq i n with
   | false=>rfl
   | true=>have:=Nat.eq_of_beq_eq_true hb;omega
  rw[this]at he;cases he
 | (j,x)::r,i,out,h,he=>by
  unfold ld at he
  cases hb:(Nat.beq i j && Nat.beq (cS (ev ρ x)).length sz) with
  | false=>rw[hb]at he;cases he
  | true=>
   rw[hb]at he;simp only[cond_true,Option.map_eq_some_iff]at he;obtain⟨o,ho,_⟩:=he;exact Eu r (i+1) o (by omega) ho
theorem GA{ρ:Env}{n sz:Nat}:∀(parts:List (Nat×Operand))(i:Nat)(K:List Value->Prop),Ak ρ n sz i parts K->∃cs,ld ρ n sz i parts=some cs/\K cs
 | [],i,K,h=>by
  unfold Ak at h;unfold ld
  cases hb:Nat.beq i n with
  | false=>rw[hb]at h;exact h.elim
  | true=>rw[hb]at h;exact⟨[],rfl,h⟩
 | (j,x)::r,i,K,h=>by
  unfold Ak at h;unfold ld
  cases hb:Nat.beq i j with
  | false=>rw[hb]at h;exact h.elim
  | true=>
   rw[hb]at h;simp only[cond_true]at h;obtain⟨h1,h2⟩:=h;obtain⟨cs,hc,hk⟩:=GA r (i+1) _ h2;refine⟨_,?_,hk⟩;have e:Nat.beq (cS (ev ρ x)).length sz=true:=by rw[h1];exact Nat.beq_refl _
   rw[e,hc];rfl
theorem yS{t:TypeId}{n:Nat}{ρ:Env}{parts:Array (Nat×Operand)}{K:Value->Pw}(h:wE P t n ρ parts.toList K w) :
  ∃v w',(Instr.buildSlice t n (parts.map fun(i,x)=>(i,ev ρ x))).run P w = .ok v w'/\K v w':=by
 unfold wE at h;split at h
 .rename_i e hu;split at h
  .rename_i ie hi
   cases hb:Nat.ble (n * ie.size) 16777216 with
   | false=>rw[hb]at h;exact h.elim
   | true=>
    rw[hb]at h;simp only[cond_true]at h
    have h':∃z cs,ie.zero=some z/\ld ρ n ie.size 0 parts.toList=some cs/\af w (.cells cs.toArray e) fun b w'=>K (.slice (some ⟨b,0,none⟩) n n) w':=by
     cases hr:Lo P e with
     | true=>
      rw[hr]at h;simp only[cond_true]at h
      cases hz:ie.zero with
      | none=>rw[hz]at h;exact h.elim
      | some z=>
       rw[hz]at h;obtain⟨cs,h1,h2⟩:=GA _ _ _ h;exact⟨z,cs,rfl,h1,h2⟩
     | false=>
      rw[hr]at h;simp only[cond_false]at h;split at h
      .rename_i z cs hz Lq;exact⟨z,cs,hz,Lq,h⟩
      .exact h.elim
    obtain⟨z,cs,hz,Lq,h⟩:=h'
    .refine⟨_,_,?_,h w.heap.size _ ⟨rfl,rfl⟩⟩;have hle:¬ (n * ie.size > 2 ^ 24):=by have:=Nat.le_of_ble_eq_true hb;omega
     have e3:(parts.map fun(x:Nat×Operand)=>(x.1,ev ρ x.2)).toList=parts.toList.map fun p=>(p.1,ev ρ p.2):=by simp
     have fin:∀zero:Array Value,Instr.fill (fun i=>some (i * ie.size,ie.size)) ((Array.range (n * ie.size)).map (fun x=>zero[x % zero.size]!)) (parts.toList.map fun p=>(p.1,ev ρ p.2))=some cs.toArray:=fun zero=>by
      have:=(xL (ρ:=ρ) (n:=n) (sz:=ie.size) parts.toList 0 ((Array.range (n * ie.size)).map (fun x=>zero[x % zero.size]!)) cs Lq (by simp) (Nat.zero_le _)).1;simpa using this
     by_cases h0:n * ie.size=0
     .have:=fin #[];rw[h0]at this;have e4:¬ (0 > 2 ^ 24):=by decide
      simp only[Instr.buildSlice,Sem.run_bind,aB hu,bI hi,Result.andThen_ok,h0,if_true,e3,if_neg e4,Sem.run_pure];simp only[this,Sem.run_bind,eB,Result.andThen_ok,Sem.run_pure]
     .simp only[Instr.buildSlice,Sem.run_bind,aB hu,bI hi,Result.andThen_ok,if_neg hle,if_neg h0,Sem.run_pure,e3,eT hi hz];have:=fin z.cells;simp only[this,Sem.run_bind,eB,Result.andThen_ok,Sem.run_pure]
  .exact h.elim
 .exact h.elim
theorem GB(zs:List Value)(hz:0 < zs.length):∀c:Nat,(List.range (c * zs.length)).map (fun i=>zs.toArray[i % zs.length]!)=(List.replicate c zs).flatten
 | 0=>by simp
 | c+1=>by
  have ih:=GB zs hz c;rw[Nat.add_mul,Nat.one_mul,List.range_add,List.map_append,ih,List.replicate_succ',List.flatten_append];congr 1;simp only[List.map_map,List.flatten_cons,List.flatten_nil,List.append_nil];apply List.ext_getElem (by simp);intro i h1 h2;simp only[List.getElem_map,List.getElem_range,Function.comp];have e:(c * zs.length+i) % zs.length=i:=by rw[Nat.mul_comm,Nat.mul_add_mod];exact Nat.mod_eq_of_lt h2
  rw[e,getElem!_pos zs.toArray i (by simpa using h2)];simp
theorem run_askRoom{n:Nat}:(askRoom n).run P w = .ok () w:=by
 unfold askRoom;split <;> simp[mark,Sem.run]
theorem GC{t:TypeId}{l c:Value}{K:Value->Pw}(h:NV P t l c K w):∃v w',(Instr.makeSlice t l c).run P w = .ok v w'/\K v w':=by
 unfold NV at h;split at h
 .rename_i e hu;split at h
  .rename_i ie hi;split at h
   .rename_i z k1 l k2 c hz
    cases hb:(Nat.beq (cS z).length ie.size && Nat.blt 0 ie.size) with
    | false=>rw[hb]at h;exact h.elim
    | true=>
     rw[hb]at h;simp only[Bool.and_eq_true,Nat.beq_eq]at hb;have tv:0 < ie.size:=Nat.le_of_ble_eq_true hb.2;obtain⟨h0,h1,h2,h3,hk⟩:=h;refine⟨_,_,?_,hk w.heap.size _ ⟨rfl,rfl⟩⟩;have wl:IntKind.i64.wrap l=l:=IntWalk.i64_in l ⟨by omega,by omega⟩;have wc:IntKind.i64.wrap c=c:=IntWalk.i64_in c ⟨by omega,by omega⟩;have t1:(decide (c < 0) || decide ((ie.bytes:Int) * c > 2 ^ 48))=false:=by simp;omega
     have t2:(decide (l < 0))=false:=by simp;omega
     have t3:(decide (l > c))=false:=by simp;omega
     have e1:(zs:List Value)->zs.length=ie.size->(Array.range (c.toNat * ie.size)).map (fun i=>zs.toArray[i % zs.toArray.size]!)=(List.replicate c.toNat zs).flatten.toArray:=fun zs Ke=>by
      apply Array.toList_inj.1;simp only[Array.toList_map,Array.toList_range];have:=GB zs (by omega) c.toNat;rw[Ke]at this;simp only[List.size_toArray,Ke];exact this
     have ez:z.cells=(cS z).toArray:=by rw[iJ]
     simp only[Instr.makeSlice,Sem.run_bind,aB hu,Result.andThen_ok,asInt,asIntOf,Sem.run_pure,gY hi,wl,wc,t1,t2,t3,Bool.or_false,Bool.false_eq_true,if_false,run_askRoom,bI hi];by_cases hn:c.toNat * ie.size=0
     .have hc0:c.toNat=0:=by rcases Nat.mul_eq_zero.1 hn with h | h <;> omega
      simp only[hn,if_true];rw[hc0];simp[eB,Array.range]
     .simp only[if_neg hn,Sem.run_bind,eT hi hz,Result.andThen_ok,Sem.run_pure,eB,ez];rw[e1 _ hb.1]
   .exact h.elim
  .exact h.elim
 .exact h.elim
theorem Lt{t:Ty}{K:Value->Prop}(h:Yn t K):∃v,K v:=by
 cases t with
 | one s=>obtain⟨x,hx⟩:=h;exact⟨_,hx⟩
 | agg l=>
  have:∀(l:List xG)(K:List Value->Prop),exS l K->∃vs,K vs:=by
   intro l
   induction l with
   | nil=>exact fun K h=>⟨_,h⟩
   | cons s r ih=>
    intro K h
    cases s with
    | one s=>obtain⟨x,hx⟩:=h;obtain⟨vs,hv⟩:=ih _ hx;exact⟨_,hv⟩
    | row k n=>obtain⟨l,_,hx⟩:=h;obtain⟨vs,hv⟩:=ih _ hx;exact⟨_,hv⟩
  obtain⟨vs,hv⟩:=this l _ h;exact⟨_,hv⟩
 | bad=>exact h.elim
theorem oo:∀(ts:List Ty)(K:List Value->Prop),Lr ts K->∃vs,K vs
 | [],K,h=>⟨_,h⟩
 | t::ts,K,h=>by
  obtain⟨v,hv⟩:=Lt h;obtain⟨vs,hvs⟩:=oo ts _ hv;exact⟨_,hvs⟩
theorem Am{X:Type}{G:List Value->X->Prop}:∀(l:List xG)(acc:List Value)(F:List Value->X),Ac l (Gv l acc F) (fun vs Y=>G (acc++vs) Y)->∃vs,G vs (F vs)
 | [],acc,F,h=>⟨acc,by simpa[Ac,Gv] using h⟩
 | .one s::r,acc,F,h=>by
  obtain⟨x,hx⟩:=h;have GD:Ac r (Gv r (acc++[s.mk x]) F) (fun vs Y=>G (acc++s.mk x::vs) Y):=hx;exact Am (G:=G) r (acc++[s.mk x]) F (by simpa only[List.append_assoc,List.singleton_append] using GD)
 | .row k n::r,acc,F,h=>by
  obtain⟨l,_,hx⟩:=h;have GD:Ac r (Gv r (acc++l.map (Value.int k)) F) (fun vs Y=>G (acc++(l.map (Value.int k)++vs)) Y):=hx;exact Am (G:=G) r (acc++l.map (Value.int k)) F (by simpa only[List.append_assoc] using GD)
theorem zP{G:List Value->(Pw)->Prop}{K:Value->Pw}:∀(l:List Ty)(acc:List Value),FY l (wD l acc K) (fun vs Y=>G (acc++vs) Y)->∃vs,G vs (K (CX vs))
 | [],acc,h=>⟨acc,by simpa[FY,wD] using h⟩
 | .one s::r,acc,h=>by
  obtain⟨x,hx⟩:=h;have GD:FY r (wD r (acc++[s.mk x]) K) (fun vs Y=>G (acc++s.mk x::vs) Y):=hx;exact zP (G:=G) r (acc++[s.mk x]) (by simpa only[List.append_assoc,List.singleton_append] using GD)
 | .agg l::r,acc,h=>by
  have h':Ac l (Gv l [] (fun vs=>wD r (acc++[.agg vs.toArray]) K)) (fun ws K'=>FY r K' (fun vs Y=>G (acc++(.agg ws.toArray::vs)) Y)):=h;obtain⟨ws,hw⟩:=Am (G:=fun ws K'=>FY r K' (fun vs Y=>G (acc++(.agg ws.toArray::vs)) Y)) l [] _ (by simpa using h');exact zP (G:=G) r (acc++[.agg ws.toArray]) (by simpa[List.append_assoc] using hw)
 | .bad::r,acc,h=>by
  obtain⟨v,hx⟩:=h;have GD:FY r (wD r (acc++[v]) K) (fun vs Y=>G (acc++v::vs) Y):=hx;exact zP (G:=G) r (acc++[v]) (by simpa only[List.append_assoc,List.singleton_append] using GD)
theorem An{l:List Ty}{K:Value->Pw}{X:PX}{e:Ending}{w':Wd}(h:Gw l (wD l [] K) X e w'):(∃v,e = .returned v/\K v w')∨∃c,e = .panicked c/\X c w':=by
 rcases h with h | h
 .obtain⟨vs,h1,h2⟩:=zP (G:=fun vs Y=>e = .returned (CX vs)/\Y w') (K:=K) l [] (by simpa using h);exact .inl ⟨_,h1,h2⟩
 .exact .inr h
section
variable {X:PX} {rd:Bool}
theorem jP.dL{o:Oper}{ε:Operand->Value}{K:Value->Pw}{v:Value}{w':Wd}(h:(execOp ε o).run P w = .ok (.value v) w')(hk:K v w'):jP P X rd o ε K w:=by
 unfold jP;rw[h];exact hk
theorem jP.Kf{o:Oper}{ε:Operand->Value}{l:List Ty}{K:Value->Pw}{s:Sem Next}(he:execOp ε o=s){rd':Bool}(Cm:rd'=true->rd=true)(h:Gx P rd' s w (Gw l (wD l [] K) X)):jP P X rd o ε K w:=by
 unfold jP;unfold Gx at h;rw[he];generalize s.run P w=r at h;split at h
 .exact Calls.mono h fun e w' he=>An he
 .exact⟨Cm h.1,RoundIn.mono h.2 fun e w' he=>An he⟩
 .exact h.elim
theorem Ev{n:Nat}{fn:Func}{args:Array Value}(hf:P.funcs[n]? = some fn)(hc:uQ fn=true):(callFunc n args).run P w = .ok (.enter n args) w:=by
  simp only[uQ,Bool.and_eq_true,Bool.not_eq_true']at hc;have h1:fn.body≠none:=by cases hb:fn.body <;> simp_all
  have h2 : fn.name ≠ "runtime.NumGoroutine" := by simpa using hc.2
  simp[callFunc,program,Sem.run,hf,h1,h2]
theorem jP.gn{o:Oper}{ε:Operand->Value}{l:List Ty}{K:Value->Pw}{s:Sem Value}(he:execOp ε o=(do pure (Next.value (<- s))))(h:uR P l s K w):jP P X rd o ε K w:=by
 obtain⟨vs,w',h1,h2⟩:=oo _ _ h;refine .dL ?_ h2;rw[he,Sem.run_bind,h1];rfl
theorem jP.Kg{o:Oper}{ε:Operand->Value}{K:Value->Pw}{s:Sem Unit}(he:execOp ε o=(do s;pure Next.skip))(h:U9 P s K w):jP P X rd o ε K w:=by
 obtain⟨w',h1,h2⟩:=h;unfold jP;rw[he,Sem.run_bind,h1];exact h2
theorem mh{pk:Nat}{o:Oper}{ρ:Env}{K:Value->Pw}(h:RS P pk X rd o ρ K w):jP P X rd o (ev ρ) K w:=by
 obtain⟨dst,op,type,pos,after,guard⟩:=o
 have plain:Rl P ⟨dst,op,type,pos,after,guard⟩ ρ (fun v=>K v w)->jP P X rd ⟨dst,op,type,pos,after,guard⟩ (ev ρ) K w:=fun h=>by
  obtain⟨v,hv,hk⟩:=C_ h;exact .dL (hv w) hk
 cases op <;> simp only[RS]at h <;> try exact plain h
 case lookup t x i ck=>exact .gn rfl h
 case mapUpdate t m k v=>exact .Kg rfl h
 case insert t m k v=>exact .Kg rfl h
 case range t x=>exact .gn rfl h
 case entry it=>
  obtain⟨k,v,w',h1,h2⟩:=h;exact .dL (by simp only[execOp,Sem.run_bind,h1,Result.andThen_ok,Sem.run_pure]) h2
 case typeAssert x xt at_ ck=>exact .gn rfl h
 case next it isS=>
  rcases h with⟨w',h1,h2⟩ | ⟨k,v,w',h1,h2⟩
  .exact .dL (by simp only[execOp,Sem.run_bind,h1,Result.andThen_ok,Sem.run_pure]) h2
  .exact .dL (by simp only[execOp,Sem.run_bind,h1,Result.andThen_ok,Sem.run_pure]) h2
 case makeMap t r=>
  cases r with
  | none=>
   refine .dL (w':=World.cw w (.map #[] 0)) (v:= .map (some w.heap.size)) ?_ (h w.heap.size _ ⟨rfl,rfl⟩);simp[execOp,Instr.makeMap,newObj,Sem.run,World.cw]
  | some r=>exact plain h
 case panic x=>
  unfold NW at h;split at h
  .rename_i t v hv;unfold jP
   have:(execOp (ev ρ) ⟨dst,.panic x,type,pos,after,guard⟩).run P w = .halt (.panic (.iface t v)) w:=by
    simp[execOp,hv,Instr.panic,goPanic,Sem.run]
   rw[this];exact h
  .exact h.elim
 case load t x=>
  obtain⟨v,h1,h2⟩:=qK h;exact .dL (by simp only[execOp,Sem.run_bind,h1 w (fun _ _ h=>h),Result.andThen_ok,Sem.run_pure]) h2
 case store t x v=>
  obtain⟨w',h1,h2⟩:=Et h;unfold jP;simp only[execOp,Sem.run_bind,h1,Result.andThen_ok,Sem.run_pure];exact h2
 case alloc t=>
  unfold NU at h;split at h
  .rename_i i hi;split at h
   .rename_i z hz;refine .dL (w':=World.cw w (.cells (cS z).toArray t)) (v:= .pointer (some ⟨w.heap.size,0,none⟩)) ?_ (h w.heap.size _ ⟨rfl,rfl⟩);simp only[execOp,Instr.alloc,Sem.run_bind,eT hi hz,Result.andThen_ok,newVar,eB,Sem.run_pure,iJ]
   .exact h.elim
  .exact h.elim
 case box t x=>
  have fin:∀{cs:List Value},(ev ρ x).cells=cs.toArray->(af w (.cells cs.toArray t) fun b w'=>K (.pointer (some ⟨b,0,none⟩)) w')->jP P X rd ⟨dst,.box t x,type,pos,after,guard⟩ (ev ρ) K w:=fun {cs} hc h=>by
   refine .dL (w':=World.cw w (.cells cs.toArray t)) (v:= .pointer (some ⟨w.heap.size,0,none⟩)) ?_ (h w.heap.size _ ⟨rfl,rfl⟩);simp only[execOp,Instr.box,Sem.run_bind,Result.andThen_ok,newVar,eB,Sem.run_pure,hc]
  cases hv:wy P t with
  | true=>
   rw[hv]at h;simp only[cond_true]at h;refine fin ?_ h.2;have h1:=h.1
   cases hx:ev ρ x <;> rw[hx]at h1 <;> first | rfl | cases h1
  | false=>rw[hv]at h;exact fin (by rw[iJ]) h
 case buildSlice t n ps=>
  obtain⟨v,w',h1,h2⟩:=yS h;exact .dL (by simp only[execOp,Sem.run_bind,h1,Result.andThen_ok,Sem.run_pure]) h2
 case makeSlice t l c=>
  obtain⟨v,w',h1,h2⟩:=GC h;exact .dL (by simp only[execOp,Sem.run_bind,h1,Result.andThen_ok,Sem.run_pure]) h2
 case binOp bo t x y ty=>
  cases y with
  | tmp j=>
   simp only at h
   cases hq:NX P t with
   | true=>rw[hq]at h;exact .gn rfl h
   | false=>rw[hq]at h;exact plain h
  | const v=>exact plain h
  | global g=>exact plain h
  | func n=>exact plain h
 case convert s d x=>
  cases hb:Db P s d with
  | true=>rw[hb]at h;exact .gn rfl h
  | false=>
   rw[hb]at h;simp only[cond_false]at h
   cases hq:Gz P s d with
   | true=>rw[hq]at h;exact .gn rfl h
   | false=>
   rw[hq]at h;simp only[cond_false]at h;obtain⟨v,h1,h2⟩:=xK h;exact .dL (by simp only[execOp,Sem.run_bind,h1 w (fun _ _ h=>h),Result.andThen_ok,Sem.run_pure]) h2
 case call c=>
  obtain⟨callee,args,argTypes⟩:=c;have ea:args.map (ev ρ)=(args.toList.map (ev ρ)).toArray:=by apply Array.toList_inj.1;simp
  cases callee with
  | value f=>
   have dyn:aD P rd (ev ρ f) (args.toList.map (ev ρ)) (qJ P type) (wD (qJ P type) [] K) X w->jP P X rd ⟨dst,.call ⟨.value f,args,argTypes⟩,type,pos,after,guard⟩ (ev ρ) K w:=fun h=>by
    refine .Kf (s:=Gy (ev ρ f) (args.toList.map (ev ρ))) ?_ id h;simp only[execOp,resolve,Gy,ea]
   cases f with
   | func n=>
    simp only at h;unfold TO at h;split at h
    .rename_i fn hfn
     have hx:(execOp (ev ρ) ⟨dst,.call ⟨.value (.func n),args,argTypes⟩,type,pos,after,guard⟩)=callFunc n (args.toList.map (ev ρ)).toArray:=by
      simp only[execOp,resolve,ev,Deferred.ofValue,pure_bind,invoke,ea];congr 1;apply Array.toList_inj.1;simp
     cases hc:uQ fn with
     | true=>
      rw[hc]at h;simp only[cond_true]at h;unfold jP;rw[hx,Ev hfn hc]
      cases hp:Nat.testBit pk n with
      | true=>
       rw[hp]at h;refine Calls.mono h fun e w' he=>?_
       rcases he with he | he
       .obtain⟨vs,h1,h2⟩:=oo _ _ he;exact .inl ⟨_,h1,h2⟩
       .exact .inr he
      | false=>
       rw[hp]at h;refine Calls.mono h fun e w' he=>?_
       obtain⟨vs,h1,h2⟩:=oo _ _ he;exact .inl ⟨_,h1,h2⟩
     | false=>
      rw[hc]at h;simp only[cond_false]at h;obtain⟨vs,w',h1,h2⟩:=oo _ _ h;exact .dL (by rw[hx];exact h1) h2
    .exact h.elim
   | tmp t=>exact dyn h
   | const v=>exact dyn h
   | global g=>exact dyn h
  | invoke r m=>
   refine .Kf (s:=invoke (.fn (.method m) #[]) (#[ev ρ r]++(args.toList.map (ev ρ)).toArray)) ?_ (by simp) h;simp only[execOp,resolve,pure_bind,ea]
  | builtin b=>
   cases b <;> simp only at h <;> try exact plain h
   case delete=>exact .gn (by simp only[execOp,resolve,pure_bind,invoke,builtin]) h
   case clear=>exact .gn (by simp only[execOp,resolve,pure_bind,invoke,builtin]) h
   case unsafeSliceData=>exact .gn (by simp only[execOp,resolve,pure_bind,invoke,builtin]) h
   case unsafeString=>exact .gn (by simp only[execOp,resolve,pure_bind,invoke,builtin]) h
   case max=>
    cases hm:Nat.beq args.toList.length 2 with
    | true=>rw[hm]at h;exact plain h
    | false=>rw[hm]at h;exact .gn (by simp only[execOp,resolve,pure_bind,invoke,builtin]) h
   case len=>
    cases hm:NY P argTypes.toList with
    | true=>rw[hm]at h;exact .gn (by simp only[execOp,resolve,pure_bind,invoke,builtin]) h
    | false=>rw[hm]at h;exact plain h
   case append=>
    split at h
    .rename_i s x t t' hs ht;split at h
     .rename_i a n c hv;obtain⟨s',w',h1,h2⟩:=h;refine .dL ?_ h2;have ea:args.map (ev ρ)=#[(⟨a,n,c⟩ : Sl).v,ev ρ x]:=by rw[Es,hs];simp[hv]
      have et:argTypes=#[t,t']:=by apply Array.toList_inj.1;simp[ht]
      simp only[execOp,resolve,pure_bind,invoke,builtin,ea,et,Sem.run_bind,h1,Result.andThen_ok,Sem.run_pure]
     .exact h.elim
    .exact h.elim
   case copy=>
    split at h
    .rename_i s x t t' hs ht;split at h
     .rename_i a n c hv;obtain⟨s',w',h1,h2⟩:=h;refine .dL ?_ h2;have ea:args.map (ev ρ)=#[(⟨a,n,c⟩ : Sl).v,ev ρ x]:=by rw[Es,hs];simp[hv]
      have et:argTypes=#[t,t']:=by apply Array.toList_inj.1;simp[ht]
      simp only[execOp,resolve,pure_bind,invoke,builtin,ea,et,Sem.run_bind,h1,Result.andThen_ok,Sem.run_pure]
     .exact h.elim
    .exact h.elim
end
theorem GF{S:Pw}{o:Oper}{ρ:Env}{K:Value->Prop}(h:NZ P S o ρ K):∃v,(∀w,S w->(execOp (ev ρ) o).run P w = .ok (.value v) w)/\K v:=by
 obtain⟨dst,op,type,pos,after,guard⟩:=o
 have plain:Rl P ⟨dst,op,type,pos,after,guard⟩ ρ K->∃v,(∀w,S w->(execOp (ev ρ) ⟨dst,op,type,pos,after,guard⟩).run P w = .ok (.value v) w)/\K v:=fun h=>by
  obtain⟨v,hv,hk⟩:=C_ h;exact⟨v,fun w _=>hv w,hk⟩
 cases op <;> simp only[NZ]at h <;> try exact plain h
 case load t x=>
  obtain⟨v,h1,h2⟩:=qK h;exact⟨v,fun w hS=>by simp only[execOp,Sem.run_bind,h1 w (fun _ _ h=>h w hS),Result.andThen_ok,Sem.run_pure],h2⟩
 case convert s d x=>
  obtain⟨v,h1,h2⟩:=xK h;exact⟨v,fun w hS=>by simp only[execOp,Sem.run_bind,h1 w (fun _ _ h=>h w hS),Result.andThen_ok,Sem.run_pure],h2⟩
end sound
def gW(ops:Array Oper)(o:Oper)(ρ:Env)(A B:Prop):Prop:=
 match o.guard with
 | none=>A
 | some (j,want)=>match(ops[j]?).bind (·.dst) with
  | some d=>match ρ d with
   | .bool b=>bif want then(bif b then A else B) else(bif b then B else A)
   | _=>B
  | none=>B
def nK(g:Bool)(v:Value)(K:Value->Prop):Prop:=
 bif g then(match v with
  | .bool b=>If b (K (.bool true)) (K (.bool false))
  | v=>K v) else K v
def TR(ops:Array Oper)(i:Nat):Bool:=ops.toList.any fun o=>match o.guard with
 | some (j,_)=>Nat.beq j i
 | none=>false
def Va(P:Program)(ops:Array Oper)(d:Option Tmp):Option (List Ty):=
 match ops.toList.findSome? (fun o=>match o.op with
  | .extract (.tmp t) 0=>if d=some t then some (uN P o.type) else none
  | _=>none),ops.toList.findSome? (fun o=>match o.op with
  | .extract (.tmp t) 1=>if d=some t then some (uN P o.type) else none
  | _=>none) with
 | some a,some b=>some [a,b]
 | _,_=>none
def Yz(P:Program)(pk:Nat)(X:PX)(ops:Array Oper)(o:Oper)(ρ:Env)(K:Value->Pw)(w:Wd):Prop:=
 match o.op with
 | .entry it=>match Va P ops o.dst with
  | some l=>uR P l (Instr.entry (ev ρ it)) K w
  | none=>RS P pk X true o ρ K w
 | _=>RS P pk X true o ρ K w
def IW(P:Program)(pk:Nat)(X:PX)(ops:Array Oper):Nat->List Oper->Env->(Env->Pw)->Pw
 | _,[],ρ,K,w=>K ρ w
 | i,o::r,ρ,K,w=>gW ops o ρ (Yz P pk X ops o ρ (fun v w'=>nK (TR ops i) v fun v=>IW P pk X ops (i+1) r (dJ ρ o.dst v) K w') w) (IW P pk X ops (i+1) r (dJ ρ o.dst undef) K w)
inductive po where
 | fin
 | last (i:Nat)
 | take (i:Nat) (r:po)
 | one (i:Nat) (r:po)
 | two (i:Nat) (ri:po) (j:Nat) (rj:po)
 | three (i:Nat) (ri:po) (j:Nat) (rj:po) (k:Nat) (rk:po)
 | four (i:Nat) (ri:po) (j:Nat) (rj:po) (k:Nat) (rk:po) (l:Nat) (rl:po)
def bY:List Nat->po->po
 | [],p=>p
 | a::l,p=> .take a (bY l p)
def uS(P:Program)(pk:Nat)(X:PX)(ops:Array Oper)(S:Pw)(i:Nat)(next:Env->Pw)(ρ:Env)(w:Wd):Prop:=
 match ops[i]? with
 | some o=>gW ops o ρ (RS P pk X false o ρ (fun v w'=>S w'/\nK (TR ops i) v fun v=>next (dJ ρ o.dst v) w') w) (next (dJ ρ o.dst undef) w)
 | none=>False
def iU(P:Program)(pk:Nat)(X:PX)(ops:Array Oper)(S:Pw):po->Env->(Env->Pw)->Pw
 | .fin,ρ,K,w=>K ρ w
 | .last i,ρ,K,w=>match ops[i]? with
  | some o=>gW ops o ρ (RS P pk X false o ρ (fun v w'=>nK (TR ops i) v fun v=>K (dJ ρ o.dst v) w') w) (K (dJ ρ o.dst undef) w)
  | none=>False
 | .take i r,ρ,K,w=>match ops[i]? with
  | some o=>gW ops o ρ (NZ P S o ρ (fun v=>nK (TR ops i) v fun v=>iU P pk X ops S r (dJ ρ o.dst v) K w)) (iU P pk X ops S r (dJ ρ o.dst undef) K w)
  | none=>False
 | .one i r,ρ,K,w=>uS P pk X ops S i (fun ρ' w'=>iU P pk X ops S r ρ' K w') ρ w
 | .two i ri j rj,ρ,K,w=>uS P pk X ops S i (fun ρ' w'=>iU P pk X ops S ri ρ' K w') ρ w/\uS P pk X ops S j (fun ρ' w'=>iU P pk X ops S rj ρ' K w') ρ w
 | .three i ri j rj k rk,ρ,K,w=>uS P pk X ops S i (fun ρ' w'=>iU P pk X ops S ri ρ' K w') ρ w/\uS P pk X ops S j (fun ρ' w'=>iU P pk X ops S rj ρ' K w') ρ w/\uS P pk X ops S k (fun ρ' w'=>iU P pk X ops S rk ρ' K w') ρ w
 | .four i ri j rj k rk l rl,ρ,K,w=>uS P pk X ops S i (fun ρ' w'=>iU P pk X ops S ri ρ' K w') ρ w/\uS P pk X ops S j (fun ρ' w'=>iU P pk X ops S rj ρ' K w') ρ w/\uS P pk X ops S k (fun ρ' w'=>iU P pk X ops S rk ρ' K w') ρ w/\uS P pk X ops S l (fun ρ' w'=>iU P pk X ops S rl ρ' K w') ρ w
def bW(ops:Array Oper):po->Nat->Array Bool->Bool
 | .fin,_,li=>(Region.ready .any ops li).isEmpty
 | .last i,_+1,li=>Region.ready .any ops li == [i] && zZ ops i && (Region.ready .any ops (li.setIfInBounds i true)).isEmpty
 | .take i r,f+1,li=>Region.free .any ops li i && (Region.ready .any ops li).contains i && bW ops r f (li.setIfInBounds i true)
 | .one i r,f+1,li=>Region.ready .any ops li == [i] && bW ops r f (li.setIfInBounds i true)
 | .two i ri j rj,f+1,li=>Region.ready .any ops li == [i,j] && bW ops ri f (li.setIfInBounds i true) && bW ops rj f (li.setIfInBounds j true)
 | .three i ri j rj k rk,f+1,li=>Region.ready .any ops li == [i,j,k] && bW ops ri f (li.setIfInBounds i true) && bW ops rj f (li.setIfInBounds j true) && bW ops rk f (li.setIfInBounds k true)
 | .four i ri j rj k rk l rl,f+1,li=>Region.ready .any ops li == [i,j,k,l] && bW ops ri f (li.setIfInBounds i true) && bW ops rj f (li.setIfInBounds j true) && bW ops rk f (li.setIfInBounds k true) && bW ops rl f (li.setIfInBounds l true)
 | _,0,_=>false
@[reducible] def Xv:List (Nat×Sh)->Type
 | []=>Pw
 | (_,s)::r=>s.T->Xv r
def GG:(l:List (Nat×Sh))->Xv l->Env->Pw
 | [],J,_,w=>J w
 | (t,s)::r,J,ρ,w=>s.get (ρ t) (fun x=>GG r (J x) ρ w)
def RV:(l:List (Nat×Sh))->Xv l->Env->(Env->Pw)->Prop
 | [],J,ρ,F=>∀w,J w->F ρ w
 | (t,s)::r,J,ρ,F=>∀x:s.T,RV r (J x) (put ρ t (s.mk x)) F
inductive wj where
 | nil
 | seq (a b:wj)
 | join (l:List (Nat×Sh)) (mask:Nat) (a b:wj)
 | cond (a b:wj)
 | block (a:wj)
 | loop (l:List (Nat×Sh)) (mask:Nat) (a:wj)
 | scope (a:wj)
 | draw (p:po)
 | free
abbrev qz(a:wj):wj:= .seq .nil a
abbrev n0:wj:= .nil
def sW(next:Env->Pw)(Q:Exit->Env->Pw):Exit->Env->Pw
 | .normal,ρ,w=>next ρ w
 | e,ρ,w=>Q e ρ w
def Ao(id:Nat)(Q:Exit->Env->Pw):Exit->Env->Pw
 | .exit i,ρ,w=>bif Nat.beq i id then Q .normal ρ w else Q (.exit i) ρ w
 | e,ρ,w=>Q e ρ w
def N_(Q:Exit->Env->Pw):Exit->Env->Pw
 | .goto _,_,_=>False
 | e,ρ,w=>Q e ρ w
def aa(w:Wd):Wd:={ w with drawn:=w.drawn+1 }
def TS(v:Value)(A B:Prop):Prop:=match v with
 | .bool b=>If b A B
 | _=>False
def Oa(P:Program)(pk:Nat)(X:PX)(ops:Array Oper)(i:Nat)(next:Env->Pw)(ρ:Env)(w:Wd):Prop:=
 match ops[i]? with
 | some o=>gW ops o ρ (RS P pk X false o ρ (fun v w'=>next (dJ ρ o.dst v) w') w) (next (dJ ρ o.dst undef) w)
 | none=>False
def Ew(ops:Array Oper)(i:Nat)(d:Nat->Bool):Bool:=match ops[i]? with
 | some o=>o.after.toList.all fun e=>!Region.binds .any e || d e.on
 | none=>false
abbrev Df(d:Nat->Bool)(i:Nat):Nat->Bool:=fun j=>bif Nat.beq j i then true else d j
def YA(P:Program)(pk:Nat)(X:PX)(ops:Array Oper)(K:Env->Pw)(ρ:Env)(w:Wd):Prop:=
 ∃Inv:(Nat->Bool)->Env->Pw,Inv (fun _=>false) ρ w/\(∀d ρ w,Inv d ρ w->(∀i,i < ops.size->d i=true)->K ρ w)/\
  ∀d ρ w,Inv d ρ w->∀i,d i=false->Ew ops i d=true->Oa P pk X ops i (fun ρ' w'=>Inv (Df d i) ρ' w') ρ w
def uT(ops:Array Oper):Bool:=(List.range ops.size).all fun i=>match ops[i]? with
 | some o=>o.after.toList.all fun e=>Nat.blt e.on i
 | none=>false
def tw(P:Program)(pk:Nat)(X:PX):wj->Code->(Exit->Env->Pw)->Env->Pw
 | .nil,.skip,Q,ρ,w=>Q .normal ρ w
 | .nil,.label _,Q,ρ,w=>Q .normal ρ w
 | .nil,.exit i,Q,ρ,w=>Q (.exit i) ρ w
 | .nil,.goto l,Q,ρ,w=>Q (.goto l) ρ w
 | .nil,.ret,Q,ρ,w=>Q .ret ρ w
 | .nil,.region _ ops false,Q,ρ,w=>IW P pk X ops 0 ops.toList ρ (Q .normal) w
 | .draw p,.region _ ops true,Q,ρ,w=>∃S:Pw,S (aa w)/\iU P pk X ops S p ρ (Q .normal) (aa w)
 | .free,.region _ ops true,Q,ρ,w=>YA P pk X ops (Q .normal) ρ (aa w)
 | .seq a b,.seq x y,Q,ρ,w=>tw P pk X a x (sW (tw P pk X b y Q) Q) ρ w
 | .join l mask a b,.seq x y,Q,ρ,w=>∃J:Xv l,tw P pk X a x (sW (GG l J) Q) ρ w/\∀NQ,RV l J (mix mask NQ ρ) (tw P pk X b y Q)
 | .cond a b,.cond c x y,Q,ρ,w=>TS (ev ρ c) (tw P pk X a x Q ρ w) (tw P pk X b y Q ρ w)
 | .block a,.block id c,Q,ρ,w=>tw P pk X a c (Ao id Q) ρ w
 | .scope a,.scope c,Q,ρ,w=>tw P pk X a c (N_ Q) ρ w
 | .loop l mask a,.loop c,Q,ρ,w=>∃I:Nat->Xv l,(∃m,GG l (I m) ρ w)/\∀NQ m,RV l (I m) (mix mask NQ ρ) (fun ρ' w'=>tw P pk X a c (sW (fun YB gE=>∃m',m' < m/\GG l (I m') YB gE) Q) ρ' w')
 | _,_,_,_,_=>False
def oq(mask:Nat):Option Nat->Bool
 | some d=>Nat.testBit mask d
 | none=>true
def dm(mask:Nat):Code->Bool
 | .region _ ops _=>ops.toList.all fun o=>oq mask o.dst
 | .seq a b=>dm mask a && dm mask b
 | .cond _ a b=>dm mask a && dm mask b
 | .block _ a=>dm mask a
 | .scope a=>dm mask a
 | .loop a=>dm mask a
 | .skip | .label _ | .exit _ | .goto _ | .ret=>true
 | _=>false
def uU(P:Program)(n:Nat):wj->Code->Bool
 | .nil,.region _ ops false=>ops.toList.all fun o=>qH n o.dst
 | .draw p,.region _ ops true=>(ops.toList.all fun o=>qH n o.dst) && Region.noSelect ops && P.follows .mixedOrders && bW ops p ops.size (Array.replicate ops.size false)
 | .nil,_=>true
 | .free,.region _ ops true=>(ops.toList.all fun o=>qH n o.dst) && P.follows .mixedOrders && uT ops
 | .seq a b,.seq x y=>uU P n a x && uU P n b y
 | .join l mask a b,.seq x y=>uU P n a x && uU P n b y && dm mask x && l.all fun p=>Nat.testBit mask p.1
 | .cond a b,.cond _ x y=>uU P n a x && uU P n b y
 | .block a,.block _ x=>uU P n a x
 | .scope a,.scope x=>uU P n a x
 | .loop l mask a,.loop x=>uU P n a x && dm mask x && l.all fun p=>Nat.testBit mask p.1
 | _,_=>false
def pq:Code->Bool
 | .region _ _ d=>!d
 | .seq a b=>pq a && pq b
 | .cond _ a b=>pq a && pq b
 | .block _ a=>pq a
 | .scope a=>pq a
 | .loop a=>pq a
 | _=>true
def yT(P:Program):List ResultVar->Env->Wd->(List Value->Prop)->Prop
 | [],_,_,F=>F []
 | .tmp t::r,ρ,w,F=>yT P r ρ w (fun vs=>F (ρ t::vs))
 | .cell a t::r,ρ,w,F=>Gu (Cell w) P t (ρ a) (fun v=>yT P r ρ w (fun vs=>F (v::vs)))
def Lu(P:Program)(tys:List Ty)(rs:List ResultVar)(K:jC tys):Exit->Env->Pw
 | .ret,ρ,w=>yT P rs ρ w (fun vs=>qI tys vs K w)
 | .normal,ρ,w=>yT P rs ρ w (fun vs=>qI tys vs K w)
 | _,_,_=>False
end Go.V
