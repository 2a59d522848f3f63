/- Texts for LWitnessNone, part 5. -/
import Derived.IntWalk
import Derived.Test.YtmbckodpbdlblaaGreatQw4
namespace Go.V
section sound
variable {P:Program} {w:Wd}
theorem setL_eq:∀(vs cs:List Value)(o:Nat),o+vs.length<=cs.length->setL cs o vs=cs.take o++vs++cs.drop (o+vs.length)
 | [],cs,o,_=>by simp [setL]
 | v::vs,cs,o,h=>by
  simp only [List.length_cons] at h
  rw [setL,setL_eq vs (cs.set o v) (o+1) (by simp; omega)]
  rw [List.take_set,List.drop_set_of_lt (by omega)]
  have ho:o < cs.length:=by omega
  have e1:(cs.take (o+1)).set o v=cs.take o++[v]:=by
   rw [List.take_succ_eq_append_getElem ho]
   rw [List.set_append_right _ _ (by simp; omega)]
   have:o - (List.take o cs).length=0:=by simp; omega
   rw [this]; rfl
  rw [e1]
  simp [List.append_assoc]
  congr 1; omega
theorem elems_sound{ρ:Env}{n sz:Nat}:∀(parts:List (Nat×Operand))(i:Nat)(cells:Array Value)(out:List Value),elemsL ρ n sz i parts=some out->cells.size=n * sz->i<=n ->
  Instr.fill (fun i=>some (i * sz,sz)) cells (parts.map fun p=>(p.1,ev ρ p.2))=some (cells.toList.take (i * sz)++out).toArray/\out.length=(n - i) * sz
 | [],i,cells,out,h,hc,hi=>by
  unfold elemsL at h
  cases hb:Nat.beq i n with
  | false=>rw [hb] at h; cases h
  | true =>
   rw [hb] at h
   simp only [cond_true,Option.some.injEq] at h
   subst h
   have:=Nat.eq_of_beq_eq_true hb
   subst this
   simp [Instr.fill,List.take_of_length_le,<- hc]
 | (j,x)::r,i,cells,out,h,hc,hi=>by
  unfold elemsL at h
  cases hb:(Nat.beq i j && Nat.beq (cellsL (ev ρ x)).length sz) with
  | false=>rw [hb] at h; cases h
  | true =>
   rw [hb] at h
   simp only [cond_true,Option.map_eq_some_iff] at h
   obtain ⟨out',ho,rfl⟩:=h
   simp only [Bool.and_eq_true,Nat.beq_eq] at hb
   obtain ⟨rfl,hl⟩:=hb
   rw [cellsL_eq] at hl
   have hin:i < n:=by
    rcases Nat.lt_or_ge i n with h | h
    .exact h
    .exfalso
     have:i=n:=by omega
     subst this
     cases r with
     | nil=>exact no_more _ _ _ (by omega) ho
     | cons p r=>exact no_more _ _ _ (by omega) ho
   have hsz:i * sz+sz<=n * sz:=by
    have:(i+1) * sz<=n * sz:=Nat.mul_le_mul_right sz hin
    rw [Nat.add_mul] at this; omega
   simp only [List.map_cons,Instr.fill]
   have e1:¬ ((decide ((ev ρ x).cells.size≠sz) || decide (i * sz+(ev ρ x).cells.size > cells.size))=true):=by
    have:(ev ρ x).cells.size=sz:=by simpa using hl
    simp [this,hc]; omega
   rw [if_neg e1]
   have e2:=fill_cells (i * sz) (ev ρ x).cells.toList 0 cells
   rw [Nat.add_zero,setL_eq _ _ _ (by rw [hl,Array.length_toList,hc]; exact hsz),hl] at e2
   have e3:(Array.foldl (fun cs (p:Value×Nat)=>cs.setIfInBounds (i * sz+p.2) p.1) cells (ev ρ x).cells.zipIdx).toList=cells.toList.take (i * sz)++(ev ρ x).cells.toList++cells.toList.drop (i * sz+sz):=by
    rw [<- Array.foldl_toList,Array.toList_zipIdx]; exact e2
   obtain ⟨h1,h2⟩:=elems_sound r (i+1) (Array.foldl (fun cs (p:Value×Nat)=>cs.setIfInBounds (i * sz+p.2) p.1) cells (ev ρ x).cells.zipIdx) out' ho (by
    rw [<- Array.length_toList,e3]; simp only [List.length_append,List.length_take,List.length_drop,Array.length_toList,hc,hl]
    have:(ev ρ x).cells.size=sz:=by simpa using hl
    omega) (by omega)
   refine ⟨?_,?_⟩
   .rw [h1,e3]
    congr 2
    rw [cellsL_eq]
    have e4:(i+1) * sz=i * sz+sz:=by rw [Nat.add_mul]; omega
    rw [e4]
    have hlen:(cells.toList.take (i * sz)++(ev ρ x).cells.toList).length=i * sz+sz:=by
     simp only [List.length_append,List.length_take,Array.length_toList,hc]
     have:(ev ρ x).cells.size=sz:=by simpa using hl
     omega
    rw [List.take_append_of_le_length (by rw [hlen]; exact Nat.le_refl _),List.take_of_length_le (by rw [hlen]; exact Nat.le_refl _),List.append_assoc]
   .rw [List.length_append,h2,cellsL_eq,hl]
    have:n - i=(n - (i+1))+1:=by omega
    rw [this,Nat.add_mul]; omega
where
 no_more {ρ:Env} {n sz:Nat}:∀(parts:List (Nat×Operand))(i:Nat)(out:List Value),n < i->elemsL ρ n sz i parts=some out->False
 | [],i,out,h,he=>by
  unfold elemsL at he
  have:Nat.beq i n=false:=by
   cases hb:Nat.beq i n with
   | false=>rfl
   | true=>have:=Nat.eq_of_beq_eq_true hb; omega
  rw [this] at he; cases he
 | (j,x)::r,i,out,h,he=>by
  unfold elemsL at he
  cases hb:(Nat.beq i j && Nat.beq (cellsL (ev ρ x)).length sz) with
  | false=>rw [hb] at he; cases he
  | true =>
   rw [hb] at he
   simp only [cond_true,Option.map_eq_some_iff] at he
   obtain ⟨o,ho,_⟩:=he
   exact no_more r (i+1) o (by omega) ho
theorem elemsR_L{ρ:Env}{n sz:Nat}:∀(parts:List (Nat×Operand))(i:Nat)(K:List Value->Prop),elemsR ρ n sz i parts K->∃ cs,elemsL ρ n sz i parts=some cs/\K cs
 | [],i,K,h=>by
  unfold elemsR at h
  unfold elemsL
  cases hb:Nat.beq i n with
  | false=>rw [hb] at h; exact h.elim
  | true=>rw [hb] at h; exact ⟨[],rfl,h⟩
 | (j,x)::r,i,K,h=>by
  unfold elemsR at h
  unfold elemsL
  cases hb:Nat.beq i j with
  | false=>rw [hb] at h; exact h.elim
  | true =>
   rw [hb] at h
   simp only [cond_true] at h
   obtain ⟨h1,h2⟩:=h
   obtain ⟨cs,hc,hk⟩:=elemsR_L r (i+1) _ h2
   refine ⟨_,?_,hk⟩
   have e:Nat.beq (cellsL (ev ρ x)).length sz=true:=by rw [h1]; exact Nat.beq_refl _
   rw [e,hc]; rfl
theorem newSliceW_sound{t:TypeId}{n:Nat}{ρ:Env}{parts:Array (Nat×Operand)}{K:Value->Wd->Prop}(h:newSliceW P t n ρ parts.toList K w) :
  ∃ v w',(Instr.buildSlice t n (parts.map fun (i,x)=>(i,ev ρ x))).run P w = .ok v w'/\K v w':=by
 unfold newSliceW at h
 split at h
 .rename_i e hu
  split at h
  .rename_i ie hi
   cases hb:Nat.ble (n * ie.size) 16777216 with
   | false=>rw [hb] at h; exact h.elim
   | true =>
    rw [hb] at h
    simp only [cond_true] at h
    have h':∃ z cs,ie.zero=some z/\elemsL ρ n ie.size 0 parts.toList=some cs/\NewW w (.cells cs.toArray e) fun b w'=>K (.slice (some ⟨b,0,none⟩) n n) w':=by
     cases hr:rowT P e with
     | true =>
      rw [hr] at h
      simp only [cond_true] at h
      cases hz:ie.zero with
      | none=>rw [hz] at h; exact h.elim
      | some z =>
       rw [hz] at h
       obtain ⟨cs,h1,h2⟩:=elemsR_L _ _ _ h
       exact ⟨z,cs,rfl,h1,h2⟩
     | false =>
      rw [hr] at h
      simp only [cond_false] at h
      split at h
      .rename_i z cs hz hcs; exact ⟨z,cs,hz,hcs,h⟩
      .exact h.elim
    obtain ⟨z,cs,hz,hcs,h⟩:=h'
    .refine ⟨_,_,?_,h w.heap.size _ ⟨rfl,rfl⟩⟩
     have hle:¬ (n * ie.size > 2 ^ 24):=by have:=Nat.le_of_ble_eq_true hb; omega
     have e3:(parts.map fun (x:Nat×Operand)=>(x.1,ev ρ x.2)).toList=parts.toList.map fun p=>(p.1,ev ρ p.2):=by simp
     have fin:∀ zero:Array Value,Instr.fill (fun i=>some (i * ie.size,ie.size)) ((Array.range (n * ie.size)).map (fun x=>zero[x % zero.size]!)) (parts.toList.map fun p=>(p.1,ev ρ p.2))=some cs.toArray:=fun zero=>by
      have:=(elems_sound (ρ:=ρ) (n:=n) (sz:=ie.size) parts.toList 0 ((Array.range (n * ie.size)).map (fun x=>zero[x % zero.size]!)) cs hcs (by simp) (Nat.zero_le _)).1
      simpa using this
     by_cases h0:n * ie.size=0
     .have:=fin #[]
      rw [h0] at this
      have e4:¬ (0 > 2 ^ 24):=by decide
      simp only [Instr.buildSlice,Sem.run_bind,run_und hu,run_size hi,Result.andThen_ok,h0,if_true,e3,if_neg e4,Sem.run_pure]
      simp only [this,Sem.run_bind,run_newRow,Result.andThen_ok,Sem.run_pure]
     .simp only [Instr.buildSlice,Sem.run_bind,run_und hu,run_size hi,Result.andThen_ok,if_neg hle,if_neg h0,Sem.run_pure,e3,run_zero hi hz]
      have:=fin z.cells
      simp only [this,Sem.run_bind,run_newRow,Result.andThen_ok,Sem.run_pure]
  .exact h.elim
 .exact h.elim
theorem rep_flat(zs:List Value)(hz:0 < zs.length):∀ c:Nat,(List.range (c * zs.length)).map (fun i=>zs.toArray[i % zs.length]!)=(List.replicate c zs).flatten
 | 0=>by simp
 | c+1=>by
  have ih:=rep_flat zs hz c
  rw [Nat.add_mul,Nat.one_mul,List.range_add,List.map_append,ih,List.replicate_succ',List.flatten_append]
  congr 1
  simp only [List.map_map,List.flatten_cons,List.flatten_nil,List.append_nil]
  apply List.ext_getElem (by simp)
  intro i h1 h2
  simp only [List.getElem_map,List.getElem_range,Function.comp]
  have e:(c * zs.length+i) % zs.length=i:=by rw [Nat.mul_comm,Nat.mul_add_mod]; exact Nat.mod_eq_of_lt h2
  rw [e,getElem!_pos zs.toArray i (by simpa using h2)]
  simp
theorem run_askRoom{n:Nat}:(askRoom n).run P w = .ok () w:=by
 unfold askRoom; split <;> simp [mark,Sem.run]
theorem makeW_sound{t:TypeId}{l c:Value}{K:Value->Wd->Prop}(h:makeW P t l c K w):∃ v w',(Instr.makeSlice t l c).run P w = .ok v w'/\K v w':=by
 unfold makeW at h
 split at h
 .rename_i e hu
  split at h
  .rename_i ie hi
   split at h
   .rename_i z k1 l k2 c hz
    cases hb:(Nat.beq (cellsL z).length ie.size && Nat.blt 0 ie.size) with
    | false=>rw [hb] at h; exact h.elim
    | true =>
     rw [hb] at h
     simp only [Bool.and_eq_true,Nat.beq_eq] at hb
     have hpos:0 < ie.size:=Nat.le_of_ble_eq_true hb.2
     obtain ⟨h0,h1,h2,h3,hk⟩:=h
     refine ⟨_,_,?_,hk w.heap.size _ ⟨rfl,rfl⟩⟩
     have wl:IntKind.i64.wrap l=l:=IntWalk.i64_in l ⟨by omega,by omega⟩
     have wc:IntKind.i64.wrap c=c:=IntWalk.i64_in c ⟨by omega,by omega⟩
     have t1:(decide (c < 0) || decide ((ie.bytes:Int) * c > 2 ^ 48))=false:=by simp; omega
     have t2:(decide (l < 0))=false:=by simp; omega
     have t3:(decide (l > c))=false:=by simp; omega
     have e1:(zs:List Value)->zs.length=ie.size->(Array.range (c.toNat * ie.size)).map (fun i=>zs.toArray[i % zs.toArray.size]!)=(List.replicate c.toNat zs).flatten.toArray:=fun zs hzs=>by
      apply Array.toList_inj.1
      simp only [Array.toList_map,Array.toList_range]
      have:=rep_flat zs (by omega) c.toNat
      rw [hzs] at this
      simp only [List.size_toArray,hzs]
      exact this
     have ez:z.cells=(cellsL z).toArray:=by rw [cellsL_eq]
     simp only [Instr.makeSlice,Sem.run_bind,run_und hu,Result.andThen_ok,asInt,asIntOf,Sem.run_pure,run_info hi,wl,wc,t1,t2,t3,Bool.or_false,Bool.false_eq_true,if_false,run_askRoom,run_size hi]
     by_cases hn:c.toNat * ie.size=0
     .have hc0:c.toNat=0:=by rcases Nat.mul_eq_zero.1 hn with h | h <;> omega
      simp only [hn,if_true]
      rw [hc0]; simp [run_newRow,Array.range]
     .simp only [if_neg hn,Sem.run_bind,run_zero hi hz,Result.andThen_ok,Sem.run_pure,run_newRow,ez]
      rw [e1 _ hb.1]
   .exact h.elim
  .exact h.elim
 .exact h.elim
theorem exTy_elim{t:Ty}{K:Value->Prop}(h:exTy t K):∃ v,K v:=by
 cases t with
 | one s=>obtain ⟨x,hx⟩:=h; exact ⟨_,hx⟩
 | agg l =>
  have:∀(l:List Seg)(K:List Value->Prop),exS l K->∃ vs,K vs:=by
   intro l
   induction l with
   | nil=>exact fun K h=>⟨_,h⟩
   | cons s r ih =>
    intro K h
    cases s with
    | one s=>obtain ⟨x,hx⟩:=h; obtain ⟨vs,hv⟩:=ih _ hx; exact ⟨_,hv⟩
    | row k n=>obtain ⟨l,_,hx⟩:=h; obtain ⟨vs,hv⟩:=ih _ hx; exact ⟨_,hv⟩
  obtain ⟨vs,hv⟩:=this l _ h
  exact ⟨_,hv⟩
 | bad=>exact h.elim
theorem exVs_elim:∀(ts:List Ty)(K:List Value->Prop),exVs ts K->∃ vs,K vs
 | [],K,h=>⟨_,h⟩
 | t::ts,K,h=>by
  obtain ⟨v,hv⟩:=exTy_elim h
  obtain ⟨vs,hvs⟩:=exVs_elim ts _ hv
  exact ⟨_,hvs⟩
theorem exCS_cur{X:Type}:∀(l:List Seg)(F:List Value->X)(G:List Value->X->Prop),exCS l (curS l F) (fun vs Y=>G vs Y)->∃ vs,G vs (F vs)
 | [],F,G,h=>⟨[],h⟩
 | .one s::r,F,G,h=>by
  obtain ⟨x,hx⟩:=h
  obtain ⟨vs,hv⟩:=exCS_cur r (fun vs=>F (s.mk x::vs)) (fun vs Y=>G (s.mk x::vs) Y) hx
  exact ⟨_,hv⟩
 | .row k n::r,F,G,h=>by
  obtain ⟨l,_,hx⟩:=h
  obtain ⟨vs,hv⟩:=exCS_cur r (fun vs=>F (l.map (Value.int k)++vs)) (fun vs Y=>G (l.map (Value.int k)++vs) Y) hx
  exact ⟨_,hv⟩
theorem exC_cur{G:List Value->(Wd->Prop)->Prop}{K:Value->Wd->Prop}:∀(l:List Ty)(acc:List Value),exC l (curK l acc K) (fun vs Y=>G (acc++vs) Y)->∃ vs,G vs (K (tup vs))
 | [],acc,h=>⟨acc,by simpa [exC,curK] using h⟩
 | .one s::r,acc,h=>by
  obtain ⟨x,hx⟩:=h
  have hx':exC r (curK r (acc++[s.mk x]) K) (fun vs Y=>G (acc++s.mk x::vs) Y):=hx
  exact exC_cur (G:=G) r (acc++[s.mk x]) (by simpa only [List.append_assoc,List.singleton_append] using hx')
 | .agg l::r,acc,h=>by
  have h':exCS l (curS l (fun vs=>curK r (acc++[.agg vs.toArray]) K)) (fun ws K'=>exC r K' (fun vs Y=>G (acc++(.agg ws.toArray::vs)) Y)):=h
  obtain ⟨ws,hw⟩:=exCS_cur l _ (fun ws K'=>exC r K' (fun vs Y=>G (acc++(.agg ws.toArray::vs)) Y)) h'
  exact exC_cur (G:=G) r (acc++[.agg ws.toArray]) (by simpa [List.append_assoc] using hw)
 | .bad::r,acc,h=>by
  obtain ⟨v,hx⟩:=h
  have hx':exC r (curK r (acc++[v]) K) (fun vs Y=>G (acc++v::vs) Y):=hx
  exact exC_cur (G:=G) r (acc++[v]) (by simpa only [List.append_assoc,List.singleton_append] using hx')
theorem callR_elim{l:List Ty}{K:Value->Wd->Prop}{X:PX}{e:Ending}{w':Wd}(h:callR l (curK l [] K) X e w'):(∃ v,e = .returned v/\K v w')∨∃ c,e = .panicked c/\X c w':=by
 rcases h with h | h
 .obtain ⟨vs,h1,h2⟩:=exC_cur (G:=fun vs Y=>e = .returned (tup vs)/\Y w') (K:=K) l [] (by simpa using h)
  exact .inl ⟨_,h1,h2⟩
 .exact .inr h
section
variable {X:PX} {rd:Bool}
theorem OpOk.of_value{o:Oper}{ε:Operand->Value}{K:Value->Wd->Prop}{v:Value}{w':Wd}(h:(execOp ε o).run P w = .ok (.value v) w')(hk:K v w'):OpOk P X rd o ε K w:=by
 unfold OpOk; rw [h]; exact hk
theorem OpOk.of_invk{o:Oper}{ε:Operand->Value}{l:List Ty}{K:Value->Wd->Prop}{s:Sem Next}(he:execOp ε o=s){rd':Bool}(hrd:rd'=true->rd=true)(h:Invk P rd' s w (callR l (curK l [] K) X)):OpOk P X rd o ε K w:=by
 unfold OpOk
 unfold Invk at h
 rw [he]
 generalize s.run P w=r at h
 split at h
 .exact Calls.mono h fun e w' he=>callR_elim he
 .exact ⟨hrd h.1,RoundIn.mono h.2 fun e w' he=>callR_elim he⟩
 .exact h.elim
theorem callFunc_run{n:Nat}{fn:Func}{args:Array Value}(hf:P.funcs[n]? = some fn)(hc:callable fn=true):(callFunc n args).run P w = .ok (.enter n args) w:=by
  simp only [callable,Bool.and_eq_true,Bool.not_eq_true'] at hc
  have h1:fn.body≠none:=by cases hb:fn.body <;> simp_all
  have h2 : fn.name ≠ "runtime.NumGoroutine" := by simpa using hc.2
  simp [callFunc,program,Sem.run,hf,h1,h2]
theorem OpOk.of_semT{o:Oper}{ε:Operand->Value}{l:List Ty}{K:Value->Wd->Prop}{s:Sem Value}(he:execOp ε o=(do pure (Next.value (<- s))))(h:semT P l s K w):OpOk P X rd o ε K w:=by
 obtain ⟨vs,w',h1,h2⟩:=exVs_elim _ _ h
 refine .of_value ?_ h2
 rw [he,Sem.run_bind,h1]; rfl
theorem OpOk.of_semU{o:Oper}{ε:Operand->Value}{K:Value->Wd->Prop}{s:Sem Unit}(he:execOp ε o=(do s; pure Next.skip))(h:semU P s K w):OpOk P X rd o ε K w:=by
 obtain ⟨w',h1,h2⟩:=h
 unfold OpOk
 rw [he,Sem.run_bind,h1]
 exact h2
theorem opW_sound{pk:Nat}{o:Oper}{ρ:Env}{K:Value->Wd->Prop}(h:opW P pk X rd o ρ K w):OpOk P X rd o (ev ρ) K w:=by
 obtain ⟨dst,op,type,pos,after,guard⟩:=o
 have plain:opP P ⟨dst,op,type,pos,after,guard⟩ ρ (fun v=>K v w)->OpOk P X rd ⟨dst,op,type,pos,after,guard⟩ (ev ρ) K w:=fun h=>by
  obtain ⟨v,hv,hk⟩:=opP_sound h
  exact .of_value (hv w) hk
 cases op <;> simp only [opW] at h <;> try exact plain h
 case lookup t x i ck=>exact .of_semT rfl h
 case mapUpdate t m k v=>exact .of_semU rfl h
 case insert t m k v=>exact .of_semU rfl h
 case range t x=>exact .of_semT rfl h
 case index t x i =>
  cases hq:isArrT P t with
  | true=>rw [hq] at h; exact .of_semT rfl h
  | false=>rw [hq] at h; exact plain h
 case build t parts =>
  cases hq:isArrT P t with
  | true=>rw [hq] at h; exact .of_semT rfl h
  | false=>rw [hq] at h; exact plain h
 case entry it =>
  obtain ⟨k,v,w',h1,h2⟩:=h
  exact .of_value (by simp only [execOp,Sem.run_bind,h1,Result.andThen_ok,Sem.run_pure]) h2
 case typeAssert x xt at_ ck=>exact .of_semT rfl h
 case next it isS =>
  rcases h with ⟨w',h1,h2⟩ | ⟨k,v,w',h1,h2⟩
  .exact .of_value (by simp only [execOp,Sem.run_bind,h1,Result.andThen_ok,Sem.run_pure]) h2
  .exact .of_value (by simp only [execOp,Sem.run_bind,h1,Result.andThen_ok,Sem.run_pure]) h2
 case makeMap t r =>
  cases r with
  | none =>
   refine .of_value (w':=World.pushBlk w (.map #[] 0)) (v := .map (some w.heap.size)) ?_ (h w.heap.size _ ⟨rfl,rfl⟩)
   simp [execOp,Instr.makeMap,newObj,Sem.run,World.pushBlk]
  | some r=>exact plain h
 case panic x =>
  unfold panicW at h
  split at h
  .rename_i t v hv
   unfold OpOk
   have:(execOp (ev ρ) ⟨dst, .panic x,type,pos,after,guard⟩).run P w = .halt (.panic (.iface t v)) w:=by
    simp [execOp,hv,Instr.panic,goPanic,Sem.run]
   rw [this]; exact h
  .exact h.elim
 case load t x =>
  obtain ⟨v,h1,h2⟩:=loadC_sound h
  exact .of_value (by simp only [execOp,Sem.run_bind,h1 w (fun _ _ h=>h),Result.andThen_ok,Sem.run_pure]) h2
 case store t x v =>
  obtain ⟨w',h1,h2⟩:=storeW_sound h
  unfold OpOk
  simp only [execOp,Sem.run_bind,h1,Result.andThen_ok,Sem.run_pure]
  exact h2
 case alloc t =>
  unfold allocW at h
  split at h
  .rename_i i hi
   split at h
   .rename_i z hz
    refine .of_value (w':=World.pushBlk w (.cells (cellsL z).toArray t)) (v := .pointer (some ⟨w.heap.size,0,none⟩)) ?_ (h w.heap.size _ ⟨rfl,rfl⟩)
    simp only [execOp,Instr.alloc,Sem.run_bind,run_zero hi hz,Result.andThen_ok,newVar,run_newRow,Sem.run_pure,cellsL_eq]
   .exact h.elim
  .exact h.elim
 case box t x =>
  have fin:∀{cs:List Value},(ev ρ x).cells=cs.toArray->(NewW w (.cells cs.toArray t) fun b w'=>K (.pointer (some ⟨b,0,none⟩)) w')->OpOk P X rd ⟨dst, .box t x,type,pos,after,guard⟩ (ev ρ) K w:=fun {cs} hc h=>by
   refine .of_value (w':=World.pushBlk w (.cells cs.toArray t)) (v := .pointer (some ⟨w.heap.size,0,none⟩)) ?_ (h w.heap.size _ ⟨rfl,rfl⟩)
   simp only [execOp,Instr.box,Sem.run_bind,Result.andThen_ok,newVar,run_newRow,Sem.run_pure,hc]
  cases hv:isValT P t with
  | true =>
   rw [hv] at h
   simp only [cond_true] at h
   refine fin ?_ h.2
   have h1:=h.1
   cases hx:ev ρ x <;> rw [hx] at h1 <;> first | rfl | cases h1
  | false=>rw [hv] at h; exact fin (by rw [cellsL_eq]) h
 case buildSlice t n ps =>
  obtain ⟨v,w',h1,h2⟩:=newSliceW_sound h
  exact .of_value (by simp only [execOp,Sem.run_bind,h1,Result.andThen_ok,Sem.run_pure]) h2
 case makeSlice t l c =>
  obtain ⟨v,w',h1,h2⟩:=makeW_sound h
  exact .of_value (by simp only [execOp,Sem.run_bind,h1,Result.andThen_ok,Sem.run_pure]) h2
 case binOp bo t x y ty =>
  cases y with
  | tmp j =>
   simp only at h
   cases hq:isPtrT P t with
   | true=>rw [hq] at h; exact .of_semT rfl h
   | false=>rw [hq] at h; exact plain h
  | const v =>
   cases v with
   | nilFunc=>exact .of_semT rfl h
   | map m =>
    cases m with
    | none=>exact .of_semT rfl h
    | some b=>exact plain h
   | _=>exact plain h
  | global g=>exact plain h
  | func n=>exact plain h
 case convert s d x =>
  cases hb:strBytesP P s d with
  | true=>rw [hb] at h; exact .of_semT rfl h
  | false =>
   rw [hb] at h
   simp only [cond_false] at h
   cases hq:ptrConvP P s d with
   | true=>rw [hq] at h; exact .of_semT rfl h
   | false =>
   rw [hq] at h
   simp only [cond_false] at h
   obtain ⟨v,h1,h2⟩:=convC_sound h
   exact .of_value (by simp only [execOp,Sem.run_bind,h1 w (fun _ _ h=>h),Result.andThen_ok,Sem.run_pure]) h2
 case call c =>
  obtain ⟨callee,args,argTypes⟩:=c
  have ea:args.map (ev ρ)=(args.toList.map (ev ρ)).toArray:=by apply Array.toList_inj.1; simp
  cases callee with
  | value f =>
   have dyn:dynV P rd (ev ρ f) (args.toList.map (ev ρ)) (resTys P type) (curK (resTys P type) [] K) X w->OpOk P X rd ⟨dst, .call ⟨.value f,args,argTypes⟩,type,pos,after,guard⟩ (ev ρ) K w:=fun h=>by
    refine .of_invk (s:=dynS (ev ρ f) (args.toList.map (ev ρ))) ?_ id h
    simp only [execOp,resolve,dynS,ea]
   cases f with
   | func n =>
    simp only at h
    unfold statV at h
    split at h
    .rename_i fn hfn
     have hx:(execOp (ev ρ) ⟨dst, .call ⟨.value (.func n),args,argTypes⟩,type,pos,after,guard⟩)=callFunc n (args.toList.map (ev ρ)).toArray:=by
      simp only [execOp,resolve,ev,Deferred.ofValue,pure_bind,invoke,ea]
      congr 1
      apply Array.toList_inj.1; simp
     cases hc:callable fn with
     | true =>
      rw [hc] at h
      simp only [cond_true] at h
      unfold OpOk
      rw [hx,callFunc_run hfn hc]
      cases hp:Nat.testBit pk n with
      | true =>
       rw [hp] at h
       refine Calls.mono h fun e w' he=>?_
       rcases he with he | he
       .obtain ⟨vs,h1,h2⟩:=exVs_elim _ _ he
        exact .inl ⟨_,h1,h2⟩
       .exact .inr he
      | false =>
       rw [hp] at h
       refine Calls.mono h fun e w' he=>?_
       obtain ⟨vs,h1,h2⟩:=exVs_elim _ _ he
       exact .inl ⟨_,h1,h2⟩
     | false =>
      rw [hc] at h
      simp only [cond_false] at h
      obtain ⟨vs,w',h1,h2⟩:=exVs_elim _ _ h
      exact .of_value (by rw [hx]; exact h1) h2
    .exact h.elim
   | tmp t=>exact dyn h
   | const v=>exact dyn h
   | global g=>exact dyn h
  | invoke r m =>
   refine .of_invk (s:=invoke (.fn (.method m) #[]) (#[ev ρ r]++(args.toList.map (ev ρ)).toArray)) ?_ (by simp) h
   simp only [execOp,resolve,pure_bind,ea]
  | builtin b =>
   cases b <;> simp only at h <;> try exact plain h
   case delete=>exact .of_semT (by simp only [execOp,resolve,pure_bind,invoke,builtin]) h
   case clear=>exact .of_semT (by simp only [execOp,resolve,pure_bind,invoke,builtin]) h
   case unsafeSliceData=>exact .of_semT (by simp only [execOp,resolve,pure_bind,invoke,builtin]) h
   case unsafeString=>exact .of_semT (by simp only [execOp,resolve,pure_bind,invoke,builtin]) h
   case max =>
    cases hm:Nat.beq args.toList.length 2 with
    | true=>rw [hm] at h; exact plain h
    | false=>rw [hm] at h; exact .of_semT (by simp only [execOp,resolve,pure_bind,invoke,builtin]) h
   case len =>
    cases hm:isMapT P argTypes.toList with
    | true=>rw [hm] at h; exact .of_semT (by simp only [execOp,resolve,pure_bind,invoke,builtin]) h
    | false=>rw [hm] at h; exact plain h
   case append =>
    split at h
    .rename_i s x t t' hs ht
     split at h
     .rename_i a n c hv
      obtain ⟨s',w',h1,h2⟩:=h
      refine .of_value ?_ h2
      have ea:args.map (ev ρ)=#[(⟨a,n,c⟩ : Sl).v,ev ρ x]:=by rw [map_arr,hs]; simp [hv]
      have et:argTypes=#[t,t']:=by apply Array.toList_inj.1; simp [ht]
      simp only [execOp,resolve,pure_bind,invoke,builtin,ea,et,Sem.run_bind,h1,Result.andThen_ok,Sem.run_pure]
     .exact h.elim
    .exact h.elim
   case copy =>
    split at h
    .rename_i s x t t' hs ht
     split at h
     .rename_i a n c hv
      obtain ⟨s',w',h1,h2⟩:=h
      refine .of_value ?_ h2
      have ea:args.map (ev ρ)=#[(⟨a,n,c⟩ : Sl).v,ev ρ x]:=by rw [map_arr,hs]; simp [hv]
      have et:argTypes=#[t,t']:=by apply Array.toList_inj.1; simp [ht]
      simp only [execOp,resolve,pure_bind,invoke,builtin,ea,et,Sem.run_bind,h1,Result.andThen_ok,Sem.run_pure]
     .exact h.elim
    .exact h.elim
end
theorem takeW_sound{S:Wd->Prop}{o:Oper}{ρ:Env}{K:Value->Prop}(h:takeW P S o ρ K):∃ v,(∀ w,S w->(execOp (ev ρ) o).run P w = .ok (.value v) w)/\K v:=by
 obtain ⟨dst,op,type,pos,after,guard⟩:=o
 have plain:opP P ⟨dst,op,type,pos,after,guard⟩ ρ K->∃ v,(∀ w,S w->(execOp (ev ρ) ⟨dst,op,type,pos,after,guard⟩).run P w = .ok (.value v) w)/\K v:=fun h=>by
  obtain ⟨v,hv,hk⟩:=opP_sound h
  exact ⟨v,fun w _=>hv w,hk⟩
 cases op <;> simp only [takeW] at h <;> try exact plain h
 case load t x =>
  obtain ⟨v,h1,h2⟩:=loadC_sound h
  exact ⟨v,fun w hS=>by simp only [execOp,Sem.run_bind,h1 w (fun _ _ h=>h w hS),Result.andThen_ok,Sem.run_pure],h2⟩
 case convert s d x =>
  obtain ⟨v,h1,h2⟩:=convC_sound h
  exact ⟨v,fun w hS=>by simp only [execOp,Sem.run_bind,h1 w (fun _ _ h=>h w hS),Result.andThen_ok,Sem.run_pure],h2⟩
end sound
def gW(ops:Array Oper)(o:Oper)(ρ:Env)(A B:Prop):Prop :=
 match o.guard with
 | none=>A
 | some (j,want)=>match (ops[j]?).bind (·.dst) with
  | some d=>match ρ d with
   | .bool b=>bif want then (bif b then A else B) else (bif b then B else A)
   | _=>B
  | none=>B
def splitW(g:Bool)(v:Value)(K:Value->Prop):Prop :=
 bif g then (match v with
  | .bool b=>If b (K (.bool true)) (K (.bool false))
  | v=>K v) else K v
def isG(ops:Array Oper)(i:Nat):Bool:=ops.toList.any fun o=>match o.guard with
 | some (j,_)=>Nat.beq j i
 | none=>false
def entTys(P:Program)(ops:Array Oper)(d:Option Tmp):Option (List Ty) :=
 match ops.toList.findSome? (fun o=>match o.op with
  | .extract (.tmp t) 0=>if d=some t then some (tyOf P o.type) else none
  | _=>none),ops.toList.findSome? (fun o=>match o.op with
  | .extract (.tmp t) 1=>if d=some t then some (tyOf P o.type) else none
  | _=>none) with
 | some a,some b=>some [a,b]
 | none,some (.one .ptr)=>some [.one .val, .one .ptr]
 | some (.one (.int k)),none=>some [.one (.int k), .one .val]
 | _,_=>none
def opE(P:Program)(pk:Nat)(X:PX)(ops:Array Oper)(o:Oper)(ρ:Env)(K:Value->Wd->Prop)(w:Wd):Prop :=
 match o.op with
 | .entry it=>match entTys P ops o.dst with
  | some l=>semT P l (Instr.entry (ev ρ it)) K w
  | none=>opW P pk X true o ρ K w
 | _=>opW P pk X true o ρ K w
def seqW(P:Program)(pk:Nat)(X:PX)(ops:Array Oper):Nat->List Oper->Env->(Env->Wd->Prop)->Wd->Prop
 | _,[],ρ,K,w=>K ρ w
 | i,o::r,ρ,K,w=>gW ops o ρ (opE P pk X ops o ρ (fun v w'=>splitW (isG ops i) v fun v=>seqW P pk X ops (i+1) r (putO ρ o.dst v) K w') w) (seqW P pk X ops (i+1) r (putO ρ o.dst undef) K w)
inductive Plan where
 | fin
 | last (i:Nat)
 | take (i:Nat) (r:Plan)
 | one (i:Nat) (r:Plan)
 | two (i:Nat) (ri:Plan) (j:Nat) (rj:Plan)
 | three (i:Nat) (ri:Plan) (j:Nat) (rj:Plan) (k:Nat) (rk:Plan)
 | four (i:Nat) (ri:Plan) (j:Nat) (rj:Plan) (k:Nat) (rk:Plan) (l:Nat) (rl:Plan)
def tkA:List Nat->Plan->Plan
 | [],p=>p
 | a::l,p => .take a (tkA l p)
def actW(P:Program)(pk:Nat)(X:PX)(ops:Array Oper)(S:Wd->Prop)(i:Nat)(next:Env->Wd->Prop)(ρ:Env)(w:Wd):Prop :=
 match ops[i]? with
 | some o=>gW ops o ρ (opW P pk X false o ρ (fun v w'=>S w'/\splitW (isG ops i) v fun v=>next (putO ρ o.dst v) w') w) (next (putO ρ o.dst undef) w)
 | none=>False
def planW(P:Program)(pk:Nat)(X:PX)(ops:Array Oper)(S:Wd->Prop):Plan->Env->(Env->Wd->Prop)->Wd->Prop
 | .fin,ρ,K,w=>K ρ w
 | .last i,ρ,K,w=>match ops[i]? with
  | some o=>gW ops o ρ (opW P pk X false o ρ (fun v w'=>splitW (isG ops i) v fun v=>K (putO ρ o.dst v) w') w) (K (putO ρ o.dst undef) w)
  | none=>False
 | .take i r,ρ,K,w=>match ops[i]? with
  | some o=>gW ops o ρ (takeW P S o ρ (fun v=>splitW (isG ops i) v fun v=>planW P pk X ops S r (putO ρ o.dst v) K w)) (planW P pk X ops S r (putO ρ o.dst undef) K w)
  | none=>False
 | .one i r,ρ,K,w=>actW P pk X ops S i (fun ρ' w'=>planW P pk X ops S r ρ' K w') ρ w
 | .two i ri j rj,ρ,K,w=>actW P pk X ops S i (fun ρ' w'=>planW P pk X ops S ri ρ' K w') ρ w/\actW P pk X ops S j (fun ρ' w'=>planW P pk X ops S rj ρ' K w') ρ w
 | .three i ri j rj k rk,ρ,K,w=>actW P pk X ops S i (fun ρ' w'=>planW P pk X ops S ri ρ' K w') ρ w/\actW P pk X ops S j (fun ρ' w'=>planW P pk X ops S rj ρ' K w') ρ w/\actW P pk X ops S k (fun ρ' w'=>planW P pk X ops S rk ρ' K w') ρ w
 | .four i ri j rj k rk l rl,ρ,K,w=>actW P pk X ops S i (fun ρ' w'=>planW P pk X ops S ri ρ' K w') ρ w/\actW P pk X ops S j (fun ρ' w'=>planW P pk X ops S rj ρ' K w') ρ w/\actW P pk X ops S k (fun ρ' w'=>planW P pk X ops S rk ρ' K w') ρ w/\actW P pk X ops S l (fun ρ' w'=>planW P pk X ops S rl ρ' K w') ρ w
def planOk(ops:Array Oper):Plan->Nat->Array Bool->Bool
 | .fin,_,li=>(Region.ready .any ops li).isEmpty
 | .last i,_+1,li=>Region.ready .any ops li == [i] && lastB ops i && (Region.ready .any ops (li.setIfInBounds i true)).isEmpty
 | .take i r,f+1,li=>Region.free .any ops li i && (Region.ready .any ops li).contains i && planOk ops r f (li.setIfInBounds i true)
 | .one i r,f+1,li=>Region.ready .any ops li == [i] && planOk ops r f (li.setIfInBounds i true)
 | .two i ri j rj,f+1,li=>Region.ready .any ops li == [i,j] && planOk ops ri f (li.setIfInBounds i true) && planOk ops rj f (li.setIfInBounds j true)
 | .three i ri j rj k rk,f+1,li=>Region.ready .any ops li == [i,j,k] && planOk ops ri f (li.setIfInBounds i true) && planOk ops rj f (li.setIfInBounds j true) && planOk ops rk f (li.setIfInBounds k true)
 | .four i ri j rj k rk l rl,f+1,li=>Region.ready .any ops li == [i,j,k,l] && planOk ops ri f (li.setIfInBounds i true) && planOk ops rj f (li.setIfInBounds j true) && planOk ops rk f (li.setIfInBounds k true) && planOk ops rl f (li.setIfInBounds l true)
 | _,0,_=>false
@[reducible] def Cur:List (Nat×Sh)->Type
 | []=>Wd->Prop
 | (_,s)::r=>s.T->Cur r
def appC:(l:List (Nat×Sh))->Cur l->Env->Wd->Prop
 | [],J,_,w=>J w
 | (t,s)::r,J,ρ,w=>s.get (ρ t) (fun x=>appC r (J x) ρ w)
def allC:(l:List (Nat×Sh))->Cur l->Env->(Env->Wd->Prop)->Prop
 | [],J,ρ,F=>∀ w,J w->F ρ w
 | (t,s)::r,J,ρ,F=>∀ x:s.T,allC r (J x) (put ρ t (s.mk x)) F
inductive Ann where
 | nil
 | seq (a b:Ann)
 | join (l:List (Nat×Sh)) (mask:Nat) (a b:Ann)
 | cond (a b:Ann)
 | block (a:Ann)
 | loop (l:List (Nat×Sh)) (mask:Nat) (a:Ann)
 | scope (a:Ann)
 | draw (p:Plan)
 | free
abbrev qz(a:Ann):Ann := .seq .nil a
abbrev n0:Ann := .nil
def thenE(next:Env->Wd->Prop)(Q:Exit->Env->Wd->Prop):Exit->Env->Wd->Prop
 | .normal,ρ,w=>next ρ w
 | e,ρ,w=>Q e ρ w
def blockE(id:Nat)(Q:Exit->Env->Wd->Prop):Exit->Env->Wd->Prop
 | .exit i,ρ,w=>bif Nat.beq i id then Q .normal ρ w else Q (.exit i) ρ w
 | e,ρ,w=>Q e ρ w
def scopeE(Q:Exit->Env->Wd->Prop):Exit->Env->Wd->Prop
 | .goto _,_,_=>False
 | e,ρ,w=>Q e ρ w
def drewW(w:Wd):Wd:={ w with drawn:=w.drawn+1 }
def condW(v:Value)(A B:Prop):Prop:=match v with
 | .bool b=>If b A B
 | _=>False
def stepW(P:Program)(pk:Nat)(X:PX)(ops:Array Oper)(i:Nat)(next:Env->Wd->Prop)(ρ:Env)(w:Wd):Prop :=
 match ops[i]? with
 | some o=>gW ops o ρ (opW P pk X false o ρ (fun v w'=>next (putO ρ o.dst v) w') w) (next (putO ρ o.dst undef) w)
 | none=>False
def afterB(ops:Array Oper)(i:Nat)(d:Nat->Bool):Bool:=match ops[i]? with
 | some o=>o.after.toList.all fun e=>!Region.binds .any e || d e.on
 | none=>false
abbrev doneB(d:Nat->Bool)(i:Nat):Nat->Bool:=fun j=>bif Nat.beq j i then true else d j
def freeW(P:Program)(pk:Nat)(X:PX)(ops:Array Oper)(K:Env->Wd->Prop)(ρ:Env)(w:Wd):Prop :=
 ∃ Inv:(Nat->Bool)->Env->Wd->Prop,Inv (fun _=>false) ρ w/\(∀ d ρ w,Inv d ρ w->(∀ i,i < ops.size->d i=true)->K ρ w) /\
  ∀ d ρ w,Inv d ρ w->∀ i,d i=false->afterB ops i d=true->stepW P pk X ops i (fun ρ' w'=>Inv (doneB d i) ρ' w') ρ w
def afterLt(ops:Array Oper):Bool:=(List.range ops.size).all fun i=>match ops[i]? with
 | some o=>o.after.toList.all fun e=>Nat.blt e.on i
 | none=>false
def wpc(P:Program)(pk:Nat)(X:PX):Ann->Code->(Exit->Env->Wd->Prop)->Env->Wd->Prop
 | .nil, .skip,Q,ρ,w=>Q .normal ρ w
 | .nil, .label _,Q,ρ,w=>Q .normal ρ w
 | .nil, .exit i,Q,ρ,w=>Q (.exit i) ρ w
 | .nil, .goto l,Q,ρ,w=>Q (.goto l) ρ w
 | .nil, .ret,Q,ρ,w=>Q .ret ρ w
 | .nil, .region _ ops false,Q,ρ,w=>seqW P pk X ops 0 ops.toList ρ (Q .normal) w
 | .draw p, .region _ ops true,Q,ρ,w=>∃ S:Wd->Prop,S (drewW w)/\planW P pk X ops S p ρ (Q .normal) (drewW w)
 | .free, .region _ ops true,Q,ρ,w=>freeW P pk X ops (Q .normal) ρ (drewW w)
 | .seq a b, .seq x y,Q,ρ,w=>wpc P pk X a x (thenE (wpc P pk X b y Q) Q) ρ w
 | .join l mask a b, .seq x y,Q,ρ,w=>∃ J:Cur l,wpc P pk X a x (thenE (appC l J) Q) ρ w/\∀ junk,allC l J (mix mask junk ρ) (wpc P pk X b y Q)
 | .cond a b, .cond c x y,Q,ρ,w=>condW (ev ρ c) (wpc P pk X a x Q ρ w) (wpc P pk X b y Q ρ w)
 | .block a, .block id c,Q,ρ,w=>wpc P pk X a c (blockE id Q) ρ w
 | .scope a, .scope c,Q,ρ,w=>wpc P pk X a c (scopeE Q) ρ w
 | .loop l mask a, .loop c,Q,ρ,w=>∃ I:Nat->Cur l,(∃ m,appC l (I m) ρ w)/\∀ junk m,allC l (I m) (mix mask junk ρ) (fun ρ' w'=>wpc P pk X a c (thenE (fun ρ'' w''=>∃ m',m' < m/\appC l (I m') ρ'' w'') Q) ρ' w')
 | _,_,_,_,_=>False
def maskO(mask:Nat):Option Nat->Bool
 | some d=>Nat.testBit mask d
 | none=>true
def maskC(mask:Nat):Code->Bool
 | .region _ ops _=>ops.toList.all fun o=>maskO mask o.dst
 | .seq a b=>maskC mask a && maskC mask b
 | .cond _ a b=>maskC mask a && maskC mask b
 | .block _ a=>maskC mask a
 | .scope a=>maskC mask a
 | .loop a=>maskC mask a
 | .skip | .label _ | .exit _ | .goto _ | .ret=>true
 | _=>false
def chk(P:Program)(n:Nat):Ann->Code->Bool
 | .nil, .region _ ops false=>ops.toList.all fun o=>dstOk n o.dst
 | .draw p, .region _ ops true=>(ops.toList.all fun o=>dstOk n o.dst) && Region.noSelect ops && P.follows .mixedOrders && planOk ops p ops.size (Array.replicate ops.size false)
 | .nil,_=>true
 | .free, .region _ ops true=>(ops.toList.all fun o=>dstOk n o.dst) && P.follows .mixedOrders && afterLt ops
 | .seq a b, .seq x y=>chk P n a x && chk P n b y
 | .join l mask a b, .seq x y=>chk P n a x && chk P n b y && maskC mask x && l.all fun p=>Nat.testBit mask p.1
 | .cond a b, .cond _ x y=>chk P n a x && chk P n b y
 | .block a, .block _ x=>chk P n a x
 | .scope a, .scope x=>chk P n a x
 | .loop l mask a, .loop x=>chk P n a x && maskC mask x && l.all fun p=>Nat.testBit mask p.1
 | _,_=>false
def noDraw:Code->Bool
 | .region _ _ d=>!d
 | .seq a b=>noDraw a && noDraw b
 | .cond _ a b=>noDraw a && noDraw b
 | .block _ a=>noDraw a
 | .scope a=>noDraw a
 | .loop a=>noDraw a
 | _=>true
def resW(P:Program):List ResultVar->Env->Wd->(List Value->Prop)->Prop
 | [],_,_,F=>F []
 | .tmp t::r,ρ,w,F=>resW P r ρ w (fun vs=>F (ρ t::vs))
 | .cell a t::r,ρ,w,F=>loadC (Cell w) P t (ρ a) (fun v=>resW P r ρ w (fun vs=>F (v::vs)))
def retK(P:Program)(tys:List Ty)(rs:List ResultVar)(K:CurT tys):Exit->Env->Wd->Prop
 | .ret,ρ,w=>resW P rs ρ w (fun vs=>getC tys vs K w)
 | .normal,ρ,w=>resW P rs ρ w (fun vs=>getC tys vs K w)
 | _,_,_=>False
abbrev RowR(k:IntKind)(n:Nat)(vs:List Value)(K:List Int->List Value->Prop):Prop:=∃ l:List Int,l.length=n/\vs.take n=l.map (Value.int k)/\K l (vs.drop n)
theorem RowR.mk{k:IntKind}{n:Nat}{l:List Int}{X:Type}{K:List Int->X}{F:X->Prop}(hl:l.length=n)(h:F (K l)):RowR k n (List.map (Value.int k) l++[]) fun l2 vs=>getCS [] vs (K l2) F:=by
 refine ⟨l,hl,by rw [List.append_nil]; exact List.take_of_length_le (by simp [hl]),?_⟩
 have e:List.drop n (List.map (Value.int k) l++[])=[]:=by rw [List.append_nil]; exact List.drop_eq_nil_of_le (by simp [hl])
 simp only [e]
 exact h
end Go.V
